/-
  A region with marks whose last operations wait for all of it, with what is known in each of its phases. No program is named here.
-/
import Derived.Test.YtajddbmmbhdnfaaLawEnd
import Derived.Test.YtajddbmmbhdnfaaStC
import Derived.Test.YtajddbmmbhdnfaaSr4
import Derived.Defers
import Derived.Recover
import Derived.Test.YtajddbmmbhdnfaaEx1
import Derived.Test.YtajddbmmbhdnfaaStR
import Derived.Test.YtajddbmmbhdnfaaBlk
import Derived.Laws.StructEq
import Derived.Test.YtajddbmmbhdnfaaEx7
import Derived.OpenShut
import Derived.Test.YtajddbmmbhdnfaaChecked
import Derived.Test.YtajddbmmbhdnfaaSettle3
import Derived.Test.YtajddbmmbhdnfaaMhLaw
import Derived.Test.YtajddbmmbhdnfaaMh1
import Derived.Lib.AppendZeros
import Derived.Deep.RegionWith
import Derived.BigQuiet
import Derived.Test.YtajddbmmbhdnfaaMark
import Derived.Test.YtajddbmmbhdnfaaMarkT

namespace Go.Proofs.Ytajddbmmbhdnfaa
set_option linter.unusedVariables false
set_option linter.unusedSimpArgs false
set_option maxRecDepth 100000
open Go.ChangeShapes Go.WideShapes Go.ChangeAt Go.RowKit

theorem open_arg_stmts {H : Type} {enc : TypeId × Value → H} {W : World} {base : Nat} {v : Value} {d : DataW H} {p : List MemPlace} (hv : Value.okWide Try.prog W .any base 48 v) (h : DataW.Trod enc Try.prog W 0 (fun _ => true) true 48 v d p) (hlt : ∀ x ∈ p, x.block < W.heap.size) :
    ∃ (A : Option Addr) (n c : Nat) (t : St.P), v = .slice A n c ∧ IsP W (.slice A n c) t ∧ t.size ≤ Rows.uptoBulk d := by
  obtain ⟨a, len, cap, rfl⟩ := okWide_slice Try.underlying48 hv
  obtain ⟨fuel, hf⟩ := h
  obtain ⟨A, n, c, t, e, h1, h2, h3, h4⟩ := open_stmts fuel (.slice a len cap) (d, p) (by simpa [Value.cells] using hf) hlt
  exact ⟨a, len, cap, t, rfl, ⟨A, n, c, e, h1, h2, h3⟩, h4⟩

end Go.Proofs.Ytajddbmmbhdnfaa


namespace Go.Proofs.Ytajddbmmbhdnfaa
set_option linter.unusedVariables false
set_option linter.unusedSimpArgs false
set_option maxRecDepth 100000
open Go.RowKit

theorem wrong_any (p : St.P) (w : World) (B n c : Nat) (A : Option Addr) (fuel : Int) (hB : B ≤ w.heap.size) (hp : PR B w A n p) (hnc : n ≤ c) (hc : c ≤ maxLen) (hsz : p.size ≤ 549755813888) :
    Calls Try.prog 40 #[.slice A n c, .int .i64 fuel] w fun e w' => e = .returned (.int .i64 (if Sr.free p ≠ [] then 4 else if fuel < 0 ∨ 2000 < fuel then 2 else 0)) ∧ Below w.heap.size w w' := by
  have hg := free_any p w B n c A hB hp hnc hc hsz
  have hlen := Sr.fr_length p [] []
  obtain ⟨fs, hfs⟩ : ∃ fs, fs = Sr.free p := ⟨_, rfl⟩
  have hl : fs.length ≤ 549755813888 := by rw [hfs]; unfold Sr.free; simp at hlen; omega
  rw [← hfs] at hg ⊢
  clear hfs hp hlen
  by_cases h0 : fs = []
  · subst h0
    by_cases h1 : fuel < 0
    · have g1 : decide (fuel < 0) = true := by simpa using h1
      go_enter Try.func40, Try.ntmps40
      go_wp2_with fail
      refine hg.mono ?_
      rintro e w1 ⟨v, rfl, hr, hb⟩
      obtain ⟨V, cV, rfl, -, -⟩ := own_slice hr
      have HB := Lib.hid hb
      clear hg hr hb
      go_wp2
      go_ret
      exact ⟨rfl, HB.out⟩
    · by_cases h2 : 2000 < fuel
      · have g1 : decide (fuel < 0) = false := by simpa using h1
        have g2 : decide (2000 < fuel) = true := by simpa using h2
        go_enter Try.func40, Try.ntmps40
        go_wp2_with fail
        refine hg.mono ?_
        rintro e w1 ⟨v, rfl, hr, hb⟩
        obtain ⟨V, cV, rfl, -, -⟩ := own_slice hr
        have HB := Lib.hid hb
        clear hg hr hb
        go_wp2
        go_ret
        exact ⟨rfl, HB.out⟩
      · have g1 : decide (fuel < 0) = false := by simpa using h1
        have g2 : decide (2000 < fuel) = false := by simpa using h2
        go_enter Try.func40, Try.ntmps40
        go_wp2_with fail
        refine hg.mono ?_
        rintro e w1 ⟨v, rfl, hr, hb⟩
        obtain ⟨V, cV, rfl, -, -⟩ := own_slice hr
        have HB := Lib.hid hb
        clear hg hr hb
        go_wp2
        go_ret
        exact ⟨rfl, HB.out⟩
  · have hpos : 0 < fs.length := List.length_pos_iff.2 h0
    have g0 : decide ((0 : Int) < (fs.length : Int)) = true := by simpa using hpos
    have H0 := Lib.hid h0
    clear h0
    go_enter Try.func40, Try.ntmps40
    go_wp2_with fail
    refine hg.mono ?_
    rintro e w1 ⟨v, rfl, hr, hb⟩
    obtain ⟨V, cV, rfl, -, -⟩ := own_slice hr
    have HB := Lib.hid hb
    clear hg hr hb
    go_wp2
    go_ret
    exact ⟨rfl, HB.out⟩

theorem two_blocks (w : World) (c0 c1 : List Value) (t0 t1 : TypeId) : Blk ((w.alloc (.cells c0.toArray t0)).alloc (.cells c1.toArray t1)) w.heap.size t0 c0 ∧ Blk ((w.alloc (.cells c0.toArray t0)).alloc (.cells c1.toArray t1)) (w.heap.size + 1) t1 c1 ∧ ((w.alloc (.cells c0.toArray t0)).alloc (.cells c1.toArray t1)).heap.size = w.heap.size + 1 + 1 ∧ Keeps (fun _ => False) w ((w.alloc (.cells c0.toArray t0)).alloc (.cells c1.toArray t1)) := by
  have h0 := Blk.new w t0 c0
  have h1 := Blk.new (w.alloc (.cells c0.toArray t0)) t1 c1
  rw [show (w.alloc (.cells c0.toArray t0)).heap.size = w.heap.size + 1 by simp] at h1
  exact ⟨h0.alloc _, h1, by simp, ((Keeps.refl _ w).alloc _).alloc _⟩

def spent' : List PanicEntry := [{ v := .iface 113 (.agg #[]), recovered := true }]
/-- the deferred function behind a run that did: nothing -/
theorem catch_idle (p q : Addr) (w : World) :
    CallsD Try.prog 41 #[.pointer (some p), .pointer (some q)] .returning w fun e u' w' => e = .returned (.tuple #[]) ∧ u' = .returning ∧ w' = w := by
  refine callsD_of_wpS Try.func41 rfl fun c₀ cs hu => ?_
  apply wpS_seq
  apply wpS_region
  simp [wpOpsS, go_sem, recoverD, hu, Try.ntmps41, Exit.thenS]
  apply wpS_seq
  apply wpS_region
  simp [wpOpsS, go_sem, Exit.thenS]
  refine wpS_cond (t := false) (by simp [Act.eval, Array.replicate]) ?_
  simp only [Bool.false_eq_true, if_false]
  refine wpS_of_wp (wp_skip ?_)
  cases c₀
  simp_all [bodyPostS, results, Try.results41]
theorem catch_spent (q6 q7 : Nat) (v6 v7 : Value) (w : World) (h6 : Blk w q6 92 [v6]) (h7 : Blk w q7 32 [v7]) (hne : q6 ≠ q7) :
    CallsD Try.prog 41 #[.pointer (some ⟨q6, 0, none⟩), .pointer (some ⟨q7, 0, none⟩)] (.panicking spent) w fun e u' w' =>
      e = .returned (.tuple #[]) ∧ u' = .panicking spent' ∧ ∃ q, w.heap.size ≤ q ∧ Blk w' q 96 (Sr.rcells 0 (Sr.M0 Sr.zeros) (.slice none 0 0)) ∧ Blk w' q6 92 [.pointer (some ⟨q, 0, none⟩)] ∧ Blk w' q7 32 [.int .i64 5] ∧ Keeps (fun k => k = q6 ∨ k = q7) w w' := by
  refine callsD_of_wpS Try.func41 rfl fun c₀ cs hu => ?_
  apply wpS_seq
  apply wpS_region
  unfold spent at hu
  simp [wpOpsS, go_sem, recoverD, hu, Try.ntmps41, Exit.thenS]
  apply wpS_seq
  apply wpS_region
  simp [wpOpsS, go_sem, Exit.thenS]
  refine wpS_cond (t := true) (by simp [Act.eval, Array.replicate]) ?_
  simp only [if_true]
  refine wpS_of_wp ?_
  have hta : ∀ w, (Instr.typeAssert (.iface 113 (.agg #[])) 20 113 true).run Try.prog w = .ok (.tuple #[.agg #[], .bool true]) w := fun w => by kernel_rfl
  clear hu
  have hq6 := h6.lt
  have hq7 := h7.lt
  obtain ⟨a0, a1, hz, hk⟩ := two_blocks w [] [.int .i64 0, .int .i64 0, .int .i64 0, .int .i64 0, .int .i64 0, .int .i64 0, .int .i64 0, .int .i64 0, .int .i64 0, .int .i64 0, .slice none 0 0] 113 96
  have hB6 := h6.keeps hk id
  have hB7 := h7.keeps hk id
  have hend : ∀ w3 w4, ((w.alloc (.cells ([] : List Value).toArray 113)).alloc (.cells ([.int .i64 0, .int .i64 0, .int .i64 0, .int .i64 0, .int .i64 0, .int .i64 0, .int .i64 0, .int .i64 0, .int .i64 0, .int .i64 0, .slice none 0 0] : List Value).toArray 96)).grownBy w3 (some q6) → w3.grownBy w4 (some q7) → Blk w3 q6 92 [.pointer (some ⟨w.heap.size + 1, 0, none⟩)] → Blk w4 q7 32 [.int .i64 5] →
      ∃ q, w.heap.size ≤ q ∧ Blk w4 q 96 (Sr.rcells 0 (Sr.M0 Sr.zeros) (.slice none 0 0)) ∧ Blk w4 q6 92 [.pointer (some ⟨q, 0, none⟩)] ∧ Blk w4 q7 32 [.int .i64 5] ∧ Keeps (fun k => k = q6 ∨ k = q7) w w4 := fun w3 w4 g3 g4 b6 b7 =>
    ⟨w.heap.size + 1, by omega, (a1.grown g3 (fun e => by injection e with e; omega)).grown g4 (fun e => by injection e with e; omega), b6.grown g4 (fun e => by injection e with e; exact hne e), b7,
      ((hk.mono (fun _ h => h.elim)).trans ((Keeps.of_grown g3).mono (fun k e => .inl (by injection e)))).trans ((Keeps.of_grown g4).mono (fun k e => .inr (by injection e)))⟩
  have hB73 : ∀ w3, ((w.alloc (.cells ([] : List Value).toArray 113)).alloc (.cells ([.int .i64 0, .int .i64 0, .int .i64 0, .int .i64 0, .int .i64 0, .int .i64 0, .int .i64 0, .int .i64 0, .int .i64 0, .int .i64 0, .slice none 0 0] : List Value).toArray 96)).grownBy w3 (some q6) → Blk w3 q7 32 [v7] := fun w3 g3 => hB7.grown g3 (fun e => by injection e with e; exact hne e.symm)
  have HE := Lib.hid (And.intro hend hB73)
  clear hend hB73 hB7 a0 a1 hk hz h6 h7
  change Code.wp _ _ _ { tmps := #[.pointer (some ⟨q6, 0, none⟩), .pointer (some ⟨q7, 0, none⟩), .iface 113 (.agg #[]), undef, undef, .iface 113 (.agg #[]), .iface 113 (.agg #[]), .bool true, undef, undef, undef, undef, undef, undef, undef, undef, undef, undef], defers := [] } _
  go_wp2_with (first | (refine wpl_set_blk hB6 0 (.pointer (some ⟨w.heap.size + 1, 0, none⟩)) (by kernel_rfl) (by simp) rfl rfl rfl rfl rfl rfl ?_; intro w3 hB63 hg3; have hB7 := HE.out.2 w3 hg3) | (refine wpl_set_blk hB7 0 (.int .i64 5) (by kernel_rfl) (by simp) rfl rfl rfl rfl rfl rfl ?_; intro w4 hB74 hg4) | fail)
  simp [bodyPostS, results, Try.results41]
  exact ⟨rfl, HE.out.1 w3 w4 hg3 hg4 hB63 hB74⟩
end Go.Proofs.Ytajddbmmbhdnfaa


namespace Go.Proofs.Ytajddbmmbhdnfaa
set_option linter.unusedVariables false
set_option linter.unusedSimpArgs false
set_option maxRecDepth 100000
open Go.RowKit

def RunEnd (w : World) (p : St.P) (h : List Int) (fuel : Int) : Ending → World → Prop := fun e w' => ∃ g F vt, e = .returned (.tuple #[.pointer (some ⟨g, 0, none⟩), .int .i64 (Sr.err p h fuel)]) ∧ RnO w.heap.size w' g F (Sr.fin p h fuel) vt ∧ Sr.Fit F (Sr.fin p h fuel) ∧ Below w.heap.size w w'

theorem Sr.err_of {p : St.P} {h : List Int} {fuel E0 : Int} (hE : E0 = (if Sr.free p ≠ [] then 4 else if fuel < 0 ∨ 2000 < fuel then 2 else 0)) : (E0 ≠ 0 → Sr.err p h fuel = E0 ∧ Sr.fin p h fuel = Sr.M0 Sr.zeros) ∧ (E0 = 0 → (0 ≤ fuel ∧ fuel ≤ 2000) ∧ (fuel < (Sr.go p h).steps → Sr.err p h fuel = 5 ∧ Sr.fin p h fuel = Sr.M0 Sr.zeros) ∧ ((Sr.go p h).steps ≤ fuel → Sr.err p h fuel = 0 ∧ Sr.fin p h fuel = Sr.go p h)) := by
  unfold Sr.fin Sr.err
  by_cases h1 : Sr.free p ≠ []
  · rw [if_pos h1] at hE
    subst hE
    refine ⟨fun _ => ?_, fun h => absurd h (by decide)⟩
    rw [if_pos h1]
    exact ⟨rfl, by simp⟩
  rw [if_neg h1] at hE ⊢
  by_cases h2 : fuel < 0 ∨ 2000 < fuel
  · rw [if_pos h2] at hE
    subst hE
    refine ⟨fun _ => ?_, fun h => absurd h (by decide)⟩
    rw [if_pos h2]
    exact ⟨rfl, by simp⟩
  rw [if_neg h2] at hE ⊢
  refine ⟨fun h => absurd hE h, fun _ => ⟨by omega, fun h3 => ?_, fun h3 => ?_⟩⟩
  · rw [if_pos h3]
    exact ⟨rfl, by simp⟩
  · rw [if_neg (by omega)]
    exact ⟨rfl, by simp⟩
theorem Own.lower {B B' g : Nat} {t : TypeId} {cs : List Value} {rs : List Rw} {w : World} (h : Own B w g t cs rs) (hB : B' ≤ B) : Own B' w g t cs rs :=
  ⟨h.blk, fun r hr => own_base (h.rows r hr) hB, h.ap, h.ng, Nat.le_trans hB h.base, Nat.le_trans hB h.lo⟩
theorem Sr.own_new {w : World} {q F : Nat} {h : List Int} (hq : Blk w q 96 (Sr.rcells F (Sr.M0 h) (.slice none 0 0))) {B : Nat} (hB : B ≤ q) : RnO B w q F (Sr.M0 h) (.slice none 0 0) := by
  have := hq.lt
  refine ⟨hq, fun r hr => ?_, fun i j r s hr hs hij k hk => ?_, fun r hr => ?_, by omega, hB⟩
  · rw [List.mem_singleton.1 hr]; exact World.ownsRow_nil _ _ _ _
  · have hi := (List.getElem?_eq_some_iff.1 hr).1
    have hj := (List.getElem?_eq_some_iff.1 hs).1
    simp [Sr.rows] at hi hj
    omega
  · rw [List.mem_singleton.1 hr]; simp [Value.ownBlock]

theorem Sr.fit0 : Sr.Fit 0 (Sr.M0 Sr.zeros) := ⟨rfl, by intro x hx; simp [Sr.M0, Sr.zeros] at hx; subst hx; unfold Ex.rng; omega, Nat.le_refl _, Nat.le_refl _⟩

set_option maxHeartbeats 1000000 in
theorem run_any (p : St.P) (h : List Int) (fuel : Int) (w : World) (B n c : Nat) (A : Option Addr) (hB : B ≤ w.heap.size) (hp : PR B w A n p) (hnc : n ≤ c) (hc : c ≤ maxLen) (hsz : p.size ≤ 274877906944) (hh : h.length = 8) (hr : ∀ x ∈ h, Ex.rng x) :
    Calls Try.prog 35 #[.slice A n c, .agg (ints .i64 h).toArray, .int .i64 fuel] w (RunEnd w p h fuel) := by
  have hmf : ∀ (fn : Fn) (first cap : Array Value) (w : World), (Instr.makeFunc fn first cap).run Try.prog w = .ok (.func fn first cap) w := fun _ _ _ _ => rfl
  obtain ⟨b0, b1, b2, b3, b4, b5, b6, b7, rfl⟩ := Sr.heap8 hh
  obtain ⟨x0, x1, x2, hz, hb0⟩ := allocs3 w (ints .i64 [b0, b1, b2, b3, b4, b5, b6, b7]) [.pointer none] [.int .i64 0] 50 92 32
  have hw := wrong_any p _ B n c A fuel (Nat.le_trans hB hb0.size) (hp.later (hb0.mono hB)) hnc hc (by omega)
  simp only [ints, List.map_cons, List.map_nil] at x0 x1 x2 hz hb0 hw ⊢
  have hp := hp.up hB
  obtain ⟨E0, hE0⟩ : ∃ E0 : Int, E0 = (if Sr.free p ≠ [] then 4 else if fuel < 0 ∨ 2000 < fuel then 2 else 0) := ⟨_, rfl⟩
  rw [← hE0] at hw
  have hE := Lib.hid hE0
  clear hE0
  go_enter_defers Try.func35, Try.ntmps35
  go_wp2_with fail
  obtain ⟨Q, hQ⟩ : ∃ Q, Q = w.heap.size := ⟨_, rfl⟩
  generalize (((w.alloc (.cells #[.int .i64 b0, .int .i64 b1, .int .i64 b2, .int .i64 b3, .int .i64 b4, .int .i64 b5, .int .i64 b6, .int .i64 b7] 50)).alloc (.cells #[.pointer none] 92)).alloc (.cells #[.int .i64 0] 32)) = W0 at x0 x1 x2 hz hb0 hw ⊢
  rw [← hQ] at x0 x1 x2 hz ⊢
  obtain ⟨q6, h6⟩ : ∃ q6, q6 = Q + 1 := ⟨_, rfl⟩
  obtain ⟨q7, h7⟩ : ∃ q7, q7 = Q + 1 + 1 := ⟨_, rfl⟩
  rw [← h7, ← h6]
  rw [← h7] at x2
  rw [← h6] at x1
  have HQ := Lib.hid (And.intro hQ (And.intro h6 (And.intro h7 hz)))
  clear hQ h6 h7 hz
  refine hw.mono ?_
  rintro e w1 ⟨rfl, hb1⟩
  have X0 := x0.below hb1
  have X1 := x1.below hb1
  have X2 := x2.below hb1
  have hbw := below_next hb1 hb0
  have hs1 := hb1.size
  have HB := Lib.hid (And.intro hbw hs1)
  clear hw x0 x1 x2 hb0 hb1 hbw hs1
  by_cases h0 : E0 = 0
  · obtain ⟨hfr, hout, hin⟩ := (Sr.err_of (h := [b0, b1, b2, b3, b4, b5, b6, b7]) hE.out).2 h0
    subst h0
    obtain ⟨F, rfl⟩ := Int.eq_ofNat_of_zero_le hfr.1
    have d0 := (X0.cell 0).trans rfl
    have d1 := (X0.cell 1).trans rfl
    have d2 := (X0.cell 2).trans rfl
    have d3 := (X0.cell 3).trans rfl
    have d4 := (X0.cell 4).trans rfl
    have d5 := (X0.cell 5).trans rfl
    have d6 := (X0.cell 6).trans rfl
    have d7 := (X0.cell 7).trans rfl
    simp only [List.getElem?_cons_zero, List.getElem?_cons_succ] at d0 d1 d2 d3 d4 d5 d6 d7
    have hzb := Blk.new w1 96 [.int .i64 b0, .int .i64 b1, .int .i64 b2, .int .i64 b3, .int .i64 b4, .int .i64 b5, .int .i64 b6, .int .i64 b7, .int .i64 (F : Int), .int .i64 0, .slice none 0 0]
    have Y1 := X1.alloc (.cells [.int .i64 b0, .int .i64 b1, .int .i64 b2, .int .i64 b3, .int .i64 b4, .int .i64 b5, .int .i64 b6, .int .i64 b7, .int .i64 (F : Int), .int .i64 0, .slice none 0 0].toArray 96)
    have Y2 := X2.alloc (.cells [.int .i64 b0, .int .i64 b1, .int .i64 b2, .int .i64 b3, .int .i64 b4, .int .i64 b5, .int .i64 b6, .int .i64 b7, .int .i64 (F : Int), .int .i64 0, .slice none 0 0].toArray 96)
    have hq7 := X2.lt
    have hq6 := X1.lt
    have HY := Lib.hid (And.intro Y2 hzb)
    clear Y2 hzb X0 X1 X2
    go_wp2_with (first | (refine wpl_set_blk Y1 0 (.pointer (some ⟨w1.heap.size, 0, none⟩)) (by kernel_rfl) (by simp) rfl rfl rfl rfl rfl rfl ?_; intro w3 hB3 hg3; have e6 := (hB3.cell 0).trans rfl; simp only [List.set_cons_zero, List.getElem?_cons_zero] at e6) | fail)
    have hbw3 : Below w.heap.size w w3 := (below_alloc HB.out.1 _).grown hg3 (by simp; have := HQ.out; have := HB.out; omega) (fun k e => by injection e with e; have := HQ.out; omega)
    have hg : w1.heap.size < w3.heap.size := by have := hg3.size; simp at this; omega
    have hzb3 : Blk w3 w1.heap.size 96 (Sr.rcells F (Sr.M0 [b0, b1, b2, b3, b4, b5, b6, b7]) (.slice none 0 0)) := HY.out.2.grown hg3 (fun e => by injection e with e; omega)
    have hO := Sr.own_new hzb3 (B := W0.heap.size) HB.out.2
    have hp3 : PR W0.heap.size w3 A n p := (hp.later hbw3).up (by have := HQ.out; omega)
    have hfit : Sr.Fit F (Sr.M0 [b0, b1, b2, b3, b4, b5, b6, b7]) := ⟨rfl, hr, Nat.zero_le _, Nat.le_refl _⟩
    have henv : EnvAt w3 (RnT w1.heap.size (Sr.M0 [b0, b1, b2, b3, b4, b5, b6, b7]) (.slice none 0 0)) (.slice none 0 0) [] := ⟨SlV.nil _ _, (by intro i hi; cases hi), (by intro i hi; cases hi), (by intro z hz; cases hz)⟩
    have hblk := block_any p w3 W0.heap.size n c w1.heap.size F A (.slice none 0 0) (.slice none 0 0) (Sr.M0 [b0, b1, b2, b3, b4, b5, b6, b7]) [] 0 hp3 hnc hc hO hfit (by omega) henv (by simp; omega) (by omega)
    rw [show Sr.run p (Ex.bs []) 0 (Sr.M0 [b0, b1, b2, b3, b4, b5, b6, b7]) = Sr.go p [b0, b1, b2, b3, b4, b5, b6, b7] from rfl] at hblk
    have hb7 : Blk w3 q7 32 [.int .i64 0] := HY.out.1.grown hg3 (fun e => by injection e with e; have := HQ.out; omega)
    have hrng : ∀ x ∈ (Sr.go p [b0, b1, b2, b3, b4, b5, b6, b7]).heap, Ex.rng x := Sr.run_rng p [] 0 _ hp.ok (by intro b hb; cases hb) hr
    have hon := Sr.run_on p [] 0 (Sr.M0 [b0, b1, b2, b3, b4, b5, b6, b7])
    have hoff : ∀ k, RnT w1.heap.size (Sr.M0 [b0, b1, b2, b3, b4, b5, b6, b7]) (.slice none 0 0) k → W0.heap.size ≤ k := fun k hk => hO.ge hk
    refine hblk.mono ?_
    clear hblk d0 d1 d2 d3 d4 d5 d6 d7 hp3 henv hO hzb3 e6 hg
    rintro e w4 (⟨h1, rfl, vt4, hT⟩ | ⟨h1, rfl, hk⟩)
    · have B6 := hB3.keeps hT.kp (fun hh => by have := hoff _ hh; have := HQ.out; omega)
      have B7 := hb7.keeps hT.kp (fun hh => by have := hoff _ hh; have := HQ.out; omega)
      have hbw4 : Below w.heap.size w w4 := hbw3.trans (hT.kp.below (by have := hbw3.size; omega) (fun k hk => by have := hoff k hk; have := HQ.out; omega))
      have hlo : ∀ k, RnT w1.heap.size (Sr.go p [b0, b1, b2, b3, b4, b5, b6, b7]) vt4 k → W0.heap.size ≤ k := fun k hk => hT.own.ge hk
      have e6 := (B6.cell 0).trans rfl
      simp only [List.set_cons_zero, List.getElem?_cons_zero] at e6 B6
      have hw4 := hT.own.base
      have HZ := Lib.hid (And.intro hT (And.intro hbw4 (And.intro hlo (And.intro h1 hw4))))
      have B75 : ∀ w5, w4.grownBy w5 (some q6) → Blk w5 q7 32 [.int .i64 0] := fun w5 g5 => B7.grown g5 (fun e => by injection e with e; have := HQ.out; omega)
      clear hT hbw4 hlo B7 hbw3 hg3 hB3 hb7 Y1 hoff
      go_wp2_with (first | (refine wpl_set_blk B6 0 (.pointer (some ⟨w1.heap.size, 0, none⟩)) (by kernel_rfl) (by simp) rfl rfl rfl rfl rfl rfl ?_; intro w5 B65 hg5; have B7 := B75 w5 hg5) | (refine wpl_set_blk B7 0 (.int .i64 0) (by kernel_rfl) (by simp) rfl rfl rfl rfl rfl rfl ?_; intro w6 B76 hg6) | fail)
      refine leaves_cons (f := 41) (args := #[.pointer (some ⟨q6, 0, none⟩), .pointer (some ⟨q7, 0, none⟩)]) (by simp) (by simp [go_sem]) ?_
      refine (catch_idle ⟨q6, 0, none⟩ ⟨q7, 0, none⟩ _).mono ?_
      rintro e u' w'' ⟨rfl, rfl, rfl⟩
      have f6 : w''.cell? ⟨q6, 0, none⟩ = some (.pointer (some ⟨w1.heap.size, 0, none⟩)) := ((B65.grown hg6 (fun e => by injection e with e; have := HQ.out; omega)).cell 0).trans rfl
      have f7 : w''.cell? ⟨q7, 0, none⟩ = some (.int .i64 0) := (B76.cell 0).trans rfl
      simp [Leaves, settle, results, Try.results35, go_sem, f6, f7]
      obtain ⟨hT, hbw4, hlo, h1, hw4⟩ := HZ.out
      obtain ⟨he, hf⟩ := hin (by exact_mod_cast h1)
      have k6 : Keeps (fun k => k = q6 ∨ k = q7) w4 w'' := ((Keeps.of_grown hg5).mono (fun k e => .inl (by injection e))).trans ((Keeps.of_grown hg6).mono (fun k e => .inr (by injection e)))
      have hO6 := hT.own.keeps k6 (fun i hi e => by have := hlo i hi; have := HQ.out; omega)
      refine ⟨w1.heap.size, F, vt4, by rw [he], ?_, ?_, ?_⟩
      · rw [hf]; exact hO6.lower (by have := HQ.out; omega)
      · rw [hf]; exact hfit.on hon hrng h1
      · exact hbw4.trans (k6.below (by have := HQ.out; omega) (fun k hk => by have := HQ.out; omega))
    · have B6 := hB3.keeps hk (fun hh => by have := hoff _ hh; have := HQ.out; omega)
      have B7 := hb7.keeps hk (fun hh => by have := hoff _ hh; have := HQ.out; omega)
      have hbw4 : Below w.heap.size w w4 := hbw3.trans (hk.below (by have := hbw3.size; omega) (fun k hk => by have := hoff k hk; have := HQ.out; omega))
      have hs4 := hbw4.size
      clear hk hbw3 hg3 hB3 hb7 Y1 hoff
      go_wp2
      refine leaves_cons (f := 41) (args := #[.pointer (some ⟨q6, 0, none⟩), .pointer (some ⟨q7, 0, none⟩)]) (by simp) (by simp [go_sem]) ?_
      refine (catch_spent q6 q7 _ _ _ B6 B7 (by have := HQ.out; omega)).mono ?_
      rintro e u' w5 ⟨rfl, rfl, q, hq, bq, b6, b7, k5⟩
      have f6 : w5.cell? ⟨q6, 0, none⟩ = some (.pointer (some ⟨q, 0, none⟩)) := (b6.cell 0).trans rfl
      have f7 : w5.cell? ⟨q7, 0, none⟩ = some (.int .i64 5) := (b7.cell 0).trans rfl
      unfold spent'
      simp [Leaves, settle, results, Try.results35, go_sem, f6, f7]
      obtain ⟨he, hf⟩ := hout (by exact_mod_cast h1)
      refine ⟨q, 0, .slice none 0 0, by rw [he], ?_, ?_, ?_⟩
      · rw [hf]; exact Sr.own_new bq (by omega)
      · rw [hf]; exact Sr.fit0
      · exact hbw4.trans (k5.below hs4 (fun k hk => by have := HQ.out; omega))
  · have hne : (E0 != 0) = true := by simpa using h0
    have hzb := Blk.new w1 96 [.int .i64 0, .int .i64 0, .int .i64 0, .int .i64 0, .int .i64 0, .int .i64 0, .int .i64 0, .int .i64 0, .int .i64 0, .int .i64 0, .slice none 0 0]
    have Y1 := X1.alloc (.cells [.int .i64 0, .int .i64 0, .int .i64 0, .int .i64 0, .int .i64 0, .int .i64 0, .int .i64 0, .int .i64 0, .int .i64 0, .int .i64 0, .slice none 0 0].toArray 96)
    have Y2 := X2.alloc (.cells [.int .i64 0, .int .i64 0, .int .i64 0, .int .i64 0, .int .i64 0, .int .i64 0, .int .i64 0, .int .i64 0, .int .i64 0, .int .i64 0, .slice none 0 0].toArray 96)
    have hq7 := X2.lt
    have hq6 := X1.lt
    have Y27 : ∀ w3, (w1.alloc (.cells ([.int .i64 0, .int .i64 0, .int .i64 0, .int .i64 0, .int .i64 0, .int .i64 0, .int .i64 0, .int .i64 0, .int .i64 0, .int .i64 0, .slice none 0 0] : List Value).toArray 96)).grownBy w3 (some q6) → Blk w3 q7 32 [.int .i64 0] := fun w3 g3 => Y2.grown g3 (fun e => by injection e with e; have := HQ.out; omega)
    have HY := Lib.hid (And.intro Y27 hzb)
    clear Y2 Y27 hzb X0 X1 X2
    go_wp2_with (first | (refine wpl_set_blk Y1 0 (.pointer (some ⟨w1.heap.size, 0, none⟩)) (by kernel_rfl) (by simp) rfl rfl rfl rfl rfl rfl ?_; intro w3 hB3 hg3; have hB7 := HY.out.1 w3 hg3) | (refine wpl_set_blk hB7 0 (.int .i64 E0) (by kernel_rfl) (by simp) rfl rfl rfl rfl rfl rfl ?_; intro w4 hB4 hg4) | fail)
    have d6 : w4.cell? ⟨q6, 0, none⟩ = some (.pointer (some ⟨w1.heap.size, 0, none⟩)) := ((hB3.grown hg4 (fun e => by injection e with e; have := HQ.out; omega)).cell 0).trans rfl
    have d7 : w4.cell? ⟨q7, 0, none⟩ = some (.int .i64 E0) := (hB4.cell 0).trans rfl
    simp [bodyPostD, Leaves, settle, results, Try.results35, go_sem, d6, d7]
    have hq6 := hq6
    refine ⟨w1.heap.size, 0, .slice none 0 0, by rw [((Sr.err_of hE.out).1 h0).1], ?_, ?_, ?_⟩
    · rw [((Sr.err_of hE.out).1 h0).2]
      exact Sr.own_new ((HY.out.2.grown hg3 (fun e => by injection e with e; omega)).grown hg4 (fun e => by injection e with e; omega)) (by have := HQ.out; have := HB.out; omega)
    · rw [((Sr.err_of hE.out).1 h0).2]
      exact Sr.fit0
    · exact ((below_alloc HB.out.1 _).grown hg3 (by simp; have := HQ.out; have := HB.out; omega) (fun k e => by injection e with e; have := HQ.out; omega)).grown hg4 (by have := hg3.size; simp at this; have := HQ.out; have := HB.out; omega) (fun k e => by injection e with e; have := HQ.out; omega)
end Go.Proofs.Ytajddbmmbhdnfaa


namespace Go.Proofs.Ytajddbmmbhdnfaa
set_option linter.unusedVariables false
set_option linter.unusedSimpArgs false
set_option maxRecDepth 100000
open Go.RowKit

def hcells (h : List Int) : Value := .agg (ints .i64 h).toArray
set_option maxHeartbeats 1000000 in
theorem srun_any (p : St.P) (h : List Int) (fuel : Int) (w : World) (B n c : Nat) (A : Option Addr) (hB : B ≤ w.heap.size) (hp : PR B w A n p) (hnc : n ≤ c) (hc : c ≤ maxLen) (hsz : p.size ≤ 274877906944) (hh : h.length = 8) (hr : ∀ x ∈ h, Ex.rng x) :
    Calls Try.prog 20 #[.slice A n c, hcells h, .int .i64 fuel] w fun e w' => e = .returned (.tuple #[hcells (Sr.fin p h fuel).heap, .int .i64 ((Sr.fin p h fuel).steps : Int), .int .i64 (Sr.err p h fuel)]) ∧ Below w.heap.size w w' := by
  obtain ⟨b0, b1, b2, b3, b4, b5, b6, b7, rfl⟩ := Sr.heap8 hh
  obtain ⟨x0, x1, hz, hb0⟩ := allocs2 w (ints .i64 [b0, b1, b2, b3, b4, b5, b6, b7]) (ints .i64 [0, 0, 0, 0, 0, 0, 0, 0]) 50 50
  have hrun := run_any p [b0, b1, b2, b3, b4, b5, b6, b7] fuel _ B n c A (Nat.le_trans hB hb0.size) (hp.later (hb0.mono hB)) hnc hc hsz hh hr
  unfold hcells
  simp only [ints, List.map_cons, List.map_nil] at x0 x1 hz hb0 hrun ⊢
  clear hp
  go_enter Try.func20, Try.ntmps20
  go_wp2_with fail
  generalize ((w.alloc (.cells #[.int .i64 b0, .int .i64 b1, .int .i64 b2, .int .i64 b3, .int .i64 b4, .int .i64 b5, .int .i64 b6, .int .i64 b7] 50)).alloc (.cells #[.int .i64 0, .int .i64 0, .int .i64 0, .int .i64 0, .int .i64 0, .int .i64 0, .int .i64 0, .int .i64 0] 50)) = W0 at x0 x1 hz hb0 hrun ⊢
  obtain ⟨Q, hQ⟩ : ∃ Q, Q = w.heap.size + 1 := ⟨_, rfl⟩
  rw [← hQ] at x1 hz ⊢
  refine hrun.mono ?_
  rintro e w1 ⟨g, F, vt, rfl, hO, hf, hb1⟩
  obtain ⟨f0, f8, f9, f10⟩ := Sr.rcells_get (F := F) (vt := vt) hf.len
  have X1 := x1.below hb1
  have hbw := below_next hb1 hb0
  obtain ⟨m, hm⟩ : ∃ m, m = Sr.fin p [b0, b1, b2, b3, b4, b5, b6, b7] fuel := ⟨_, rfl⟩
  rw [← hm] at hO hf f0 f9
  obtain ⟨h0, h1, h2, h3, h4, h5, h6, h7, hh8⟩ := Sr.heap8 hf.len
  have e0 : w1.cell? ⟨g, 0, none⟩ = some (.int .i64 h0) := (hO.blk.cell 0).trans ((f0 0 (by omega)).trans (by rw [hh8]; rfl))
  have e1 : w1.cell? ⟨g, 1, none⟩ = some (.int .i64 h1) := (hO.blk.cell 1).trans ((f0 1 (by omega)).trans (by rw [hh8]; rfl))
  have e2 : w1.cell? ⟨g, 2, none⟩ = some (.int .i64 h2) := (hO.blk.cell 2).trans ((f0 2 (by omega)).trans (by rw [hh8]; rfl))
  have e3 : w1.cell? ⟨g, 3, none⟩ = some (.int .i64 h3) := (hO.blk.cell 3).trans ((f0 3 (by omega)).trans (by rw [hh8]; rfl))
  have e4 : w1.cell? ⟨g, 4, none⟩ = some (.int .i64 h4) := (hO.blk.cell 4).trans ((f0 4 (by omega)).trans (by rw [hh8]; rfl))
  have e5 : w1.cell? ⟨g, 5, none⟩ = some (.int .i64 h5) := (hO.blk.cell 5).trans ((f0 5 (by omega)).trans (by rw [hh8]; rfl))
  have e6 : w1.cell? ⟨g, 6, none⟩ = some (.int .i64 h6) := (hO.blk.cell 6).trans ((f0 6 (by omega)).trans (by rw [hh8]; rfl))
  have e7 : w1.cell? ⟨g, 7, none⟩ = some (.int .i64 h7) := (hO.blk.cell 7).trans ((f0 7 (by omega)).trans (by rw [hh8]; rfl))
  have e9 : w1.cell? ⟨g, 9, none⟩ = some (.int .i64 (m.steps : Int)) := (hO.blk.cell 9).trans f9
  have hgq : g ≠ Q := by have := hO.lo; omega
  have HH := Lib.hid (And.intro hh8 (And.intro hbw (And.intro hQ hm)))
  clear hrun x0 x1 hz hb0 hb1 hO hf f0 f8 f9 f10 hh8 hbw hQ hm
  go_wp2_with fail
  have hg1 : g < w1.heap.size := World.block_lt_of_cell? w1 _ e0
  have y0 : w1.cell? ⟨Q, 0, none⟩ = some (.int .i64 0) := (X1.cell 0).trans rfl
  have z0 := X1.frozen 0
  have y1 : w1.cell? ⟨Q, 1, none⟩ = some (.int .i64 0) := (X1.cell 1).trans rfl
  have z1 := X1.frozen 1
  have y2 : w1.cell? ⟨Q, 2, none⟩ = some (.int .i64 0) := (X1.cell 2).trans rfl
  have z2 := X1.frozen 2
  have y3 : w1.cell? ⟨Q, 3, none⟩ = some (.int .i64 0) := (X1.cell 3).trans rfl
  have z3 := X1.frozen 3
  have y4 : w1.cell? ⟨Q, 4, none⟩ = some (.int .i64 0) := (X1.cell 4).trans rfl
  have z4 := X1.frozen 4
  have y5 : w1.cell? ⟨Q, 5, none⟩ = some (.int .i64 0) := (X1.cell 5).trans rfl
  have z5 := X1.frozen 5
  have y6 : w1.cell? ⟨Q, 6, none⟩ = some (.int .i64 0) := (X1.cell 6).trans rfl
  have z6 := X1.frozen 6
  have y7 : w1.cell? ⟨Q, 7, none⟩ = some (.int .i64 0) := (X1.cell 7).trans rfl
  have z7 := X1.frozen 7
  have hgq' : Q ≠ g := fun e => hgq e.symm
  have HX := Lib.hid X1
  clear X1
  go_region
  have hB := ((((((((HX.out.set_ 0 (.int .i64 h0)).set_ 1 (.int .i64 h1)).set_ 2 (.int .i64 h2)).set_ 3 (.int .i64 h3)).set_ 4 (.int .i64 h4)).set_ 5 (.int .i64 h5)).set_ 6 (.int .i64 h6)).set_ 7 (.int .i64 h7)).drew
  simp only [List.set_cons_zero, List.set_cons_succ] at hB
  have hG : w1.grownBy ((((((((w1.setCell ⟨Q, 0, none⟩ (.int .i64 h0)).setCell ⟨Q, 1, none⟩ (.int .i64 h1)).setCell ⟨Q, 2, none⟩ (.int .i64 h2)).setCell ⟨Q, 3, none⟩ (.int .i64 h3)).setCell ⟨Q, 4, none⟩ (.int .i64 h4)).setCell ⟨Q, 5, none⟩ (.int .i64 h5)).setCell ⟨Q, 6, none⟩ (.int .i64 h6)).setCell ⟨Q, 7, none⟩ (.int .i64 h7)).drew (some Q) := grown_trans (grown_trans (grown_trans (grown_trans (grown_trans (grown_trans (grown_trans (grown_trans (grown_trans (World.grownBy.refl w1 _) (grown_setCell _ Q 0 _)) (grown_setCell _ Q 1 _)) (grown_setCell _ Q 2 _)) (grown_setCell _ Q 3 _)) (grown_setCell _ Q 4 _)) (grown_setCell _ Q 5 _)) (grown_setCell _ Q 6 _)) (grown_setCell _ Q 7 _)) (grown_drew _ _)
  clear y0 y1 y2 y3 y4 y5 y6 y7 z0 z1 z2 z3 z4 z5 z6 z7 e0 e1 e2 e3 e4 e5 e6 e7 e9
  generalize ((((((((w1.setCell ⟨Q, 0, none⟩ (.int .i64 h0)).setCell ⟨Q, 1, none⟩ (.int .i64 h1)).setCell ⟨Q, 2, none⟩ (.int .i64 h2)).setCell ⟨Q, 3, none⟩ (.int .i64 h3)).setCell ⟨Q, 4, none⟩ (.int .i64 h4)).setCell ⟨Q, 5, none⟩ (.int .i64 h5)).setCell ⟨Q, 6, none⟩ (.int .i64 h6)).setCell ⟨Q, 7, none⟩ (.int .i64 h7)).drew = w2 at hB hG ⊢
  have k0 : w2.cell? ⟨Q, 0, none⟩ = some (.int .i64 h0) := (hB.cell 0).trans rfl
  have k1 : w2.cell? ⟨Q, 1, none⟩ = some (.int .i64 h1) := (hB.cell 1).trans rfl
  have k2 : w2.cell? ⟨Q, 2, none⟩ = some (.int .i64 h2) := (hB.cell 2).trans rfl
  have k3 : w2.cell? ⟨Q, 3, none⟩ = some (.int .i64 h3) := (hB.cell 3).trans rfl
  have k4 : w2.cell? ⟨Q, 4, none⟩ = some (.int .i64 h4) := (hB.cell 4).trans rfl
  have k5 : w2.cell? ⟨Q, 5, none⟩ = some (.int .i64 h5) := (hB.cell 5).trans rfl
  have k6 : w2.cell? ⟨Q, 6, none⟩ = some (.int .i64 h6) := (hB.cell 6).trans rfl
  have k7 : w2.cell? ⟨Q, 7, none⟩ = some (.int .i64 h7) := (hB.cell 7).trans rfl
  go_wp2
  refine bodyPost_ret (v := .tuple #[.agg #[.int .i64 h0, .int .i64 h1, .int .i64 h2, .int .i64 h3, .int .i64 h4, .int .i64 h5, .int .i64 h6, .int .i64 h7], .int .i64 (m.steps : Int), .int .i64 (Sr.err p [b0, b1, b2, b3, b4, b5, b6, b7] fuel)]) ?_ rfl ?_
  · simp [results, Try.results20, go_sem, k0, k1, k2, k3, k4, k5, k6, k7]
  · have hsz := HH.out.2.1.size
    have hq := HH.out.2.2.1
    have hbE : Below w.heap.size w w2 := HH.out.2.1.grown hG hsz (fun k e => by injection e with e; omega)
    rw [← HH.out.2.2.2]
    refine ⟨?_, hbE⟩
    simp [HH.out.1]

theorem strace_any (p : St.P) (h : List Int) (fuel : Int) (w : World) (B n c : Nat) (A : Option Addr) (hB : B ≤ w.heap.size) (hp : PR B w A n p) (hnc : n ≤ c) (hc : c ≤ maxLen) (hsz : p.size ≤ 274877906944) (hh : h.length = 8) (hr : ∀ x ∈ h, Ex.rng x) :
    Calls Try.prog 22 #[.slice A n c, hcells h, .int .i64 fuel] w fun e w' => ∃ vt, e = .returned (.tuple #[vt, .int .i64 (Sr.err p h fuel)]) ∧ w'.ownsRow w.heap.size 23 3 vt (Sr.fin p h fuel).trace.length (Sp.acccs (Sr.fin p h fuel).trace) ∧ Below w.heap.size w w' := by
  obtain ⟨b0, b1, b2, b3, b4, b5, b6, b7, rfl⟩ := Sr.heap8 hh
  have hb0 : Below w.heap.size w (w.alloc (.cells (ints .i64 [b0, b1, b2, b3, b4, b5, b6, b7]).toArray 50)) := below_alloc (Below.refl _ _) _
  have x0 := Blk.new w 50 (ints .i64 [b0, b1, b2, b3, b4, b5, b6, b7])
  have hrun := run_any p [b0, b1, b2, b3, b4, b5, b6, b7] fuel _ B n c A (Nat.le_trans hB hb0.size) (hp.later (hb0.mono hB)) hnc hc hsz hh hr
  unfold hcells
  simp only [ints, List.map_cons, List.map_nil] at x0 hb0 hrun ⊢
  clear hp
  go_enter Try.func22, Try.ntmps22
  go_wp2_with fail
  generalize (w.alloc (.cells #[.int .i64 b0, .int .i64 b1, .int .i64 b2, .int .i64 b3, .int .i64 b4, .int .i64 b5, .int .i64 b6, .int .i64 b7] 50)) = W0 at x0 hb0 hrun ⊢
  refine hrun.mono ?_
  rintro e w1 ⟨g, F, vt, rfl, hO, hf, hb1⟩
  obtain ⟨f0, f8, f9, f10⟩ := Sr.rcells_get (F := F) (vt := vt) hf.len
  have e10 : w1.cell? ⟨g, 10, none⟩ = some vt := (hO.blk.cell 10).trans f10
  have hbw := below_next hb1 hb0
  have rt : w1.ownsRow W0.heap.size 23 3 vt (Sr.fin p [b0, b1, b2, b3, b4, b5, b6, b7] fuel).trace.length (Sp.acccs (Sr.fin p [b0, b1, b2, b3, b4, b5, b6, b7] fuel).trace) := hO.row 0 rfl
  have hz := hb0.size
  obtain ⟨VT, ct, rfl, -, -⟩ := own_slice rt
  have HH := Lib.hid (And.intro rt (And.intro hbw hz))
  clear hrun x0 hb0 hb1 hO hf f0 f8 f9 f10 rt hbw hz
  go_wp2_with fail
  go_ret2
  exact ⟨_, rfl, own_base HH.out.1 HH.out.2.2, HH.out.2.1⟩
end Go.Proofs.Ytajddbmmbhdnfaa


namespace Go.Proofs.Ytajddbmmbhdnfaa
set_option linter.unusedVariables false
set_option linter.unusedSimpArgs false
set_option maxRecDepth 100000
open Go.RowKit

abbrev xzeros : List Value := xcells 0 0 ⟨#[]⟩ none 0 0
abbrev stzeros : List Value := stcells 0 ⟨#[]⟩ xzeros xzeros none 0 0 none 0 0
theorem xcells_one' (k n : Int) (s : ByteArray) (A : Option Addr) (len cap : Nat) : ∀ v ∈ xcells k n s A len cap, v.oneCell' = true := by
  intro v hv
  simp [xcells] at hv
  rcases hv with rfl | rfl | rfl | rfl <;> rfl
theorem stcells_one (k : Int) (nm : ByteArray) (ak an : Int) (sa : ByteArray) (aA : Option Addr) (al ac : Nat) (bk bn : Int) (sb : ByteArray) (bA : Option Addr) (bl bc : Nat) (D : Option Addr) (dl dc : Nat) (E : Option Addr) (el ec : Nat) : ∀ v ∈ stcells k nm (xcells ak an sa aA al ac) (xcells bk bn sb bA bl bc) D dl dc E el ec, v.oneCell' = true := by
  intro v hv
  simp [stcells, xcells] at hv
  rcases hv with rfl | rfl | rfl | rfl | rfl | rfl | rfl | rfl | rfl | rfl | rfl | rfl <;> rfl
theorem xbad {B : Nat} (w : World) : XR B w xzeros .bad := .bad 0 0 ⟨#[]⟩ none 0 0 (Nat.le_refl _) (Nat.zero_le _) (by decide) (by decide) (by omega)
theorem xnum {B : Nat} (w : World) (n : Int) (h : Ex.rng n) : XR B w (xcells 1 n ⟨#[]⟩ none 0 0) (.num n) := .num n ⟨#[]⟩ none 0 0 (Nat.le_refl _) (Nat.zero_le _) h

end Go.Proofs.Ytajddbmmbhdnfaa


namespace Go.Proofs.Ytajddbmmbhdnfaa
set_option linter.unusedVariables false
set_option linter.unusedSimpArgs false
set_option maxRecDepth 100000
open Go Go.RowKit

theorem run_eqItems_ints {P : Program} (w : World) (d : Nat) (e : TypeId) {k k' : IntKind} (he : P.underlying e = some (.int k')) (hc : P.cellsOf e = 1) (xs ys : List Int) (hl : xs.length = ys.length) :
    ∀ (n j : Nat), j + n = xs.length → (Op.eqItems (d + 1) e (P.cellsOf e) (ints k xs).toArray (ints k ys).toArray (List.range' j n)).run P w = .ok (decide (xs.drop j = ys.drop j)) w := by
  intro n
  induction n with
  | zero =>
    intro k hk
    rw [List.drop_of_length_le (by omega), List.drop_of_length_le (by omega)]
    simp [Op.eqItems]
  | succ n ih =>
    intro j hk
    have hx : xs[j]? = some xs[j] := List.getElem?_eq_getElem (by omega)
    have hy : ys[j]? = some ys[j] := List.getElem?_eq_getElem (by omega)
    have hagg : (isAgg e).run P w = .ok false w := by
      unfold isAgg
      rw [Sem.run_bind, run_underlying he w]
      rfl
    have px : (part e (ints k xs).toArray (j * P.cellsOf e)).run P w = .ok (.int k xs[j]) w := by
      simp [part, Sem.run_bind, hagg, hc, ints, hx]
    have py : (part e (ints k ys).toArray (j * P.cellsOf e)).run P w = .ok (.int k ys[j]) w := by
      simp [part, Sem.run_bind, hagg, hc, ints, hy]
    rw [List.range'_succ]
    simp only [Op.eqItems, Sem.run_bind, px, py, run_equalIn_int w d e k k' _ _ he, Result.andThen_ok]
    have dx : xs.drop j = xs[j] :: xs.drop (j + 1) := List.drop_eq_getElem_cons (by omega)
    have dy : ys.drop j = ys[j] :: ys.drop (j + 1) := List.drop_eq_getElem_cons (by omega)
    have e : (xs.drop j = ys.drop j) ↔ (xs[j] = ys[j] ∧ xs.drop (j + 1) = ys.drop (j + 1)) := by rw [dx, dy, List.cons.injEq]
    by_cases hb : xs[j] = ys[j]
    · have hb' : (!(xs[j] == ys[j])) = false := by simp [hb]
      rw [hb', if_neg (by simp), ih (j + 1) (by omega)]
      simp only [e, hb, true_and]
    · have hb' : (!(xs[j] == ys[j])) = true := by simp [hb]
      rw [hb', if_pos rfl]
      simp only [e, hb, false_and]
      rfl

theorem run_equal_ints {P : Program} (w : World) (t e : TypeId) (n : Nat) {k k' : IntKind} (ht : P.underlying t = some (.array n e)) (he : P.underlying e = some (.int k')) (hc : P.cellsOf e = 1) (hi : (P.info? e).isSome = true) (xs ys : List Int) (hx : xs.length = n) (hy : ys.length = n) (b : Bool) (hb : decide (xs = ys) = b) :
    (Op.equalIn 10000 t (.agg (ints k xs).toArray) (.agg (ints k ys).toArray)).run P w = .ok b w := by
  subst hb
  obtain ⟨i, hi⟩ := Option.isSome_iff_exists.1 hi
  have := run_equalIn_array (P := P) w 9999 (ints k xs).toArray (ints k ys).toArray ht hi
  have h2 := run_eqItems_ints (P := P) (k := k) w 9998 e he hc xs ys (by omega) n 0 (by omega)
  rw [← List.range_eq_range'] at h2
  rw [this, h2]
  simp
end Go.Proofs.Ytajddbmmbhdnfaa


namespace Go.Proofs.Ytajddbmmbhdnfaa
set_option linter.unusedVariables false
set_option linter.unusedSimpArgs false
set_option maxRecDepth 100000
open Go.RowKit

namespace Sr
open Ex St
def nx : ByteArray := ⟨#[120]⟩
def ni : ByteArray := ⟨#[105]⟩
def aliveIn : P := .cons 2 nx.data.toList (.num 9) .bad .nil .nil (.cons 3 [] (.num 1) (.two 3 (.name nx.data.toList) (.name ni.data.toList)) .nil .nil .nil)
def alive : P := .cons 7 ni.data.toList (.num 0) (.num 3) aliveIn .nil .nil
def aliveH : List Int := [0, 5, 0, 0, 0, 0, 0, 0]
theorem alive_free : free alive = [] := by
  rw [free_nil]
  simp [alive, aliveIn, cl, okx]
theorem alive_go1 : (go alive aliveH).heap = [0, 8, 0, 0, 0, 0, 0, 0] ∧ (go alive aliveH).steps = 10 := ⟨by decide +kernel, by decide +kernel⟩
theorem alive_go2 : (go alive zeros).steps = 10 ∧ (go alive zeros).trace = [(1, false, 0), (1, true, 1), (1, false, 0), (1, true, 1), (1, false, 0), (1, true, 1)] := ⟨by decide +kernel, by decide +kernel⟩
theorem alive_err {h : List Int} (hs : (go alive h).steps = 10) : err alive h 99 = 0 ∧ fin alive h 99 = go alive h := by
  have h0 : err alive h 99 = 0 := by
    unfold err
    rw [if_neg (by simp [alive_free]), if_neg (by omega), if_neg (by rw [hs]; omega)]
  exact ⟨h0, by unfold fin; rw [if_pos h0]⟩
end Sr

/-- serial.Run and serial.Trace of a slice of statements -/
theorem isP_run {w : World} {D : Option Addr} {dl dc : Nat} {p : St.P} (hp : IsP w (.slice D dl dc) p) (h : List Int) (fuel : Int) (hs : p.size ≤ 274877906944) (hh : h.length = 8) (hr : ∀ x ∈ h, Ex.rng x) :
    Calls Try.prog 20 #[.slice D dl dc, hcells h, .int .i64 fuel] w fun e w' => e = .returned (.tuple #[hcells (Sr.fin p h fuel).heap, .int .i64 ((Sr.fin p h fuel).steps : Int), .int .i64 (Sr.err p h fuel)]) ∧ Below w.heap.size w w' := by
  obtain ⟨A, n, c, e, h1, h2, h3⟩ := hp
  injection e with e1 e2 e3
  subst e1 e2 e3
  exact srun_any p h fuel w w.heap.size dl dc D (Nat.le_refl _) h3 h1 h2 hs hh hr
theorem isP_trace {w : World} {D : Option Addr} {dl dc : Nat} {p : St.P} (hp : IsP w (.slice D dl dc) p) (h : List Int) (fuel : Int) (hs : p.size ≤ 274877906944) (hh : h.length = 8) (hr : ∀ x ∈ h, Ex.rng x) :
    Calls Try.prog 22 #[.slice D dl dc, hcells h, .int .i64 fuel] w fun e w' => ∃ vt, e = .returned (.tuple #[vt, .int .i64 (Sr.err p h fuel)]) ∧ w'.ownsRow w.heap.size 23 3 vt (Sr.fin p h fuel).trace.length (Sp.acccs (Sr.fin p h fuel).trace) ∧ Below w.heap.size w w' := by
  obtain ⟨A, n, c, e, h1, h2, h3⟩ := hp
  injection e with e1 e2 e3
  subst e1 e2 e3
  exact strace_any p h fuel w w.heap.size dl dc D (Nat.le_refl _) h3 h1 h2 hs hh hr

set_option maxHeartbeats 4000000 in
theorem alive13_any (w : World) : Calls Try.prog 19 #[] w fun e w' => e = .returned (.bool true) ∧ Below w.heap.size w w' := by
  go_enter Try.func19, Try.ntmps19
  go_wp2_with fail
  refine (num_any 0 _).mono ?_
  rintro e w1 ⟨rfl, hb1⟩
  unfold xcells
  go_wp2_with fail
  refine (num_any 3 _).mono ?_
  rintro e w2 ⟨rfl, hb2⟩
  unfold xcells
  replace hb2 := below_next hb2 hb1
  go_wp2_with fail
  refine (num_any 9 _).mono ?_
  rintro e w3 ⟨rfl, hb3⟩
  unfold xcells
  replace hb3 := below_next hb3 hb2
  go_wp2_with fail
  refine (num_any 1 _).mono ?_
  rintro e w4 ⟨rfl, hb4⟩
  unfold xcells
  replace hb4 := below_next hb4 hb3
  go_wp2_with fail
  refine (nam_any Sr.nx _).mono ?_
  rintro e w5 ⟨rfl, hb5⟩
  unfold xcells
  replace hb5 := below_next hb5 hb4
  go_wp2_with fail
  refine (nam_any Sr.ni _).mono ?_
  rintro e w6 ⟨rfl, hb6⟩
  unfold xcells
  replace hb6 := below_next hb6 hb5
  clear hb1 hb2 hb3 hb4 hb5
  go_wp2_with fail
  refine (both_any (N := false) 3 (xcells 2 0 Sr.nx none 0 0) (xcells 2 0 Sr.ni none 0 0) (.name Sr.nx.data.toList) (.name Sr.ni.data.toList) _ (.name 0 Sr.nx none 0 0 (Nat.le_refl _) (Nat.zero_le _)) (.name 0 Sr.ni none 0 0 (Nat.le_refl _) (Nat.zero_le _)) (by decide) (by decide)).mono ?_
  rintro e w7 ⟨csb, rfl, hxb, hb7⟩
  replace hb7 := below_next hb7 hb6
  obtain ⟨b0, b1, b2, B3, b4, b5, rfl, -, -⟩ := hxb.form
  have hd0 : 0 ≤ 0 ∧ 0 ≤ maxLen ∧ 0 ≤ 0 ∧ 0 ≤ maxLen := ⟨Nat.le_refl _, Nat.zero_le _, Nat.le_refl _, Nat.zero_le _⟩
  have pc := (PC.one (w := w7) (B := w7.heap.size) (k := 2) (nm := Sr.nx) (ca := xcells 1 9 ⟨#[]⟩ none 0 0) (cb := xzeros) (D := none) (dl := 0) (dc := 0) (E := none) (el := 0) (ec := 0) hd0 (xnum w7 9 (by unfold Ex.rng; omega)) (xbad w7) (.nil _) (.nil _)).append
    (PC.one (w := w7) (B := w7.heap.size) (k := 3) (nm := ⟨#[]⟩) (ca := xcells 1 1 ⟨#[]⟩ none 0 0) (cb := xcells b0 b1 b2 B3 b4 b5) (D := none) (dl := 0) (dc := 0) (E := none) (el := 0) (ec := 0) hd0 (xnum w7 1 (by unfold Ex.rng; omega)) hxb (.nil _) (.nil _))
  have ip := IsP.lit pc (by decide)
  have hb8 := below_alloc hb7 (.cells (stcells 2 Sr.nx (xcells 1 9 ⟨#[]⟩ none 0 0) xzeros none 0 0 none 0 0 ++ stcells 3 ⟨#[]⟩ (xcells 1 1 ⟨#[]⟩ none 0 0) (xcells b0 b1 b2 B3 b4 b5) none 0 0 none 0 0).toArray 66)
  have pc2 : ∀ W D dl dc, IsP W (.slice D dl dc) Sr.aliveIn → IsP (W.alloc (.cells (stcells 7 Sr.ni (xcells 1 0 ⟨#[]⟩ none 0 0) (xcells 1 3 ⟨#[]⟩ none 0 0) D dl dc none 0 0).toArray 66)) (.slice (some ⟨W.heap.size, 0, none⟩) 1 1) Sr.alive := fun W D dl dc h => by
    obtain ⟨A, n, c, e, h1, h2, h3⟩ := h
    injection e with e1 e2 e3
    subst e1 e2 e3
    exact IsP.lit (PC.one (k := 7) (nm := Sr.ni) ⟨h1, h2, Nat.le_refl _, Nat.zero_le _⟩ (xnum W 0 (by unfold Ex.rng; omega)) (xnum W 3 (by unfold Ex.rng; omega)) h3 (.nil _)) (by decide)
  have ip2 := pc2 _ _ _ _ ip
  simp only [xzeros, stcells, xcells, List.cons_append, List.nil_append, Sr.nx, Sr.ni] at ip hb8 ip2 ⊢
  have hs8 := hb8.size
  have hz9 : ∀ (W : World) (o : Obj), (W.alloc o).heap.size = W.heap.size + 1 := fun W o => by simp
  have hb9 := below_alloc hb8 (.cells [.int .i64 7, .string ⟨#[105]⟩, .int .i64 1, .int .i64 0, .string ⟨#[]⟩, .slice none 0 0, .int .i64 1, .int .i64 3, .string ⟨#[]⟩, .slice none 0 0, .slice (some ⟨w7.heap.size, 0, none⟩) 2 2, .slice none 0 0].toArray 66)
  rw [hz9] at ip2
  clear pc pc2 ip hb6 hb7 hb8 hxb hs8
  go_wp2_with fail
  generalize ((w7.alloc (.cells #[.int .i64 2, .string ⟨#[120]⟩, .int .i64 1, .int .i64 9, .string ⟨#[]⟩, .slice none 0 0, .int .i64 0, .int .i64 0, .string ⟨#[]⟩, .slice none 0 0, .slice none 0 0, .slice none 0 0, .int .i64 3, .string ⟨#[]⟩, .int .i64 1, .int .i64 1, .string ⟨#[]⟩, .slice none 0 0, .int .i64 b0, .int .i64 b1, .string b2, .slice B3 b4 b5, .slice none 0 0, .slice none 0 0] 66)).alloc (.cells #[.int .i64 7, .string ⟨#[105]⟩, .int .i64 1, .int .i64 0, .string ⟨#[]⟩, .slice none 0 0, .int .i64 1, .int .i64 3, .string ⟨#[]⟩, .slice none 0 0, .slice (some ⟨w7.heap.size, 0, none⟩) 2 2, .slice none 0 0] 66)) = W9 at ip2 hb9 ⊢
  have hr0 : ∀ x ∈ Sr.aliveH, Ex.rng x := by
    intro x hx
    have hx' : x = 0 ∨ x = 5 := by simp [Sr.aliveH] at hx; omega
    rcases hx' with rfl | rfl <;> (unfold Ex.rng; omega)
  have hz0 : ∀ x ∈ Sr.zeros, Ex.rng x := by
    intro x hx
    simp [Sr.zeros] at hx
    subst hx
    unfold Ex.rng; omega
  have hrun := isP_run ip2 Sr.aliveH 99 (by decide) rfl hr0
  rw [(Sr.alive_err Sr.alive_go1.2).1, (Sr.alive_err Sr.alive_go1.2).2, Sr.alive_go1.1, Sr.alive_go1.2] at hrun
  refine hrun.mono ?_
  rintro e w10 ⟨rfl, hb10⟩
  have hbx := below_next hb10 hb9
  have ip3 := ip2.step hb10
  have hB := Blk.new w10 50 (ints .i64 [0, 0, 0, 0, 0, 0, 0, 0])
  have hb11 : Below w10.heap.size w10 (w10.alloc (.cells (ints .i64 [0, 0, 0, 0, 0, 0, 0, 0]).toArray 50)) := below_alloc (Below.refl _ _) _
  have hl : ∀ v ∈ ints .i64 [0, 8, 0, 0, 0, 0, 0, 0], v.oneCell' = true := ints_one1 _ _
  simp only [hcells, ints, List.map_cons, List.map_nil] at hB hb11 hl ⊢
  clear hrun ip2 hb9 hb10 hr0
  have hq : w10.heap.size < (w10.alloc (.cells #[.int .i64 0, .int .i64 0, .int .i64 0, .int .i64 0, .int .i64 0, .int .i64 0, .int .i64 0, .int .i64 0] 50)).heap.size := by simp
  have HP := Lib.hid (fun w11 (hg11 : (w10.alloc (.cells #[.int .i64 0, .int .i64 0, .int .i64 0, .int .i64 0, .int .i64 0, .int .i64 0, .int .i64 0, .int .i64 0] 50)).grownBy w11 (some w10.heap.size)) => show IsP w11 (.slice (some ⟨w7.heap.size + 1, 0, none⟩) 1 1) Sr.alive ∧ Below w.heap.size w w11 from
    have hbb := hb11.trans (below_of_grown hg11 (by omega) (Nat.le_refl _))
    ⟨ip3.step hbb, below_next hbb hbx⟩)
  clear ip3 hbx hb11 hq
  go_wp2_with (first | (refine wpl_put_blk hB [.int .i64 0, .int .i64 8, .int .i64 0, .int .i64 0, .int .i64 0, .int .i64 0, .int .i64 0, .int .i64 0] (by kernel_rfl) rfl hl rfl rfl rfl rfl ?_; intro w11 hB11 hg11) | fail)
  obtain ⟨ip4, hb12⟩ := HP.out w11 hg11
  have htr := isP_trace ip4 Sr.zeros 99 (by decide) rfl hz0
  rw [(Sr.alive_err Sr.alive_go2.1).1, (Sr.alive_err Sr.alive_go2.1).2, Sr.alive_go2.2] at htr
  clear hB hg11 HP ip4 hz0
  refine htr.mono ?_
  rintro e w12 ⟨vt, rfl, hrow, hb13⟩
  have B12 := hB11.below hb13
  have k1 := (B12.cell 1).trans rfl
  simp only [List.getElem?_cons_succ, List.getElem?_cons_zero] at k1
  obtain ⟨VT, ct, rfl, -, -⟩ := own_slice hrow
  obtain ⟨b, o, rfl, hbl, hcc⟩ := (Cells.of_own hrow).at_ (by simp [Sp.acccs, Sp.accc])
  have t0 := hcc 3 _ rfl
  have t1 := hcc 4 _ rfl
  have t2 := hcc 5 _ rfl
  have hbZ := below_next hb13 hb12
  clear htr hrow hcc hb13 hb12 hB11 B12
  go_wp2_with fail
  refine (cell_any (-1) _).mono ?_
  rintro e w13 ⟨rfl, rfl⟩
  rw [show Sr.cell (-1) = 7 from rfl]
  clear t0 t1 t2 k1
  go_wp2
  go_ret
  exact ⟨rfl, hbZ⟩
end Go.Proofs.Ytajddbmmbhdnfaa


namespace Go.Proofs.Ytajddbmmbhdnfaa
set_option linter.unusedVariables false
set_option linter.unusedSimpArgs false
set_option maxRecDepth 100000
open Go.RowKit

theorem arr_heap : Try.prog.underlying 50 = some (.array 8 3) := by kernel_rfl
theorem heap_eq (xs ys : List Int) (hx : xs.length = 8) (hy : ys.length = 8) (b : Bool) (hb : decide (xs = ys) = b) (w : World) : (Op.equalIn 10000 50 (.agg (ints .i64 xs).toArray) (.agg (ints .i64 ys).toArray)).run Try.prog w = .ok b w :=
  run_equal_ints (P := Try.prog) w _ _ 8 arr_heap Try.underlying3 (by kernel_rfl) (by kernel_rfl) xs ys hx hy b hb
/-- the result of a run, put into a variable of its own -/
theorem put_heap {wk w1 w2 : World} (hb : Below wk.heap.size wk w1) (hg : (w1.alloc (.cells (ints .i64 [0, 0, 0, 0, 0, 0, 0, 0]).toArray 50)).grownBy w2 (some w1.heap.size)) : Below wk.heap.size wk w2 := by
  have hs := hb.size
  exact (below_alloc hb (.cells (ints .i64 [0, 0, 0, 0, 0, 0, 0, 0]).toArray 50)).trans (below_of_grown hg (by simp; omega) hs)
theorem Sr.fin_len (p : St.P) (h : List Int) (fuel : Int) (hh : h.length = 8) : (Sr.fin p h fuel).heap.length = 8 := by
  unfold Sr.fin
  split
  · exact (Sr.run_on p [] 0 (Sr.M0 h)).heap.trans hh
  · rfl
theorem Sr.fin_rng (p : St.P) (h : List Int) (fuel : Int) (hp : Sr.okp p) (hr : ∀ x ∈ h, Ex.rng x) : ∀ x ∈ (Sr.fin p h fuel).heap, Ex.rng x := by
  unfold Sr.fin
  split
  · exact Sr.run_rng p [] 0 _ hp (by intro b hb; cases hb) hr
  · exact Sr.fit0.rg

/-- what a law needs of a run -/
theorem isP_runs {w : World} {D : Option Addr} {dl dc : Nat} {p : St.P} (hp : IsP w (.slice D dl dc) p) (h : List Int) (fuel : Int) (hs : p.size ≤ 274877906944) (hh : h.length = 8) (hr : ∀ x ∈ h, Ex.rng x) {H : List Int} {N E : Int} (h1 : (Sr.fin p h fuel).heap = H) (h2 : ((Sr.fin p h fuel).steps : Int) = N) (h3 : Sr.err p h fuel = E) :
    Calls Try.prog 20 #[.slice D dl dc, .agg (ints .i64 h).toArray, .int .i64 fuel] w fun e w' => e = .returned (.tuple #[.agg (ints .i64 H).toArray, .int .i64 N, .int .i64 E]) ∧ Below w.heap.size w w' := by
  subst h1 h2 h3
  exact isP_run hp h fuel hs hh hr
theorem Sr.err_range (p : St.P) (h : List Int) (fuel : Int) : (Sr.err p h fuel ≠ 0 → Sr.fin p h fuel = Sr.M0 Sr.zeros) ∧ (Sr.err p h fuel = 0 → Sr.free p = [] ∧ 0 ≤ fuel ∧ fuel ≤ 2000 ∧ ((Sr.go p h).steps : Int) ≤ fuel ∧ Sr.fin p h fuel = Sr.go p h) := by
  refine ⟨fun h => by unfold Sr.fin; rw [if_neg h], fun h0 => ?_⟩
  have hf : Sr.fin p h fuel = Sr.go p h := by unfold Sr.fin; rw [if_pos h0]
  unfold Sr.err at h0
  split at h0
  · cases h0
  · rename_i h1
    split at h0
    · cases h0
    · split at h0
      · cases h0
      · exact ⟨by simpa using h1, by omega, by omega, by omega, hf⟩
theorem Sr.err_zero {p : St.P} {h : List Int} {fuel : Int} (h1 : Sr.free p = []) (h2 : 0 ≤ fuel) (h3 : fuel ≤ 2000) : (((Sr.go p h).steps : Int) ≤ fuel → Sr.err p h fuel = 0 ∧ Sr.fin p h fuel = Sr.go p h) ∧ (fuel < (Sr.go p h).steps → Sr.err p h fuel = 5) := by
  refine ⟨fun h4 => ?_, fun h4 => ?_⟩
  · have h0 : Sr.err p h fuel = 0 := by unfold Sr.err; rw [if_neg (by simp [h1]), if_neg (by omega), if_neg (by omega)]
    exact ⟨h0, by unfold Sr.fin; rw [if_pos h0]⟩
  · unfold Sr.err
    rw [if_neg (by simp [h1]), if_neg (by omega), if_pos h4]


set_option maxHeartbeats 1000000 in
theorem serialFuel_any (p : St.P) (h : List Int) (fuel more : Int) (w : World) (D : Option Addr) (dl dc : Nat) (hp : IsP w (.slice D dl dc) p) (hs : p.size ≤ 274877906944) (hh : h.length = 8) (hr : ∀ x ∈ h, Ex.rng x) :
    Calls Try.prog 7 #[.slice D dl dc, hcells h, .int .i64 fuel, .int .i64 more] w fun e w' => e = .returned (.bool true) ∧ Below w.heap.size w w' := by
  have x0 := Blk.new w 50 (ints .i64 h)
  have hb0 : Below w.heap.size w (w.alloc (.cells (ints .i64 h).toArray 50)) := below_alloc (Below.refl _ _) _
  have hcl : (Value.agg (ints .i64 h).toArray).cells = (ints .i64 h).toArray := rfl
  have HL := Lib.hid hh
  unfold hcells
  go_enter Try.func7, Try.ntmps7
  go_wp2_with fail
  obtain ⟨q, hq⟩ : ∃ q, q = w.heap.size := ⟨_, rfl⟩
  have hp0 := hp.step hb0
  generalize (w.alloc (.cells (ints .i64 h).toArray 50)) = W0 at x0 hb0 hp0 ⊢
  rw [← hq] at x0 ⊢
  refine (alive13_any _).mono ?_
  rintro e w1 ⟨rfl, hb1⟩
  have hH := x0.below hb1
  have hp1 := hp0.step hb1
  have hbw := below_next hb1 hb0
  have HQ := Lib.hid (And.intro hq hbw)
  clear x0 hb0 hp0 hb1 hq hbw hp hcl
  have h8 : (Try.prog.info? 50).map (·.size) = some (ints .i64 h).length := by rw [ints_length, hh]; kernel_rfl
  obtain ⟨he1, he2⟩ := Sr.err_range p h fuel
  by_cases hE : Sr.err p h fuel = 0
  · obtain ⟨hfr, hf0, hf1, hf2, hf⟩ := he2 hE
    obtain ⟨N, hN⟩ : ∃ N, N = (Sr.go p h).steps := ⟨_, rfl⟩
    obtain ⟨H, hH1⟩ : ∃ H, H = (Sr.go p h).heap := ⟨_, rfl⟩
    rw [← hN] at hf2
    have hl1 : H.length = 8 := by rw [hH1, ← hf]; exact Sr.fin_len p h fuel hh
    have hrun := isP_runs hp1 h fuel hs hh hr (H := H) (N := (N : Int)) (by rw [hf, hH1]) (by rw [hf, hN]) hE
    have h81 : (Try.prog.info? 50).map (·.size) = some (ints .i64 H).length := by rw [ints_length, hl1]; kernel_rfl
    have g1 : decide (fuel < (N : Int)) = false := by simp; omega
    have HN := Lib.hid (And.intro hN (And.intro hH1 hfr))
    clear he1 he2 hE hf hN hH1 hfr
    by_cases hm : more < N
    · have g2 : decide (more < (N : Int)) = true := by simpa using hm
      have g3 : decide ((N : Int) ≤ fuel) = true := by simpa using hf2
      clear hm
      go_wp2_with (first | (refine wpl_get_blk (ty := 50) hH (by kernel_rfl) h8 rfl rfl rfl ?_) | fail)
      refine (hrun).mono ?_
      rintro e w2x ⟨rfl, hbw2⟩
      have hBw2 := Blk.new w2x 50 (ints .i64 [0, 0, 0, 0, 0, 0, 0, 0])
      have hpw2 := Lib.hid (fun w2 => put_heap (w2 := w2) hbw2)
      clear hbw2
      clear hrun
      go_wp2_with (first | (refine wpl_put_blk hBw2 (ints .i64 H) (by kernel_rfl) (by rw [ints_length, hl1]; rfl) (ints_one1 .i64 H) rfl rfl rfl rfl ?_; intro w2 hXw2 hgw2; have hbw2 := hpw2.out w2 hgw2; clear hpw2 hgw2 hBw2; skip) | fail)
      have hbE := below_next hbw2 HQ.out.2
      clear hXw2 hbw2
      go_ret
      exact ⟨rfl, hbE⟩
    by_cases hm2 : 2000 < more
    · have g2 : decide (more < (N : Int)) = false := by simpa using hm
      have g4 : decide (2000 < more) = true := by simpa using hm2
      have g3 : decide ((N : Int) ≤ fuel) = true := by simpa using hf2
      clear hm hm2
      go_wp2_with (first | (refine wpl_get_blk (ty := 50) hH (by kernel_rfl) h8 rfl rfl rfl ?_) | fail)
      refine (hrun).mono ?_
      rintro e w2x ⟨rfl, hbw2⟩
      have hBw2 := Blk.new w2x 50 (ints .i64 [0, 0, 0, 0, 0, 0, 0, 0])
      have hpw2 := Lib.hid (fun w2 => put_heap (w2 := w2) hbw2)
      clear hbw2
      clear hrun
      go_wp2_with (first | (refine wpl_put_blk hBw2 (ints .i64 H) (by kernel_rfl) (by rw [ints_length, hl1]; rfl) (ints_one1 .i64 H) rfl rfl rfl rfl ?_; intro w2 hXw2 hgw2; have hbw2 := hpw2.out w2 hgw2; clear hpw2 hgw2 hBw2; skip) | fail)
      have hbE := below_next hbw2 HQ.out.2
      clear hXw2 hbw2
      go_ret
      exact ⟨rfl, hbE⟩
    have g2 : decide (more < (N : Int)) = false := by simpa using hm
    have g4 : decide (2000 < more) = false := by simpa using hm2
    have hm3 : (N : Int) ≤ more ∧ more ≤ 2000 := by omega
    clear hm hm2
    have hrun2 : ∀ w', Below w1.heap.size w1 w' → Calls Try.prog 20 #[.slice D dl dc, .agg (ints .i64 h).toArray, .int .i64 more] w' fun e w'' => e = .returned (.tuple #[.agg (ints .i64 H).toArray, .int .i64 (N : Int), .int .i64 0]) ∧ Below w'.heap.size w' w'' := fun w' hb => by
      obtain ⟨z1, z2⟩ := (Sr.err_zero (h := h) (fuel := more) HN.out.2.2 (by omega) hm3.2).1 (by rw [← HN.out.1]; exact hm3.1)
      exact isP_runs (hp1.step hb) h more hs hh hr (by rw [z2, HN.out.2.1]) (by rw [z2, HN.out.1]) z1
    obtain ⟨m3, hm3q⟩ : ∃ m3, m3 = Sr.fin p h ((N : Int) - 1) := ⟨_, rfl⟩
    obtain ⟨E3, hE3q⟩ : ∃ E3, E3 = Sr.err p h ((N : Int) - 1) := ⟨_, rfl⟩
    have hl3 : m3.heap.length = 8 := by rw [hm3q]; exact Sr.fin_len _ _ _ hh
    have hrun3 : ∀ w', Below w1.heap.size w1 w' → Calls Try.prog 20 #[.slice D dl dc, .agg (ints .i64 h).toArray, .int .i64 ((N : Int) - 1)] w' fun e w'' => e = .returned (.tuple #[.agg (ints .i64 m3.heap).toArray, .int .i64 (m3.steps : Int), .int .i64 E3]) ∧ Below w'.heap.size w' w'' := fun w' hb =>
      isP_runs (hp1.step hb) h ((N : Int) - 1) hs hh hr (by rw [hm3q]) (by rw [hm3q]) hE3q.symm
    have hE3 : N ≠ 0 → E3 = 5 := fun hn => by
      rw [hE3q]
      exact (Sr.err_zero (h := h) (fuel := (N : Int) - 1) HN.out.2.2 (by omega) (by omega)).2 (by rw [← HN.out.1]; omega)
    have hze := heap_eq H H hl1 hl1 true (by simp)
    have HE3 := Lib.hid hE3
    clear hm3q hE3q hE3 hp1
    go_wp2_with (first | (refine wpl_get_blk (ty := 50) hH (by kernel_rfl) h8 rfl rfl rfl ?_) | fail)
    refine (hrun).mono ?_
    rintro e w2x ⟨rfl, hbw2⟩
    have hBw2 := Blk.new w2x 50 (ints .i64 [0, 0, 0, 0, 0, 0, 0, 0])
    have hpw2 := Lib.hid (fun w2 => put_heap (w2 := w2) hbw2)
    clear hbw2
    clear hrun
    go_wp2_with (first | (refine wpl_put_blk hBw2 (ints .i64 H) (by kernel_rfl) (by rw [ints_length, hl1]; rfl) (ints_one1 .i64 H) rfl rfl rfl rfl ?_; intro w2 hXw2 hgw2; have hbw2 := hpw2.out w2 hgw2; clear hpw2 hgw2 hBw2; replace hH := hH.below hbw2) | (refine wpl_get_blk (ty := 50) hH (by kernel_rfl) h8 rfl rfl rfl ?_) | fail)
    have hr2 := hrun2 w2 hbw2
    refine (hr2).mono ?_
    rintro e w3x ⟨rfl, hbw3⟩
    have hBw3 := Blk.new w3x 50 (ints .i64 [0, 0, 0, 0, 0, 0, 0, 0])
    have hpw3 := Lib.hid (fun w3 => put_heap (w2 := w3) hbw3)
    clear hbw3
    clear hr2 hrun2
    go_wp2_with (first | (refine wpl_put_blk hBw3 (ints .i64 H) (by kernel_rfl) (by rw [ints_length, hl1]; rfl) (ints_one1 .i64 H) rfl rfl rfl rfl ?_; intro w3 hXw3 hgw3; have hbw3 := hpw3.out w3 hgw3; clear hpw3 hgw3 hBw3; replace hH := hH.below hbw3; have hbx := below_next hbw3 hbw2; have hX23 := hXw2.below hbw3) | (refine wpl_get_blk (ty := 50) hH (by kernel_rfl) h8 rfl rfl rfl ?_) | fail)
    have hr3 := hrun3 w3 hbx
    refine (hr3).mono ?_
    rintro e w4x ⟨rfl, hbw4⟩
    have hBw4 := Blk.new w4x 50 (ints .i64 [0, 0, 0, 0, 0, 0, 0, 0])
    have hpw4 := Lib.hid (fun w4 => put_heap (w2 := w4) hbw4)
    clear hbw4
    clear hr3 hrun3 hXw2 hH
    by_cases hn : N = 0
    · have g5 : ((N : Int) == 0) = true := by simpa using hn
      clear hn
      go_wp2_with (first | (refine wpl_put_blk hBw4 (ints .i64 m3.heap) (by kernel_rfl) (by rw [ints_length, hl3]; rfl) (ints_one1 .i64 m3.heap) rfl rfl rfl rfl ?_; intro w4 hXw4 hgw4; have hbw4 := hpw4.out w4 hgw4; clear hpw4 hgw4 hBw4; have hX24 := hX23.below hbw4; have hX34 := hXw3.below hbw4; have hbE := below_next (below_next hbw4 hbx) HQ.out.2) | (refine wpl_get_blk (ty := 50) hX24 (by kernel_rfl) h81 rfl rfl rfl ?_) | (refine wpl_get_blk (ty := 50) hX34 (by kernel_rfl) h81 rfl rfl rfl ?_) | fail)
      clear hXw4 hX24 hX34 hX23 hXw3
      go_ret
      exact ⟨rfl, hbE⟩
    · have g5 : ((N : Int) == 0) = false := by simp; omega
      have h5 : E3 = 5 := HE3.out hn
      subst h5
      clear hn
      go_wp2_with (first | (refine wpl_put_blk hBw4 (ints .i64 m3.heap) (by kernel_rfl) (by rw [ints_length, hl3]; rfl) (ints_one1 .i64 m3.heap) rfl rfl rfl rfl ?_; intro w4 hXw4 hgw4; have hbw4 := hpw4.out w4 hgw4; clear hpw4 hgw4 hBw4; have hX24 := hX23.below hbw4; have hX34 := hXw3.below hbw4; have hbE := below_next (below_next hbw4 hbx) HQ.out.2) | (refine wpl_get_blk (ty := 50) hX24 (by kernel_rfl) h81 rfl rfl rfl ?_) | (refine wpl_get_blk (ty := 50) hX34 (by kernel_rfl) h81 rfl rfl rfl ?_) | fail)
      clear hXw4 hX24 hX34 hX23 hXw3
      go_ret
      exact ⟨rfl, hbE⟩
  · have hf := he1 hE
    have hrun := isP_runs hp1 h fuel hs hh hr (H := Sr.zeros) (N := 0) (by rw [hf]; rfl) (by rw [hf]; rfl) rfl
    have hne : (Sr.err p h fuel != 0) = true := by simpa using hE
    have hz : ∀ w, (Op.equalIn 10000 50 (.agg (ints .i64 Sr.zeros).toArray) (.agg #[.int .i64 0, .int .i64 0, .int .i64 0, .int .i64 0, .int .i64 0, .int .i64 0, .int .i64 0, .int .i64 0])).run Try.prog w = .ok true w := heap_eq Sr.zeros Sr.zeros rfl rfl true (by decide)
    generalize Sr.err p h fuel = E at hrun hne
    clear he1 he2 hE hf hp1
    go_wp2_with (first | (refine wpl_get_blk (ty := 50) hH (by kernel_rfl) h8 rfl rfl rfl ?_) | fail)
    refine (hrun).mono ?_
    rintro e w2x ⟨rfl, hbw2⟩
    have hBw2 := Blk.new w2x 50 (ints .i64 [0, 0, 0, 0, 0, 0, 0, 0])
    have hpw2 := Lib.hid (fun w2 => put_heap (w2 := w2) hbw2)
    clear hbw2
    clear hrun
    have hl0 : Sr.zeros.length = 8 := rfl
    go_wp2_with (first | (refine wpl_put_blk hBw2 (ints .i64 Sr.zeros) (by kernel_rfl) (by rw [ints_length, hl0]; rfl) (ints_one1 .i64 Sr.zeros) rfl rfl rfl rfl ?_; intro w2 hXw2 hgw2; have hbw2 := hpw2.out w2 hgw2; clear hpw2 hgw2 hBw2; skip) | (refine wpl_get_blk (ty := 50) hXw2 (by kernel_rfl) (by kernel_rfl) rfl rfl rfl ?_) | fail)
    have hbE := below_next (below_next hbw2 (Below.refl _ _)) HQ.out.2
    clear hXw2 hz hbw2
    go_ret
    exact ⟨rfl, hbE⟩
end Go.Proofs.Ytajddbmmbhdnfaa


namespace Go.Proofs.Ytajddbmmbhdnfaa
set_option linter.unusedVariables false
set_option linter.unusedSimpArgs false
set_option maxRecDepth 100000
open Go.ChangeShapes Go.WideShapes Go.ChangeAt Go.RowKit

theorem okWide_heap {W : World} {base : Nat} {v : Value} (h : Value.okWide Try.prog W .any base 50 v) : ∃ cs, v = .agg cs ∧ cs.size = 8 := by
  have c8 : Try.prog.cellsOf 50 = 8 := by kernel_rfl
  simp only [Value.okWide, arr_heap] at h
  obtain ⟨cs, h1, h2, _⟩ := h
  exact ⟨cs, h1, by rw [h2, c8]⟩
theorem open_arg_heap {H : Type} {enc : TypeId × Value → H} {W : World} {base : Nat} {v : Value} {d : DataW H} {p : List MemPlace} (hv : Value.okWide Try.prog W .any base 50 v) (h : DataW.Trod enc Try.prog W 0 (fun _ => true) true 50 v d p) :
    ∃ l : List Int, v = hcells l ∧ l.length = 8 ∧ ∀ x ∈ l, Ex.rng x := by
  obtain ⟨cs, rfl, hcs⟩ := okWide_heap hv
  obtain ⟨fuel, hf⟩ := h
  have c1 : Try.prog.cellsOf 3 = 1 := by kernel_rfl
  obtain ⟨xs, m, -, -, -, hx, hel⟩ := DataW.trod_array arr_heap hf
  have key : ∀ i, i < 8 → ∃ n : Int, cs[i]? = some (.int .i64 n) ∧ Ex.rng n := fun i hi => by
    have := hel i hi
    rw [c1, List.getElem?_eq_getElem (by omega)] at this
    obtain ⟨n, hn, -, hw⟩ := DataW.trod_int Try.underlying3 this
    refine ⟨n, ?_, wf_i64.1 hw⟩
    have h2 := congrArg (fun l => l[0]?) hn
    simp [Value.cells] at h2
    have hsz : i < cs.size := by omega
    simpa [hsz] using h2
  obtain ⟨n0, k0, r0⟩ := key 0 (by omega)
  obtain ⟨n1, k1, r1⟩ := key 1 (by omega)
  obtain ⟨n2, k2, r2⟩ := key 2 (by omega)
  obtain ⟨n3, k3, r3⟩ := key 3 (by omega)
  obtain ⟨n4, k4, r4⟩ := key 4 (by omega)
  obtain ⟨n5, k5, r5⟩ := key 5 (by omega)
  obtain ⟨n6, k6, r6⟩ := key 6 (by omega)
  obtain ⟨n7, k7, r7⟩ := key 7 (by omega)
  refine ⟨[n0, n1, n2, n3, n4, n5, n6, n7], ?_, rfl, ?_⟩
  · unfold hcells
    congr 1
    apply Array.ext'
    obtain ⟨l⟩ := cs
    match l, hcs with
    | [a0, a1, a2, a3, a4, a5, a6, a7], _ =>
      simp at k0 k1 k2 k3 k4 k5 k6 k7
      subst k0 k1 k2 k3 k4 k5 k6 k7
      rfl
  · intro x hx
    simp only [List.mem_cons, List.not_mem_nil, or_false] at hx
    rcases hx with rfl | rfl | rfl | rfl | rfl | rfl | rfl | rfl <;> assumption
end Go.Proofs.Ytajddbmmbhdnfaa


namespace Go.Proofs.Ytajddbmmbhdnfaa
set_option linter.unusedVariables false
set_option linter.unusedSimpArgs false
set_option maxRecDepth 100000
open Go.RowKit

open Classical in
/-- those blocks alone -/
noncomputable def only (w : World) (S : Nat → Prop) : World := { w with heap := w.heap.mapIdx fun i o => if S i then o else .cells #[] 0 (0, 0) }
theorem only_size (w : World) (S : Nat → Prop) : (only w S).heap.size = w.heap.size := by simp [only]
theorem only_some {w : World} {S : Nat → Prop} {p : Addr} {v : Value} : (only w S).cell? p = some v ↔ S p.block ∧ w.cell? p = some v := by
  unfold World.cell? only
  simp only [Array.getElem?_mapIdx]
  rcases h : w.heap[p.block]? with _ | o
  · simp
  · by_cases hs : S p.block
    · simp [hs]
    · simp [hs]

section
variable {S S' : Nat → Prop} {B B' n : Nat} {w w' : World} {cs : List Value} {A : Option Addr} {p : St.P}
theorem XRN.mono {N : Bool} {e : Ex.X} (h : XRN N B w cs e) (hB : B ≤ B') (hk : ∀ (p : Addr) (v : Value), p.block < B → w.cell? p = some v → w'.cell? p = some v) : XRN N B' w' cs e := by
  induction h with
  | num n s A len cap h1 h2 h3 hN => exact .num n s A len cap h1 h2 h3 hN
  | name n s A len cap h1 h2 hN => exact .name n s A len cap h1 h2 hN
  | bad k n s A len cap h1 h2 h3 h4 h5 hN => exact .bad k n s A len cap h1 h2 h3 h4 h5 hN
  | two k n s g o len cap cs0 cs1 e0 e1 h1 h2 h3 h4 h5 h6 h7 h8 _ _ hN i0 i1 =>
    exact .two k n s g o len cap cs0 cs1 e0 e1 h1 h2 h3 h4 h5 (Nat.lt_of_lt_of_le h6 hB) (fun j u hu => hk ⟨g, o + j, none⟩ u h6 (h7 j u hu)) (fun j u hu => hk ⟨g, o + 4 + j, none⟩ u h6 (h8 j u hu)) i0 i1 hN
theorem PR.mono (h : PR B w A n p) (hB : B ≤ B') (hk : ∀ (p : Addr) (v : Value), p.block < B → w.cell? p = some v → w'.cell? p = some v) : PR B' w' A n p := by
  induction h with
  | nil A => exact .nil A
  | cons g o n k nm ca cb ea eb D dl dc E el ec body els rest h1 h2 h3 h4 h5 h6 h7 h8 _ _ _ i1 i2 i3 =>
    exact .cons g o n k nm ca cb ea eb D dl dc E el ec body els rest (Nat.lt_of_lt_of_le h1 hB) h2 h3 h4 h5 (fun j u hu => hk ⟨g, o + j, none⟩ u h1 (h6 j u hu)) (h7.mono hB hk) (h8.mono hB hk) i1 i2 i3
theorem PC.mono (h : PC B w cs n p) (hB : B ≤ B') (hk : ∀ (p : Addr) (v : Value), p.block < B → w.cell? p = some v → w'.cell? p = some v) : PC B' w' cs n p := by
  induction h with
  | nil => exact .nil
  | cons n k nm ca cb ea eb D dl dc E el ec body els rest cs h1 h2 h3 h4 h5 h6 h7 h8 _ ih => exact .cons n k nm ca cb ea eb D dl dc E el ec body els rest cs h1 h2 h3 h4 (h5.mono hB hk) (h6.mono hB hk) (h7.mono hB hk) (h8.mono hB hk) ih

/-- read, in those blocks alone -/
def XS (S : Nat → Prop) (w : World) (cs : List Value) (e : Ex.X) : Prop := XR w.heap.size (only w S) cs e
def PS (S : Nat → Prop) (w : World) (A : Option Addr) (n : Nat) (p : St.P) : Prop := PR w.heap.size (only w S) A n p
def CS (S : Nat → Prop) (w : World) (cs : List Value) (n : Nat) (p : St.P) : Prop := PC w.heap.size (only w S) cs n p

theorem only_up {r : Option Nat} (hg : w.grownBy w' r) (hS : ∀ g, g < w.heap.size → S g → S' g ∧ some g ≠ r) : ∀ (p : Addr) (v : Value), p.block < w.heap.size → (only w S).cell? p = some v → (only w' S').cell? p = some v := fun p v hp hv => by
  obtain ⟨h1, h2⟩ := only_some.1 hv
  obtain ⟨h3, h4⟩ := hS _ hp h1
  exact only_some.2 ⟨h3, (World.cell?_of_block (hg.block _ hp h4)).trans h2⟩
theorem XS.go {e : Ex.X} {r : Option Nat} (h : XS S w cs e) (hg : w.grownBy w' r) (hS : ∀ g, g < w.heap.size → S g → S' g ∧ some g ≠ r) : XS S' w' cs e := h.mono hg.size (only_up hg hS)
theorem PS.go {r : Option Nat} (h : PS S w A n p) (hg : w.grownBy w' r) (hS : ∀ g, g < w.heap.size → S g → S' g ∧ some g ≠ r) : PS S' w' A n p := h.mono hg.size (only_up hg hS)
theorem CS.go {r : Option Nat} (h : CS S w cs n p) (hg : w.grownBy w' r) (hS : ∀ g, g < w.heap.size → S g → S' g ∧ some g ≠ r) : CS S' w' cs n p := h.mono hg.size (only_up hg hS)
theorem XS.of {e : Ex.X} (h : XR B w cs e) (hB : B ≤ w.heap.size) (hS : ∀ g, g < B → S g) : XS S w cs e := h.mono hB fun p v hp hv => only_some.2 ⟨hS _ hp, hv⟩
theorem PS.of (h : PR B w A n p) (hB : B ≤ w.heap.size) (hS : ∀ g, g < B → S g) : PS S w A n p := PR.mono h hB fun p v hp hv => only_some.2 ⟨hS _ hp, hv⟩
theorem CS.of (h : PC B w cs n p) (hB : B ≤ w.heap.size) (hS : ∀ g, g < B → S g) : CS S w cs n p := PC.mono h hB fun p v hp hv => only_some.2 ⟨hS _ hp, hv⟩
theorem XS.xr {e : Ex.X} (h : XS S w cs e) : XR w.heap.size w cs e := h.mono (Nat.le_refl _) fun p v hp hv => (only_some.1 hv).2
theorem PS.pr (h : PS S w A n p) : PR w.heap.size w A n p := PR.mono h (Nat.le_refl _) fun p v hp hv => (only_some.1 hv).2
theorem CS.pc (h : CS S w cs n p) : PC w.heap.size w cs n p := PC.mono h (Nat.le_refl _) fun p v hp hv => (only_some.1 hv).2
theorem PS.imp (h : PS S w A n p) (hS : ∀ g, g < w.heap.size → S g → S' g) : PS S' w A n p := h.go (World.grownBy.refl w none) fun g hg hs => ⟨hS g hg hs, by simp⟩
theorem CS.imp (h : CS S w cs n p) (hS : ∀ g, g < w.heap.size → S g → S' g) : CS S' w cs n p := h.go (World.grownBy.refl w none) fun g hg hs => ⟨hS g hg hs, by simp⟩
theorem XS.imp {e : Ex.X} (h : XS S w cs e) (hS : ∀ g, g < w.heap.size → S g → S' g) : XS S' w cs e := h.go (World.grownBy.refl w none) fun g hg hs => ⟨hS g hg hs, by simp⟩
theorem CS.nil : CS S w [] 0 .nil := PC.nil
theorem CS.append {cs' : List Value} {n' : Nat} {p' : St.P} (h : CS S w cs n p) (h' : CS S w cs' n' p') : CS S w (cs ++ cs') (n + n') (p ++ p') := PC.append h h'
theorem CS.one {k : Int} {nm : ByteArray} {ca cb : List Value} {ea eb : Ex.X} {D : Option Addr} {dl dc : Nat} {E : Option Addr} {el ec : Nat} {body els : St.P} (h : dl ≤ dc ∧ dc ≤ maxLen ∧ el ≤ ec ∧ ec ≤ maxLen) (h5 : XS S w ca ea) (h6 : XS S w cb eb) (h7 : PS S w D dl body) (h8 : PS S w E el els) : CS S w (stcells k nm ca cb D dl dc E el ec) 1 (.cons k nm.data.toList ea eb body els .nil) := PC.one h h5 h6 h7 h8
/-- where the cells lie, too -/
theorem CS.read (h : CS S w cs n p) (g o : Nat) (hg : n ≠ 0 → g < w.heap.size) (hc : ∀ j u, cs[j]? = some u → w.cell? ⟨g, o + j, none⟩ = some u) : PS (fun b => S b ∨ b = g) w (some ⟨g, o, none⟩) n p :=
  PC.read (w := only w fun b => S b ∨ b = g) (CS.imp h fun _ _ => .inl) (Nat.le_refl _) g o hg fun j u hu => only_some.2 ⟨.inr rfl, hc j u hu⟩
theorem CS.one_cells (h : CS S w cs n p) : ∀ u ∈ cs, u.oneCell' = true := PC.one_cells h
theorem CS.length (h : CS S w cs n p) : cs.length = n * 12 := PC.length h

/-- a slice of statements, in those blocks alone -/
def SP (S : Nat → Prop) (w : World) (v : Value) (p : St.P) : Prop := ∃ A n c, v = .slice A n c ∧ n ≤ c ∧ c ≤ maxLen ∧ PS S w A n p
theorem SP.nil : SP S w (.slice none 0 0) .nil := ⟨none, 0, 0, rfl, Nat.le_refl _, Nat.zero_le _, PR.nil _⟩
theorem SP.go {v : Value} {r : Option Nat} (h : SP S w v p) (hg : w.grownBy w' r) (hS : ∀ g, g < w.heap.size → S g → S' g ∧ some g ≠ r) : SP S' w' v p := by
  obtain ⟨A, n, c, rfl, h1, h2, h3⟩ := h
  exact ⟨A, n, c, rfl, h1, h2, h3.go hg hS⟩
theorem SP.is {v : Value} (h : SP S w v p) : IsP w v p := by
  obtain ⟨A, n, c, rfl, h1, h2, h3⟩ := h
  exact ⟨A, n, c, rfl, h1, h2, h3.pr⟩
theorem SP.of_own {base : Nat} {v : Value} {e : TypeId} (h : CS S w cs n p) (hown : w.ownsRow base e 12 v n cs) : SP (fun g => S g ∨ some g = v.ownBlock) w v p := by
  rcases hown.2 with ⟨rfl, rfl⟩ | ⟨g, cap, cur, rfl, _, hg, hle, hm, _, _⟩
  · have : cs = [] := List.eq_nil_of_length_eq_zero (by rw [hown.1])
    subst this
    cases (show PC _ _ [] 0 p from h)
    exact SP.nil
  · refine ⟨_, n, cap, rfl, hle, hm, (CS.read h g 0 (fun _ => (Array.getElem?_eq_some_iff.1 hg).1) fun j u hu => ?_).imp fun b _ hb => hb.imp id fun e => by subst e; rfl⟩
    have := hown.cells (g := g) rfl j u hu
    rw [Nat.zero_add]
    rwa [show ((⟨g, 0, none⟩ : Addr).add j) = ⟨g, j, none⟩ from by unfold Addr.add; split <;> simp_all] at this
theorem CS.row {base : Nat} {v v' : Value} {e : TypeId} {size m : Nat} {xs : List Value} (h : CS S w cs n p) (hown : w.ownsRow base e size v m xs) (hg : w.grownBy w' v.ownBlock) (hv : v'.ownBlock = v.ownBlock ∨ ∃ g, w.heap.size ≤ g ∧ v'.ownBlock = some g) (hS : ∀ g, g < w.heap.size → S g → S' g ∧ some g ≠ v.ownBlock) : CS (fun g => S' g ∧ some g ≠ v'.ownBlock) w' cs n p :=
  h.go hg fun g hl hs => ⟨⟨(hS g hl hs).1, by
    rcases hv with e | ⟨g', hge, e⟩
    · rw [e]; exact (hS g hl hs).2
    · rw [e]; intro e'; injection e' with e'; omega⟩, (hS g hl hs).2⟩
end
end Go.Proofs.Ytajddbmmbhdnfaa


namespace Go.Proofs.Ytajddbmmbhdnfaa
set_option linter.unusedVariables false
set_option linter.unusedSimpArgs false
set_option maxRecDepth 100000
open Go.RowKit

theorem grow_stmts (n : Nat) (w : World) (hn : n ≤ 137438953472) :
    Calls Try.prog 36 #[.slice none 0 0, .int .i64 n] w fun e w' => ∃ v, e = .returned v ∧ w'.ownsRow w.heap.size 66 12 v 0 [] ∧ Below w.heap.size w w' := by
  rcases Nat.eq_zero_or_pos n with rfl | hpos
  · go_enter Try.func36, Try.ntmps36
    go_wp2
    go_ret
    exact ⟨_, rfl, World.ownsRow_nil _ _ _ _, Below.refl _ _⟩
  · obtain ⟨i, hi, hz0, hz1, hz2⟩ := info_parts info_stmt
    have hcap := grownCap_ge w n 0 66
    have hcm := grownCap_le_maxLen w n 0 66 (by unfold maxLen; omega)
    have hr := fun ty kq => Lib.run_append_nil_zeros (P := Try.prog) w 48 3 ty 66 i _ kq .i64 Try.underlying48 Try.underlying3 hi hz0 n hpos (by omega) (by omega) (by rw [hz2]; omega)
    obtain ⟨cap, hc⟩ : ∃ cap, cap = grownCap w n 0 66 := ⟨_, rfl⟩
    rw [← hc] at hcap hcm hr
    have hcz : (Builtin.zeroCells (Value.agg #[Value.int IntKind.i64 0, Value.string ⟨#[]⟩, Value.int IntKind.i64 0, Value.int IntKind.i64 0, Value.string ⟨#[]⟩, Value.slice none 0 0, Value.int IntKind.i64 0, Value.int IntKind.i64 0, Value.string ⟨#[]⟩, Value.slice none 0 0, Value.slice none 0 0, Value.slice none 0 0]).cells n ++ Builtin.zeroCells (Value.agg #[Value.int IntKind.i64 0, Value.string ⟨#[]⟩, Value.int IntKind.i64 0, Value.int IntKind.i64 0, Value.string ⟨#[]⟩, Value.slice none 0 0, Value.int IntKind.i64 0, Value.int IntKind.i64 0, Value.string ⟨#[]⟩, Value.slice none 0 0, Value.slice none 0 0, Value.slice none 0 0]).cells (cap - n)).size = cap * 12 := by
      simp only [Array.size_append, size_zeroCells, Value.cells, List.size_toArray, List.length_cons, List.length_nil]
      omega
    generalize (Builtin.zeroCells (Value.agg #[Value.int IntKind.i64 0, Value.string ⟨#[]⟩, Value.int IntKind.i64 0, Value.int IntKind.i64 0, Value.string ⟨#[]⟩, Value.slice none 0 0, Value.int IntKind.i64 0, Value.int IntKind.i64 0, Value.string ⟨#[]⟩, Value.slice none 0 0, Value.slice none 0 0, Value.slice none 0 0]).cells n ++ Builtin.zeroCells (Value.agg #[Value.int IntKind.i64 0, Value.string ⟨#[]⟩, Value.int IntKind.i64 0, Value.int IntKind.i64 0, Value.string ⟨#[]⟩, Value.slice none 0 0, Value.int IntKind.i64 0, Value.int IntKind.i64 0, Value.string ⟨#[]⟩, Value.slice none 0 0, Value.slice none 0 0, Value.slice none 0 0]).cells (cap - n)) = cur at hr hcz
    have hcm' := hcm
    unfold maxLen at hcm
    have hend : (w.drew.alloc (.cells cur 66)).ownsRow w.heap.size 66 12 (.slice (some ⟨w.heap.size, 0, none⟩) 0 cap) 0 [] ∧ Below w.heap.size w (w.drew.alloc (.cells cur 66)) :=
      ⟨⟨rfl, .inr ⟨w.heap.size, cap, cur, rfl, Nat.le_refl _, heap_alloc_new w.drew _, Nat.zero_le _, hcm', hcz, by simp⟩⟩, below_alloc (below_drew (Below.refl _ _)) _⟩
    have HR := Lib.hid hr
    have HE := Lib.hid hend
    clear hr hend hc hcz hz0 hz1 hz2 hi hcm'
    go_enter Try.func36, Try.ntmps36
    go_wp2_with (at_builtin; refine Lib.wpList_append_run _ rfl _ _ _ _ rfl _ _ rfl rfl _ _ (HR.out _ _) ?_)
    go_ret
    exact ⟨_, rfl, HE.out.1, HE.out.2⟩

def St.cat (l : List St.P) : St.P := l.foldr (· ++ ·) .nil
theorem St.cat_snoc (l : List St.P) (p : St.P) : St.cat (l ++ [p]) = St.cat l ++ p := by
  induction l with
  | nil => simp [St.cat, St.P.append_nil, St.P.nil_append]
  | cons q l ih =>
    show q ++ St.cat (l ++ [p]) = (q ++ St.cat l) ++ p
    rw [ih, St.P.append_assoc]
def St.len (l : List St.P) : Nat := (St.cat l).length
theorem St.len_snoc (l : List St.P) (p : St.P) : St.len (l ++ [p]) = St.len l + p.length := by unfold St.len; rw [St.cat_snoc, St.P.length_append]
theorem St.len_take (l : List St.P) (k : Nat) : St.len (l.take k) ≤ St.len l := by
  have e : St.cat l = St.cat (l.take k) ++ St.cat (l.drop k) := by
    induction l generalizing k with
    | nil => simp [St.cat, St.P.nil_append]
    | cons q l ih =>
      rcases k with _ | k
      · simp [St.cat, St.P.nil_append]
      · show q ++ St.cat l = (q ++ St.cat (l.take k)) ++ St.cat (l.drop k)
        rw [ih k, St.P.append_assoc]
  unfold St.len
  rw [e, St.P.length_append]
  omega

theorem info_sl : (Try.prog.info? 48).map (fun i => (i.zero, i.size, i.bytes)) = some (some (.slice none 0 0), 1, 24) := by kernel_rfl

/-- what a slice of slices of statements holds -/
def Parts (w : World) (vs : List Value) (ps : List St.P) : Prop := vs.length = ps.length ∧ ∀ (j : Nat) (v : Value), vs[j]? = some v → ∃ p, ps[j]? = some p ∧ IsP w v p

set_option maxHeartbeats 2000000 in
theorem concat_any (vs : List Value) (ps : List St.P) (v : Value) (w : World) (h : SlV w 1 v vs.length vs) (hp : Parts w vs ps) (hsz : St.len ps ≤ 1099511627) :
    Calls Try.prog 25 #[v] w fun e w' => ∃ u, e = .returned u ∧ IsP w' u (St.cat ps) ∧ Below w.heap.size w w' := by
  obtain ⟨A, c, rfl, hle, hm, hlen, hc⟩ := h
  unfold maxLen at hm
  have HL := Lib.hid hp.1
  have hone : ∀ k, k < vs.length → ∃ (A' : Option Addr) (n' c' : Nat) (p : St.P), vs[k]? = some (.slice A' n' c') ∧ ps[k]? = some p ∧ n' = p.length ∧ n' ≤ c' ∧ c' ≤ maxLen ∧ PR w.heap.size w A' n' p := fun k hk => by
    obtain ⟨u, hu⟩ : ∃ u, vs[k]? = some u := ⟨_, List.getElem?_eq_getElem hk⟩
    obtain ⟨p, h1, A', n', c', rfl, h3, h4, h5⟩ := hp.2 k u hu
    exact ⟨A', n', c', p, hu, h1, h5.length, h3, h4, h5⟩
  have hsn : ∀ k p, ps[k]? = some p → ps.take (k + 1) = ps.take k ++ [p] := fun k p hp => by
    obtain ⟨h', rfl⟩ := List.getElem?_eq_some_iff.1 hp
    exact List.take_succ_eq_append_getElem h'
  have HO := Lib.hid (And.intro hone (And.intro hsn hsz))
  clear hone hsn hsz hp hlen
  go_enter Try.func25, Try.ntmps25
  go_wp2
  go_loop [3, 11] (fun s i => ∃ k : Nat, k ≤ vs.length ∧ i = .int .i64 k ∧ s = .int .i64 (St.len (ps.take k) : Nat)) (fun s i => vs.length - (intOf i).toNat)
  case atStart => exact ⟨0, Nat.zero_le _, rfl, rfl⟩
  case round =>
    obtain ⟨k, hk, rfl, rfl⟩ := hrel
    have hb := St.len_take ps k
    have hb2 := HO.out.2.2
    by_cases hlt : k < vs.length
    · obtain ⟨A', n', c', p, hu, hpk, hn', hle', hm', -⟩ := HO.out.1 k hlt
      obtain ⟨b, o, rfl, hbb, hcc⟩ := hc.at_ (fun e => by rw [e] at hu; simp at hu)
      have c1 := hcc _ _ hu
      have hln := St.len_snoc (ps.take k) p
      have hb3 := St.len_take ps (k + 1)
      rw [HO.out.2.1 _ _ hpk, hln, ← hn'] at hb3
      have HN := Lib.hid (And.intro hln (And.intro hn' hpk))
      obtain ⟨l, hl⟩ : ∃ l, l = St.len (ps.take k) := ⟨_, rfl⟩
      rw [← hl] at hb hb3 ⊢
      have HK := Lib.hid hl
      clear hc hcc hu hpk hn' hln hl
      go_wp2
      go_round
      case rel => exact ⟨k + 1, by omega, by go_num, by rw [HO.out.2.1 _ _ HN.out.2.2, HN.out.1, ← HK.out, ← HN.out.2.1]; go_num⟩
      case measure => simp [intOf]; omega
    · have HK := Lib.hid (show k = ps.length by have := HL.out; omega)
      clear hb
      go_wp2_with fail
      refine (grow_stmts _ _ (by rw [HK.out, List.take_length]; omega)).mono ?_
      rintro e w1 ⟨v1, rfl, hown1, hb1⟩
      go_wp2_with fail
      go_loopw [6, 27] (fun s i wr => ∃ (k : Nat) (cs : List Value), k ≤ vs.length ∧ i = .int .i64 k ∧ wr.ownsRow w.heap.size 66 12 s (St.len (ps.take k)) cs ∧ PC w.heap.size wr cs (St.len (ps.take k)) (St.cat (ps.take k)) ∧ Below w.heap.size w wr) (fun s i _ => vs.length - (intOf i).toNat)
      case atStart => exact ⟨0, [], Nat.zero_le _, rfl, hown1, .nil, hb1⟩
      case round =>
        clear hb1 hown1
        obtain ⟨k, cs, hk, rfl, hown, hpc, hbw⟩ := hrel
        have hb := St.len_take ps k
        by_cases hlt : k < vs.length
        · obtain ⟨A', n', c', p, hu, hpk, hn', hle', hm', hpr⟩ := HO.out.1 k hlt
          obtain ⟨b, o, rfl, hbb, hcc⟩ := hc.at_ (fun e => by rw [e] at hu; simp at hu)
          have c1 := (hbw.cell (p := ⟨b, o + k, none⟩) hbb).trans (hcc _ _ hu)
          have hln := St.len_snoc (ps.take k) p
          have hb3 := St.len_take ps (k + 1)
          rw [HO.out.2.1 _ _ hpk, hln, ← hn'] at hb3
          obtain ⟨ds, hpd, hcd⟩ := (hpr.later hbw).flat
          have HN := Lib.hid (And.intro hln (And.intro hn' hpk))
          have n63 : St.len (ps.take k) + n' ≤ maxLen := by unfold maxLen; omega
          have n47 : (St.len (ps.take k) + n') * 184 ≤ 140737488355328 := by omega
          have hle0 := hbw.size
          clear hc hcc hu hpk hn' hln
          go_wp2_with (at_builtin; refine wp_append wr _ _ _ _ _ _ _ _ Try.underlying48 info_stmt rfl (by decide) hown hcd hpd.length (hpd.one_cells) n63 n47 hle0 rfl rfl rfl rfl ?_; intro v' w4 hown4 _ _ hb4)
          have hpc4 := (hpc.append hpd).later hb4
          have hbw4 := hbw.trans hb4
          clear hown hpc hpd hcd hb4 hbw hpr
          go_roundw
          case rel => exact ⟨k + 1, _, by omega, by go_num, by rw [HO.out.2.1 _ _ HN.out.2.2, HN.out.1, ← HN.out.2.1]; exact hown4, by rw [HO.out.2.1 _ _ HN.out.2.2, HN.out.1, ← HN.out.2.1, St.cat_snoc]; exact hpc4, hbw4⟩
          case measure => simp [intOf]; omega
        · have HK2 := Lib.hid (show k = ps.length by have := HL.out; omega)
          clear hc
          go_wp2
          go_ret
          exact ⟨_, rfl, by
            rw [HK2.out, List.take_length] at hown hpc
            exact IsP.of_slv (PC.keep hpc hbw.size fun _ _ => rfl) (SlV.of_own hown), hbw⟩
end Go.Proofs.Ytajddbmmbhdnfaa


namespace Go.Proofs.Ytajddbmmbhdnfaa
set_option linter.unusedVariables false
set_option linter.unusedSimpArgs false
set_option maxRecDepth 100000
open Go

section
variable {P : Program} {ops : Array Oper} {Q : Exit → Act → World → Prop} {S : World → Prop} {I : Nat → Env → World → Prop} {L : List Tmp} {E : World → World → Prop} {mk fl : Nat → Bool}

def markPB (ops : Array Oper) (n : Nat) (mk fl : Nat → Bool) (ms : List Nat) : Bool :=
  ms.all fun m => (decide (m < n) && (!fl m && match ops[m]? with | some o => o.guard.isNone | none => true)) && (List.range n).all fun i => i == m || (fl i || if i < m then reachB ops 6 m i else reachB ops 6 i m)
structure MarkedP (ops : Array Oper) (mk fl : Nat → Bool) (n : Nat) : Prop where
  lt : ∀ m, mk m = true → m < n
  fix : ∀ m, mk m = true → fl m = false
  gd : ∀ m o, mk m = true → ops[m]? = some o → o.guard = none
  before : ∀ m i, mk m = true → i < m → fl i = false → reachB ops 6 m i = true
  after : ∀ m i, mk m = true → m < i → i < n → fl i = false → reachB ops 6 i m = true
theorem markedP_of {n : Nat} {ms : List Nat} (hms : ∀ m, mk m = true → m ∈ ms) (h : markPB ops n mk fl ms = true) : MarkedP ops mk fl n := by
  have key := List.all_eq_true.1 h
  have k1 : ∀ m, mk m = true → m < n ∧ fl m = false ∧ (match ops[m]? with | some o => o.guard.isNone | none => true) = true := fun m hm => by
    have := key m (hms m hm)
    rw [Bool.and_eq_true, Bool.and_eq_true, Bool.and_eq_true, decide_eq_true_eq] at this
    exact ⟨this.1.1, by simpa using this.1.2.1, this.1.2.2⟩
  have k2 : ∀ m, mk m = true → (List.range n).all (fun i => i == m || (fl i || if i < m then reachB ops 6 m i else reachB ops 6 i m)) = true := fun m hm => by
    have := key m (hms m hm)
    rw [Bool.and_eq_true] at this
    exact this.2
  refine ⟨fun m hm => (k1 m hm).1, fun m hm => (k1 m hm).2.1, fun m o hm ho => ?_, fun m i hm hi hf => ?_, fun m i hm hi hlt hf => ?_⟩
  · have := (k1 m hm).2.2
    rw [ho] at this
    simpa using this
  · have h2 := List.all_eq_true.1 (k2 m hm) i (List.mem_range.2 (by have := (k1 m hm).1; omega))
    have hne : (i == m) = false := by simp; omega
    rw [hne, Bool.false_or, hf, Bool.false_or, if_pos hi] at h2
    exact h2
  · have h2 := List.all_eq_true.1 (k2 m hm) i (List.mem_range.2 hlt)
    have hne : (i == m) = false := by simp; omega
    rw [hne, Bool.false_or, hf, Bool.false_or, if_neg (by omega)] at h2
    exact h2

/-- the marks ahead of it -/
def cntM (mk : Nat → Bool) : Nat → Nat
  | 0 => 0
  | k + 1 => cntM mk k + cond (mk k) 1 0
theorem cntM_mono {a b : Nat} (h : a ≤ b) : cntM mk a ≤ cntM mk b := by
  induction b with
  | zero => rw [Nat.le_zero.1 h]; exact Nat.le_refl _
  | succ b ih =>
    rcases Nat.lt_or_ge a (b + 1) with h' | h'
    · exact Nat.le_trans (ih (by omega)) (Nat.le_add_right _ _)
    · rw [show a = b + 1 by omega]; exact Nat.le_refl _
theorem cntM_lt {a b : Nat} (h : a < b) (hm : mk a = true) : cntM mk a < cntM mk b := by
  have h1 : cntM mk (a + 1) = cntM mk a + 1 := by rw [cntM, hm]; rfl
  have h2 := cntM_mono (mk := mk) (show a + 1 ≤ b by omega)
  omega
/-- the next one -/
theorem cntM_next {a b : Nat} (h : cntM mk a < cntM mk b) : ∃ m, a ≤ m ∧ m < b ∧ mk m = true ∧ cntM mk m = cntM mk a := by
  induction b with
  | zero => exact absurd h (by simp [cntM])
  | succ b ih =>
    by_cases h' : cntM mk a < cntM mk b
    · obtain ⟨m, h1, h2, h3, h4⟩ := ih h'
      exact ⟨m, h1, by omega, h3, h4⟩
    · have hab : a ≤ b := by
        rcases Nat.lt_or_ge b a with h2 | h2
        · have := cntM_mono (mk := mk) (show b + 1 ≤ a by omega)
          omega
        · exact h2
      have := cntM_mono (mk := mk) hab
      rw [cntM] at h
      rcases hb : mk b with _ | _
      · rw [hb] at h; simp at h; omega
      · exact ⟨b, hab, by omega, hb, by omega⟩
/-- what is known in the phase -/
def PreP (mk fl : Nat → Bool) (I : Nat → Env → World → Prop) (k : Nat) (ρ : Env) (w : World) : Prop := fl k = false → I (cntM mk k) ρ w
/-- what a step gives -/
def EsP (mk : Nat → Bool) (E : World → World → Prop) (I : Nat → Env → World → Prop) (k : Nat) (ρ : Env) : World → World → Prop := cond (mk k) (fun _ w' => I (cntM mk k + 1) ρ w') E
def SettleP (P : Program) (ops : Array Oper) (S : World → Prop) (I : Nat → Env → World → Prop) (E : World → World → Prop) (mk fl : Nat → Bool) (Z : (Env → Act) → List (Tmp × Fact E) → Prop) : Nat → List Oper → (Env → Act) → List (Tmp × Fact E) → Prop
  | _, [], A, Fs => Z A Fs
  | k, o :: rest, A, Fs =>
    (∃ v, (∀ ρ w, S w → FactsOK (o.looksAt ops) ρ w (cond (fl k) [] Fs) → PreP mk fl I k ρ w → StepTo P ops S (EsP mk E I k ρ) o (A ρ) w (fun u _ => u = v)) ∧ SettleP P ops S I E mk fl Z (k + 1) rest (fun ρ => (A ρ).put o.dst v) (cond (mk k) [] Fs)) ∨
    (∃ d F, o.dst = some d ∧ fl k = false ∧ (∀ ρ w, S w → FactsOK (o.looksAt ops) ρ w (cond (fl k) [] Fs) → PreP mk fl I k ρ w → StepTo P ops S (EsP mk E I k ρ) o (A ρ) w F.holds) ∧ SettleP P ops S I E mk fl Z (k + 1) rest (fun ρ => (A ρ).put (some d) (ρ d)) ((d, F) :: cond (mk k) [] Fs))

structure PlanP (P : Program) (ops : Array Oper) (S : World → Prop) (I : Nat → Env → World → Prop) (mk fl : Nat → Bool) (a : Act) (l : List (Oper × Kind E)) : Prop where
  dst : ∀ p ∈ l, (∃ F, p.2 = .fresh F) → ∃ d, p.1.dst = some d
  flt : ∀ (j : Nat) p, l[j]? = some p → (∃ F, p.2 = .fresh F) → fl j = false
  step : ∀ pre p post, l = pre ++ p :: post → ∀ ρ w, S w → FactsOK (p.1.looksAt ops) ρ w (cond (fl pre.length) [] (factsM mk 0 pre [])) → PreP mk fl I pre.length ρ w → StepTo P ops S (EsP mk E I pre.length ρ) p.1 (actOf a ρ pre) w p.2.rel

theorem planP_snoc {a : Act} {l : List (Oper × Kind E)} (h : PlanP P ops S I mk fl a l) {p : Oper × Kind E} (h1 : (∃ F, p.2 = .fresh F) → ∃ d, p.1.dst = some d) (h3 : (∃ F, p.2 = .fresh F) → fl l.length = false)
    (h2 : ∀ ρ w, S w → FactsOK (p.1.looksAt ops) ρ w (cond (fl l.length) [] (factsM mk 0 l [])) → PreP mk fl I l.length ρ w → StepTo P ops S (EsP mk E I l.length ρ) p.1 (actOf a ρ l) w p.2.rel) : PlanP P ops S I mk fl a (l ++ [p]) := by
  refine ⟨fun q hq hf => ?_, fun j q hq hf => ?_, fun pre q post he => ?_⟩
  · rcases List.mem_append.1 hq with hq | hq
    · exact h.dst q hq hf
    · rw [List.mem_singleton.1 hq] at hf ⊢
      exact h1 hf
  · rcases Nat.lt_or_ge j l.length with hj | hj
    · rw [List.getElem?_append_left hj] at hq
      exact h.flt j q hq hf
    · rw [List.getElem?_append_right hj] at hq
      have hj' := (List.getElem?_eq_some_iff.1 hq).1
      simp only [List.length_singleton] at hj'
      have e : j = l.length := by omega
      subst e
      simp only [Nat.sub_self, List.getElem?_cons_zero, Option.some.injEq] at hq
      subst hq
      exact h3 hf
  · rcases List.eq_nil_or_concat post with rfl | ⟨post', q', rfl⟩
    · have := List.append_inj' he rfl
      obtain ⟨e1, e2⟩ := this
      injection e2 with e2
      subst e1 e2
      exact h2
    · have e : pre ++ q :: (post' ++ [q']) = (pre ++ q :: post') ++ [q'] := by simp
      rw [List.concat_eq_append, e] at he
      exact h.step pre q post' (List.append_inj' he rfl).1

theorem settleP_plan {Z : (Env → Act) → List (Tmp × Fact E) → Prop} {a : Act} : ∀ (l : List Oper) (pre : List (Oper × Kind E)), PlanP P ops S I mk fl a pre → SettleP P ops S I E mk fl Z pre.length l (fun ρ => actOf a ρ pre) (factsM mk 0 pre []) →
    ∃ full : List (Oper × Kind E), PlanP P ops S I mk fl a full ∧ full.map (·.1) = pre.map (·.1) ++ l ∧ Z (fun ρ => actOf a ρ full) (factsM mk 0 full []) := by
  intro l
  induction l with
  | nil => exact fun pre hp h => ⟨pre, hp, by simp, h⟩
  | cons o rest ih =>
    intro pre hp h
    rcases h with ⟨v, h1, h2⟩ | ⟨d, F, hd, h3, h1, h2⟩
    · obtain ⟨full, q1, q2, q3⟩ := ih (pre ++ [(o, .fixed v)]) (planP_snoc (p := (o, .fixed v)) hp (fun ⟨F, h⟩ => by cases h) (fun ⟨F, h⟩ => by cases h) h1) (by
        have e1 : (fun ρ => actOf a ρ (pre ++ [(o, (Kind.fixed v : Kind E))])) = fun ρ => (actOf a ρ pre).put o.dst v := by
          funext ρ; simp [actOf, Kind.val]
        have e2 : factsM mk 0 (pre ++ [(o, (Kind.fixed v : Kind E))]) [] = cond (mk pre.length) [] (factsM mk 0 pre []) := by rw [factsM_snoc, Nat.zero_add]; rfl
        rw [e1, e2, List.length_append]
        exact h2)
      exact ⟨full, q1, by rw [q2]; simp, q3⟩
    · obtain ⟨full, q1, q2, q3⟩ := ih (pre ++ [(o, .fresh F)]) (planP_snoc (p := (o, .fresh F)) hp (fun _ => ⟨d, hd⟩) (fun _ => h3) h1) (by
        have e1 : (fun ρ => actOf a ρ (pre ++ [(o, (Kind.fresh F : Kind E))])) = fun ρ => (actOf a ρ pre).put (some d) (ρ d) := by
          funext ρ; simp [actOf, Kind.val, hd]
        have e2 : factsM mk 0 (pre ++ [(o, (Kind.fresh F : Kind E))]) [] = (d, F) :: cond (mk pre.length) [] (factsM mk 0 pre []) := by rw [factsM_snoc, Nat.zero_add]; simp [addFact, hd]
        rw [e1, e2, List.length_append]
        exact h2)
      exact ⟨full, q1, by rw [q2]; simp, q3⟩

/-- the temporaries that a phase may speak of: made ahead of all marks -/
def labB (ops : Array Oper) (n : Nat) (ms : List Nat) (L : List Tmp) : Bool :=
  L.all fun t => (List.range n).any fun j => (match ops[j]? with | some o => o.dst == some t | none => false) && ms.all fun m => j != m && reachB ops 6 m j
theorem labB_spec {n : Nat} {ms : List Nat} (hms : ∀ m, mk m = true → m ∈ ms) (h : labB ops n ms L = true) : ∀ t ∈ L, ∃ j o, j < n ∧ ops[j]? = some o ∧ o.dst = some t ∧ ∀ m, mk m = true → j ≠ m ∧ reachB ops 6 m j = true := fun t ht => by
  have := List.all_eq_true.1 h t ht
  obtain ⟨j, hj, hb⟩ := List.any_eq_true.1 this
  rw [Bool.and_eq_true] at hb
  rcases ho : ops[j]? with _ | o
  · rw [ho] at hb; simp at hb
  · rw [ho] at hb
    refine ⟨j, o, List.mem_range.1 hj, ho, by simpa using hb.1, fun m hm => ?_⟩
    have := List.all_eq_true.1 hb.2 m (hms m hm)
    rw [Bool.and_eq_true] at this
    exact ⟨by simpa using this.1, this.2⟩

theorem any_order_ph {a0 : Act} {full : List (Oper × Kind E)} {n : Nat} (hn : n < ops.size) (hops : full.map (·.1) = ops.toList.take n) (hlin : LinearN ops n) (hsk : Region.sinkB .any ops n = true) (hch : Region.chainB .any ops n = true)
    (hsq : ∀ listed : Array Bool, listed.size = ops.size → (∀ i, i < n → listed.getD i false = true) → (∀ i, n ≤ i → listed.getD i false = false) → Region.seqB .any ops (ops.size - n) n listed = true) (hmk : MarkedP ops mk fl n) (hp : PlanP P ops S I mk fl a0 full) (hIE : ∀ c ρ w w', I c ρ w → E w w' → I c ρ w') (hI0 : ∀ ρ ρ' w, I 0 ρ w → I 0 ρ' w) (hIρ : ∀ c ρ ρ' w, (∀ t ∈ L, ρ t = ρ' t) → I c ρ w → I c ρ' w)
    (hL : ∀ t ∈ L, ∃ j o, j < n ∧ ops[j]? = some o ∧ o.dst = some t ∧ ∀ m, mk m = true → j ≠ m ∧ reachB ops 6 m j = true)
    (hZ : ∀ ρ w, S w → I (cntM mk n) ρ w → (∀ t F, (t, F) ∈ factsM mk 0 full [] → F.holds (ρ t) w) → wpList P ops Q (ops.toList.drop n) (actOf a0 ρ full) w) :
    ∀ (fuel : Nat) (listed : Array Bool) (a : Act) (w : World) (ρ : Env), HeadInv .any ops n listed →
      (∃ todo : List Nat, todo.length ≤ fuel ∧ ∀ i, i < n → listed.getD i false = false → i ∈ todo) →
      Holds a0 full (fun i => listed.getD i false = true) ρ a → S w → (∀ c, c ≤ cntM mk n → (∀ m, mk m = true → (listed.getD m false = true ↔ cntM mk m < c)) → I c ρ w) → (∀ (i : Nat) (p : Oper × Kind E) (F : Fact E) (d : Tmp), listed.getD i false = true → (∀ m, mk m = true → i < m → listed.getD m false = false) → full[i]? = some p → p.2 = .fresh F → p.1.dst = some d → F.holds (ρ d) w) →
      wpAny P .any ops Q (fuel + (ops.size - n)) listed a w := by
  have hget : ∀ (i : Nat) (p : Oper × Kind E), full[i]? = some p → ops[i]? = some p.1 := fun i p h => by
    have : (full.map (·.1))[i]? = some p.1 := by simp [h]
    rw [hops, List.getElem?_take] at this
    split at this
    · simpa using this
    · cases this
  have hlen : full.length = n := by
    have := congrArg List.length hops
    simp only [List.length_map, List.length_take, Array.length_toList] at this
    omega
  have hget' : ∀ (i : Nat) (o : Oper), i < n → ops[i]? = some o → ∃ p : Oper × Kind E, full[i]? = some p ∧ p.1 = o := fun i o hin h => by
    have hi : i < full.length := by rw [hlen]; exact hin
    have h1 := hget i _ (List.getElem?_eq_getElem hi)
    rw [h] at h1
    injection h1 with h1
    exact ⟨_, List.getElem?_eq_getElem hi, h1.symm⟩
  have hdist : ∀ (i j : Nat) (p q : Oper × Kind E) (d : Tmp), i < j → full[i]? = some p → full[j]? = some q → p.1.dst = some d → q.1.dst ≠ some d := fun i j p q d hij h1 h2 => hlin.dist i j _ _ d hij (by have := (List.getElem?_eq_some_iff.1 h2).1; omega) (hget i p h1) (hget j q h2)
  have hdist2 : ∀ (i j : Nat) (p q : Oper × Kind E) (d : Tmp), i ≠ j → full[i]? = some p → full[j]? = some q → p.1.dst = some d → q.1.dst ≠ some d := fun i j p q d hij h1 h2 hd hd' => by
    rcases Nat.lt_or_gt_of_ne hij with h | h
    · exact hdist i j p q d h h1 h2 hd hd'
    · exact hdist j i q p d h h2 h1 hd' hd
  -- all have come up
  have fin : ∀ (fuel : Nat) (listed : Array Bool) (a : Act) (w : World) (ρ : Env), HeadInv .any ops n listed → (∀ i, i < n → listed.getD i false = true) → Holds a0 full (fun i => listed.getD i false = true) ρ a → S w → I (cntM mk n) ρ w →
      (∀ (i : Nat) (p : Oper × Kind E) (F : Fact E) (d : Tmp), listed.getD i false = true → (∀ m, mk m = true → i < m → listed.getD m false = false) → full[i]? = some p → p.2 = .fresh F → p.1.dst = some d → F.holds (ρ d) w) → wpAny P .any ops Q (fuel + (ops.size - n)) listed a w := fun fuel listed a w ρ inv hall hH hS hIn hF => by
    have h1 : Holds a0 full (fun i => i < full.length) ρ (actOf a0 ρ full) := by
      have := holds_prefix a0 full ρ hdist full.length (Nat.le_refl _)
      rwa [List.take_length] at this
    have h2 : Holds a0 full (fun i => i < full.length) ρ a :=
      ⟨hH.defers, hH.size, fun t ht => hH.far t fun i p hi hp => ht i p (List.getElem?_eq_some_iff.1 hp).1 hp, fun i p t hi => hH.near i p t (hall i (by omega))⟩
    rw [h2.unique h1]
    have hz := hZ ρ w hS hIn fun t F hm => by
      rcases mem_factsM hm with ⟨h, -⟩ | ⟨i, p, h1, h2, h3, h4⟩
      · cases h
      · exact hF i p F t (hall i (by have := (List.getElem?_eq_some_iff.1 h1).1; omega)) (fun m hm him => absurd (hmk.lt m hm) (fun h => h4 m hm (by omega) (by omega))) h1 h2 h3
    have hdl : (ops.toList.drop n).length = ops.size - n := by simp
    have hs := hsq listed inv.size hall (fun i hi => by
      rcases Nat.lt_or_ge i ops.size with h | h
      · exact getD_both (inv.tail i hi h)
      · simp [Array.getD, inv.size, Nat.not_lt.2 h])
    have := wpAny_seq_more fuel (ops.toList.drop n) n listed (actOf a0 ρ full) w (fun j => by simp [List.getElem?_drop]) (by rw [hdl]; exact hs) hz
    rwa [hdl, Nat.add_comm] at this
  have none_left : ∀ listed : Array Bool, HeadInv .any ops n listed → Region.ready .any ops listed = [] → ∀ m i, i < m → i < n → listed.getD i false = true := by
    intro listed inv hr m
    induction m with
    | zero => intro i h; omega
    | succ m ih =>
      intro i hi hin
      cases hli : listed.getD i false with
      | true => rfl
      | false =>
        have hlt : i < ops.size := by omega
        have ho : ops[i]? = some ops[i] := Array.getElem?_eq_getElem hlt
        have hmem : i ∈ Region.ready .any ops listed := by
          rw [mem_ready]
          refine ⟨?_, _, ho, fun e he hb => ?_⟩
          · simp only [Array.getD, inv.size, hlt, dif_pos] at hli ⊢
            exact hli
          · have := hlin.back i _ hin ho e he hb
            exact ih e.on (by omega) (by omega)
        rw [hr] at hmem
        cases hmem
  have some_left : ∀ listed : Array Bool, (∀ i, i < n → listed.getD i false = true) ∨ ∃ i, i < n ∧ listed.getD i false = false := fun listed => by
    by_cases h : ∃ i, i < n ∧ listed.getD i false = false
    · exact .inr h
    · exact .inl fun i hi => by
        cases hl : listed.getD i false with
        | true => rfl
        | false => exact (h ⟨i, hi, hl⟩).elim
  intro fuel
  induction fuel with
  | zero =>
    intro listed a w ρ inv ⟨todo, htodo, hin⟩ hH hS hS0 hF
    have hall : ∀ i, i < n → listed.getD i false = true := fun i hi => by
      cases hli : listed.getD i false with
      | true => rfl
      | false =>
        have := hin i hi hli
        rw [List.eq_nil_of_length_eq_zero (Nat.le_zero.1 htodo)] at this
        cases this
    exact fin 0 listed a w ρ inv hall hH hS (hS0 _ (Nat.le_refl _) fun m hm => ⟨fun _ => cntM_lt (hmk.lt m hm) hm, fun _ => hall m (hmk.lt m hm)⟩) hF
  | succ fuel ih =>
    intro listed a w ρ inv ⟨todo, htodo, hin⟩ hH hS hS0 hF
    rcases some_left listed with hall | ⟨i0, hi0, hl0⟩
    · exact fin (fuel + 1) listed a w ρ inv hall hH hS (hS0 _ (Nat.le_refl _) fun m hm => ⟨fun _ => cntM_lt (hmk.lt m hm) hm, fun _ => hall m (hmk.lt m hm)⟩) hF
    have hsz := inv.size
    rw [show fuel + 1 + (ops.size - n) = (fuel + (ops.size - n)) + 1 by omega]
    refine ⟨fun hr => ?_, fun i hi => ?_⟩
    · have := none_left listed inv hr (i0 + 1) i0 (by omega) hi0
      rw [hl0] at this
      cases this
    have hilt : i < n := by
      rcases Nat.lt_or_ge i n with h | h
      · exact h
      · exact absurd hi (tail_waits hsk hch hn inv _ i0 rfl hi0 (getD_in (by omega) hl0) i h)
    obtain ⟨h0, o, ho, hall⟩ := mem_ready.1 hi
    have hlt := (Array.getElem?_eq_some_iff.1 ho).1
    have h0' : listed.getD i false = false := by
      simp only [Array.getD, hsz, hlt, dif_pos] at h0 ⊢
      exact h0
    obtain ⟨p, hpi, rfl⟩ := hget' i o hilt ho
    have hil : i < full.length := by omega
    have hpre : Holds a0 full (fun j => j < i) ρ (actOf a0 ρ (full.take i)) := holds_prefix a0 full ρ hdist i (by omega)
    have hsplit : full = full.take i ++ p :: full.drop (i + 1) := by
      have : full[i] = p := by have := List.getElem?_eq_getElem hil; rw [hpi] at this; injection this with this; exact this.symm
      rw [← this, List.getElem_cons_drop, List.take_append_drop]
    have hstep := hp.step _ p _ hsplit ρ w hS
    have conf : ∀ (j : Nat) (q : Oper × Kind E), full[j]? = some q → ∀ t, q.1.dst = some t → t ∈ p.1.looksAt ops → (listed.getD j false = true ↔ j < i) := by
      intro j q hq t hd hl
      have hoj := hget j q hq
      have hjn : j < n := by have := (List.getElem?_eq_some_iff.1 hq).1; omega
      rcases Nat.lt_trichotomy j i with h | h | h
      · refine ⟨fun _ => h, fun _ => ?_⟩
        rcases hlin.wait j i _ _ h hilt hoj ho with hap | ⟨e, he, hb, hon⟩
        · exact absurd hl ((Oper.apart_spec hap).1 t hd)
        · rw [← hon]; exact hall e he hb
      · subst h
        rw [hpi] at hq
        injection hq with hq
        subst hq
        exact absurd hl (hlin.self j _ t hilt ho hd)
      · refine ⟨fun hj => ?_, fun h' => by omega⟩
        exfalso
        rcases hlin.wait i j _ _ h hjn ho hoj with hap | ⟨e, he, hb, hon⟩
        · exact absurd hl ((Oper.apart_spec hap).2.2 t hd)
        · have := inv.closed j _ hoj hj e he hb
          rw [hon, h0'] at this
          cases this
    have hdown' : ∀ j o, listed.getD j false = true → ops[j]? = some o → ∀ e ∈ o.after, Region.binds .any e = true → listed.getD e.on false = true := fun j o hj ho e he hb => inv.closed j o ho hj e he hb
    have later : ∀ m, mk m = true → i < m → fl i = false → listed.getD m false = false := fun m hm him hfl => by
      cases hlm : listed.getD m false with
      | false => rfl
      | true =>
        have := reach_closed hdown' 6 m i (hmk.before m i hm him hfl) hlm
        rw [h0'] at this
        cases this
    have hfacts : FactsOK (p.1.looksAt ops) ρ w (cond (fl i) [] (factsM mk 0 (full.take i) [])) := factsOK_of _ fun t F hm hl => by
      rcases hfl : fl i with _ | _
      case true => rw [hfl] at hm; cases hm
      rw [hfl] at hm
      rcases mem_factsM hm with ⟨h, -⟩ | ⟨j, q, h1, h2, h3, h4⟩
      · cases h
      · have hji : j < i := by
          have := (List.getElem?_eq_some_iff.1 h1).1
          rw [List.length_take] at this
          omega
        have hq : full[j]? = some q := by
          rw [List.getElem?_take, if_pos hji] at h1
          exact h1
        refine hF j q F t ((conf j q hq t h3 (by simpa using hl)).2 hji) (fun m hm hjm => ?_) hq h2 h3
        rcases Nat.lt_trichotomy i m with h | h | h
        · exact later m hm h hfl
        · rw [← h]; exact h0'
        · exact absurd (h4 m hm (by omega) (by rw [List.length_take]; omega)) id
    have hli' : (full.take i).length = i := by rw [List.length_take]; omega
    have earlier : ∀ m, mk m = true → m < i → fl i = false → listed.getD m false = true := fun m hm him hfl => by
      have hr := hmk.after m i hm him hilt hfl
      unfold reachB at hr
      rw [Bool.or_eq_true] at hr
      rcases hr with hr | hr
      · have : i = m := by simpa using hr
        omega
      · rw [ho] at hr
        obtain ⟨k, hk, hb⟩ := Array.any_eq_true.1 hr
        rw [Bool.and_eq_true] at hb
        exact reach_closed hdown' 5 _ _ hb.2 (hall _ (Array.getElem_mem hk) hb.1)
    have hst := hstep (by rw [hli']; exact hfacts) (by
      rw [hli']
      intro hfl
      refine hS0 _ (cntM_mono (by omega)) fun m hm => ?_
      rcases Nat.lt_trichotomy i m with h | h | h
      · rw [later m hm h hfl]
        have := cntM_mono (mk := mk) (show i ≤ m by omega)
        simp; omega
      · rw [← h, h0']
        simp
      · rw [earlier m hm h hfl]
        simp [cntM_lt h hm])
    have hag : ∀ t, t ∈ p.1.looksAt ops → a.tmps[t]? = (actOf a0 ρ (full.take i)).tmps[t]? := fun t ht =>
      hH.agree hpre t fun j q hq hd => conf j q hq t hd ht
    have hexec : execOp a.eval p.1 = execOp (actOf a0 ρ (full.take i)).eval p.1 := execOp_congr p.1 (fun cs b => hlin.sel i _ cs b ho) fun x hx => by
      cases x with
      | tmp t =>
        have := hag t (List.mem_append_left _ (List.mem_filterMap.2 ⟨.tmp t, by simpa using hx, rfl⟩))
        simp only [Act.eval, Array.getD_eq_getD_getElem?]
        rw [this]
      | _ => rfl
    have hwant : Region.wanted p.1 (yielded ops a.tmps) = Region.wanted p.1 (yielded ops (actOf a0 ρ (full.take i)).tmps) := by
      unfold Region.wanted
      cases hg : p.1.guard with
      | none => rfl
      | some gw =>
        obtain ⟨g, want⟩ := gw
        have : yielded ops a.tmps g = yielded ops (actOf a0 ρ (full.take i)).tmps g := by
          unfold yielded
          cases ht : (ops[g]?).bind (·.dst) with
          | none => rfl
          | some t =>
            have := hag t (List.mem_append_right _ (by simp [hg, ht]))
            simp only [Option.bind_some, this]
        simp only [this]
    have size_eq : (actOf a0 ρ (full.take i)).tmps.size = a.tmps.size := hpre.size.trans hH.size.symm
    -- the way on
    have go : ∀ v w', p.2.rel v w' → S w' → (∀ c, c ≤ cntM mk n → (∀ m, mk m = true → ((listed.setIfInBounds i true).getD m false = true ↔ cntM mk m < c)) → I c ρ w') → (∀ (j : Nat) (q : Oper × Kind E) (F : Fact E) (d : Tmp), listed.getD j false = true → (∀ m, mk m = true → j < m → (listed.setIfInBounds i true).getD m false = false) → full[j]? = some q → q.2 = .fresh F → q.1.dst = some d → F.holds (ρ d) w') →
        wpAny P .any ops Q (fuel + (ops.size - n)) (listed.setIfInBounds i true) (a.put p.1.dst v) w' := by
      intro v w' hR hS' hS0' hF'
      have next : ∀ ρ' : Env, p.2.val ρ' p.1 = v → (∀ j q, j ≠ i → full[j]? = some q → q.2.val ρ' q.1 = q.2.val ρ q.1) → (∀ j q F d, j ≠ i → full[j]? = some q → q.2 = .fresh F → q.1.dst = some d → ρ' d = ρ d) → (∀ F d, p.2 = .fresh F → p.1.dst = some d → F.holds (ρ' d) w') → (∀ t, (∀ F, p.2 = .fresh F → p.1.dst ≠ some t) → ρ' t = ρ t) →
          wpAny P .any ops Q (fuel + (ops.size - n)) (listed.setIfInBounds i true) (a.put p.1.dst v) w' := by
        intro ρ' hv hothers hd' hself hρ
        have hset : ∀ j, (listed.setIfInBounds i true).getD j false = true ↔ j = i ∨ listed.getD j false = true := fun j => by
          by_cases hji : j = i
          · subst hji
            simp [Array.getD, hsz, hlt]
          · rw [getD_set_ne false (Ne.symm hji)]
            simp [hji]
        refine ih _ _ _ ρ' (inv.set hi hilt) ⟨todo.filter (· != i), ?_, fun j hj hjl => ?_⟩ ?_ hS' (fun c hc hcm => ?_) (fun j q F d hj hjm hq hf hd => ?_)
        · have : (todo.filter (· != i)).length < todo.length := by
            rw [List.length_filter_lt_length_iff_exists]
            exact ⟨i, hin i hilt h0', by simp⟩
          omega
        · have hne : j ≠ i := fun e => by
            have := (hset j).2 (.inl e)
            rw [this] at hjl
            cases hjl
          refine List.mem_filter.2 ⟨hin j hj ?_, by simpa using hne⟩
          rwa [getD_set_ne false (Ne.symm hne)] at hjl
        · have := hH.put (ρ' := ρ') hpi hset (fun j q hj hq d hd => hdist2 j i q p d (fun e => by rw [e, h0'] at hj; cases hj) hq hpi hd) (fun j q hj hq => hothers j q (fun e => by rw [e, h0'] at hj; cases hj) hq)
          rwa [hv] at this
        · have hold := hS0' c hc hcm
          rcases c with _ | c
          · exact hI0 ρ ρ' w' hold
          · refine hIρ _ ρ ρ' w' (fun t ht => ?_) hold
            obtain ⟨j0, o0, hj0, ho0, hd0, hbm⟩ := hL t ht
            refine (hρ t fun F hF hd => ?_).symm
            have hji : j0 = i := by
              rcases Nat.lt_trichotomy j0 i with h | h | h
              · exact absurd hd (hlin.dist j0 i o0 p.1 t h hilt ho0 ho hd0)
              · exact h
              · exact absurd hd0 (hlin.dist i j0 p.1 o0 t h hj0 ho ho0 hd)
            obtain ⟨m0, -, hm0, hmk0, hc0⟩ := cntM_next (mk := mk) (a := 0) (b := n) (by simp [cntM]; omega)
            have hml := (hcm m0 hmk0).2 (by rw [hc0]; simp [cntM])
            obtain ⟨hne, hre⟩ := hbm m0 hmk0
            have hml' : listed.getD m0 false = true := ((hset m0).1 hml).resolve_left (fun e => hne (by omega))
            have := reach_closed hdown' 6 m0 j0 hre hml'
            rw [hji, h0'] at this
            cases this
        · rcases (hset j).1 hj with rfl | hj
          · rw [hpi] at hq
            injection hq with hq
            subst hq
            exact hself F d hf hd
          · have hne : j ≠ i := fun e => by rw [e, h0'] at hj; cases hj
            rw [hd' j q F d hne hq hf hd]
            exact hF' j q F d hj hjm hq hf hd
      cases hk : p.2 with
      | fixed v0 =>
        have hv : v = v0 := by rw [hk] at hR; exact hR
        exact next ρ (by rw [hk]; exact hv.symm) (fun _ _ _ _ => rfl) (fun _ _ _ _ _ _ _ _ => rfl) (fun F d hf => by rw [hk] at hf; cases hf) (fun _ _ => rfl)
      | fresh F =>
        obtain ⟨d, hd⟩ := hp.dst p (by rw [hsplit]; simp) ⟨F, hk⟩
        have hR' : F.holds v w' := by rw [hk] at hR; exact hR
        have hne : ∀ j q d', j ≠ i → full[j]? = some q → q.1.dst = some d' → d' ≠ d := fun j q d' hji hq hd' e => hdist2 j i q p d' hji hq hpi hd' (by rw [hd, e])
        refine next (fun t => if t = d then v else ρ t) (by rw [hk]; simp [Kind.val, hd]) (fun j q hji hq => ?_) (fun j q F' d' hji hq _ hd' => if_neg (hne j q d' hji hq hd')) (fun F' d' hf hd' => ?_) (fun t ht => if_neg (fun e => ht F hk (by rw [hd, e])))
        · cases hkq : q.2 with
          | fixed v0 => rfl
          | fresh F' =>
            obtain ⟨d', hd'⟩ := hp.dst q (List.mem_of_getElem? hq) ⟨F', hkq⟩
            simp only [Kind.val, hd']
            exact if_neg (hne j q d' hji hq hd')
        · rw [hk] at hf
          injection hf with hf
          rw [hd] at hd'
          injection hd' with hd'
          subst hf hd'
          simpa using hR'
    have hset' : ∀ j, (listed.setIfInBounds i true).getD j false = false → listed.getD j false = false := fun j hj => by
      by_cases hji : j = i
      · rw [hji]; exact h0'
      · rwa [getD_set_ne false (Ne.symm hji)] at hj
    have hlen_i : (full.take i).length = i := by rw [List.length_take]; omega
    have hseti : (listed.setIfInBounds i true).getD i false = true := by simp [Array.getD, hsz, hlt]
    rw [hlen_i] at hst
    unfold wpOp
    simp only [ho]
    unfold StepTo at hst
    rw [← hwant] at hst
    split
    · rename_i hw
      rw [if_pos hw] at hst
      refine .inl (wp_carry (R := fun v w' => p.2.rel v w' ∧ S w' ∧ (EsP mk E I i ρ) w w') hexec size_eq (hst _ fun v w' h1 h2 h3 => ⟨v, rfl, h1, h2, h3⟩) fun v w' ⟨h1, h2, h3⟩ => go v w' h1 h2 (fun c hc hcm => ?_) fun j q F d hj hjm hq hf hd => ?_)
      · rcases hmi : mk i with _ | _
        · unfold EsP at h3
          rw [hmi] at h3
          refine hIE _ _ _ _ (hS0 c hc fun m hm => ?_) h3
          rw [← hcm m hm, getD_set_ne false (fun e => by rw [← e, hmi] at hm; cases hm)]
        · unfold EsP at h3
          rw [hmi] at h3
          have hci := (hcm i hmi).1 hseti
          have hceq : c = cntM mk i + 1 := by
            apply Classical.byContradiction
            intro hne
            have h1i : cntM mk (i + 1) = cntM mk i + 1 := by rw [cntM, hmi]; rfl
            obtain ⟨m', hm1, hm2, hm3, hm4⟩ := cntM_next (mk := mk) (a := i + 1) (b := n) (by omega)
            have hl := (hcm m' hm3).2 (by omega)
            rw [getD_set_ne false (by omega), later m' hm3 (by omega) (hmk.fix i hmi)] at hl
            cases hl
          rw [hceq]
          exact h3
      rcases hmi : mk i with _ | _
      · unfold EsP at h3
        rw [hmi] at h3
        exact F.keep _ _ _ (hF j q F d hj (fun m hm h => hset' m (hjm m hm h)) hq hf hd) h3
      · exfalso
        rcases Nat.lt_trichotomy j i with h | h | h
        · have := hjm i hmi h
          rw [hseti] at this
          cases this
        · rw [h, h0'] at hj; cases hj
        · have := reach_closed hdown' 6 j i (hmk.after i j hmi h (by have := (List.getElem?_eq_some_iff.1 hq).1; omega) (hp.flt j q hq ⟨F, hf⟩)) hj
          rw [h0'] at this
          cases this
    · rename_i hw
      rw [if_neg hw] at hst
      have hni : mk i = false := by
        rcases hmi : mk i with _ | _
        · rfl
        · exact absurd (by simp [Region.wanted, hmk.gd i _ hmi ho]) hw
      exact go undef w hst hS (fun c hc hcm => hS0 c hc fun m hm => by rw [← hcm m hm, getD_set_ne false (fun e => by rw [← e, hni] at hm; cases hm)]) fun j q F d hj hjm hq hf hd => hF j q F d hj (fun m hm h => hset' m (hjm m hm h)) hq hf hd

/-- the same, that nothing looks into -/
structure WalkP (P : Program) (ops : Array Oper) (S : World → Prop) (I : Nat → Env → World → Prop) (E : World → World → Prop) (mk fl : Nat → Bool) (Z : (Env → Act) → List (Tmp × Fact E) → Prop) (k : Nat) (l : List Oper) (A : Env → Act) (Fs : List (Tmp × Fact E)) : Prop where
  out : SettleP P ops S I E mk fl Z k l A Fs

/-- THE RULE, with marks and a tail of n operations ahead of it -/
theorem wp_walk_ph {id : Nat} {a : Act} {w : World} {l : List Oper} (n : Nat) (mk fl : Nat → Bool) (ms : List Nat) (hms : ∀ m, mk m = true → m ∈ ms) (hm : P.follows .mixedOrders = true) (hB : tailB l.toArray n = true) (hmk : markPB l.toArray n mk fl ms = true) (L : List Tmp) (hLB : labB l.toArray n ms L = true) (E : World → World → Prop) (S : World → Prop) (I : Nat → Env → World → Prop) (hS : S w.drew) (hS0 : ∀ ρ, I 0 ρ w.drew) (hIE : ∀ c ρ w w', I c ρ w → E w w' → I c ρ w') (hI0 : ∀ ρ ρ' w, I 0 ρ w → I 0 ρ' w) (hIρ : ∀ c ρ ρ' w, (∀ t ∈ L, ρ t = ρ' t) → I c ρ w → I c ρ' w)
    (h : WalkP P l.toArray S I E mk fl (fun A Fs => ∀ ρ w', S w' → I (cntM mk n) ρ w' → (∀ t F, (t, F) ∈ Fs → F.holds (ρ t) w') → wpList P l.toArray Q (l.drop n) (A ρ) w') 0 (l.take n) (fun _ => a) []) : (Code.region id l.toArray true).wp P Q a w := by
  simp only [tailB, Bool.and_eq_true, decide_eq_true_eq] at hB
  obtain ⟨⟨⟨⟨hn, hlin⟩, hs⟩, hc⟩, hq⟩ := hB
  obtain ⟨full, hp, he, hZ⟩ := settleP_plan (l.take n) [] ⟨(fun _ h => by cases h), (fun j p h => by simp at h), (fun pre p post he => by simp at he)⟩ h.out
  have inv0 : HeadInv .any l.toArray n (Array.replicate l.toArray.size false) :=
    ⟨by simp, fun j oj _ hl => (by rw [getD_replicate_false] at hl; cases hl), fun t _ ht => getD_in (by simpa using ht) (getD_replicate_false _ _)⟩
  have := any_order_ph (P := P) (Q := Q) hn (by simpa using he) (linearN_of hlin) hs hc (fun listed hsz h1 h2 => by
    have hn' := hn
    rw [show listed = (Array.replicate n true) ++ (Array.replicate (l.toArray.size - n) false) from getD_ext (by simp only [Array.size_append, Array.size_replicate]; omega) fun i => by
      rw [Array.getD_eq_getD_getElem? (xs := _ ++ _), Array.getElem?_append]
      rcases Nat.lt_or_ge i n with h | h
      · rw [h1 i h]
        simp [h]
      · rw [h2 i h]
        simp only [Array.size_replicate, Nat.not_lt.2 h, if_false, Array.getElem?_replicate]
        split <;> rfl]
    exact hq) (markedP_of hms hmk) hp hIE hI0 hIρ (labB_spec hms hLB) hZ n _ a w.drew (fun _ => undef) inv0 ⟨List.range n, by simp, fun i hi _ => List.mem_range.2 hi⟩ ⟨rfl, rfl, fun _ _ => rfl, fun i p t hi => ?_⟩ hS (fun c hc hcm => ?_) fun i p F d hi => ?_
  · refine wp_region_any hm ?_
    rwa [show n + (l.toArray.size - n) = l.toArray.size by omega] at this
  · exfalso; rw [getD_replicate_false] at hi; cases hi
  · rcases c with _ | c
    · exact hS0 _
    · obtain ⟨m0, -, hm0, hmk0, hc0⟩ := cntM_next (mk := mk) (a := 0) (b := n) (by simp [cntM]; omega)
      have := (hcm m0 hmk0).2 (by rw [hc0]; simp [cntM])
      rw [getD_replicate_false] at this
      cases this
  · exfalso; rw [getD_replicate_false] at hi; cases hi
variable {Z : (Env → Act) → List (Tmp × Fact E) → Prop} {o : Oper} {rest : List Oper} {A : Env → Act} {Fs : List (Tmp × Fact E)} {k : Nat}
theorem psettle_nil (h : Z A Fs) : WalkP P ops S I E mk fl Z k [] A Fs := ⟨h⟩
theorem psettle_skip (hmk : mk k = false) (hw : ∀ ρ, Region.wanted o (yielded ops (A ρ).tmps) = false) (h : WalkP P ops S I E mk fl Z (k + 1) rest (fun ρ => (A ρ).put o.dst undef) Fs) : WalkP P ops S I E mk fl Z k (o :: rest) A Fs :=
  ⟨.inl ⟨undef, fun ρ w _ _ _ => by unfold StepTo; rw [if_neg (by rw [hw]; simp)], by rw [hmk]; exact h.out⟩⟩
theorem psettle_run {v : Value} (hmk : mk k = false) (hE : ∀ w, S w → E w w) (hw : ∀ ρ, Region.wanted o (yielded ops (A ρ).tmps) = true)
    (hr : ∀ ρ w, S w → FactsOK (o.looksAt ops) ρ w (cond (fl k) [] Fs) → PreP mk fl I k ρ w → (execOp (A ρ).eval o).run P w = .ok (.value v) w) (h : WalkP P ops S I E mk fl Z (k + 1) rest (fun ρ => (A ρ).put o.dst v) Fs) : WalkP P ops S I E mk fl Z k (o :: rest) A Fs :=
  ⟨.inl ⟨v, fun ρ w hS hF hP => by
    unfold StepTo
    rw [if_pos (hw ρ)]
    unfold EsP
    rw [hmk]
    intro K hK
    unfold Oper.wp
    rw [hr ρ w hS hF hP]
    exact hK v w rfl hS (hE w hS), by rw [hmk]; exact h.out⟩⟩
theorem psettle_step {v : Value} (hmk : mk k = false) (hw : ∀ ρ, Region.wanted o (yielded ops (A ρ).tmps) = true)
    (hc : ∀ ρ w, S w → FactsOK (o.looksAt ops) ρ w (cond (fl k) [] Fs) → PreP mk fl I k ρ w → ∀ K : Act → World → Prop, (∀ w', S w' → E w w' → K ((A ρ).put o.dst v) w') → o.wp P (A ρ) w K (fun _ _ _ => False)) (h : WalkP P ops S I E mk fl Z (k + 1) rest (fun ρ => (A ρ).put o.dst v) Fs) : WalkP P ops S I E mk fl Z k (o :: rest) A Fs :=
  ⟨.inl ⟨v, fun ρ w hS hF hP => by
    unfold StepTo
    rw [if_pos (hw ρ)]
    unfold EsP
    rw [hmk]
    exact fun K hK => hc ρ w hS hF hP K fun w' h1 h2 => hK v w' rfl h1 h2, by rw [hmk]; exact h.out⟩⟩
theorem psettle_known {d : Tmp} (F : Fact E) (hmk : mk k = false) (hfl : fl k = false) (hd : o.dst = some d) (hw : ∀ ρ, Region.wanted o (yielded ops (A ρ).tmps) = true)
    (hc : ∀ ρ w, S w → FactsOK (o.looksAt ops) ρ w (cond (fl k) [] Fs) → PreP mk fl I k ρ w → ∀ K : Act → World → Prop, (∀ v w', F.holds v w' → S w' → E w w' → K ((A ρ).put o.dst v) w') → o.wp P (A ρ) w K (fun _ _ _ => False)) (h : WalkP P ops S I E mk fl Z (k + 1) rest (fun ρ => (A ρ).put (some d) (ρ d)) ((d, F) :: Fs)) : WalkP P ops S I E mk fl Z k (o :: rest) A Fs :=
  ⟨.inr ⟨d, F, hd, hfl, fun ρ w hS hF hP => by
    unfold StepTo
    rw [if_pos (hw ρ)]
    unfold EsP
    rw [hmk]
    exact fun K hK => hc ρ w hS hF hP K hK, by rw [hmk]; exact h.out⟩⟩
/-- a mark: what was known is forgotten -/
theorem psettle_mark {d : Tmp} (F : Fact E) (hmk : mk k = true) (hfl : fl k = false) (hd : o.dst = some d) (hw : ∀ ρ, Region.wanted o (yielded ops (A ρ).tmps) = true)
    (hc : ∀ ρ w, S w → FactsOK (o.looksAt ops) ρ w (cond (fl k) [] Fs) → PreP mk fl I k ρ w → ∀ K : Act → World → Prop, (∀ v w', F.holds v w' → S w' → I (cntM mk k + 1) ρ w' → K ((A ρ).put o.dst v) w') → o.wp P (A ρ) w K (fun _ _ _ => False)) (h : WalkP P ops S I E mk fl Z (k + 1) rest (fun ρ => (A ρ).put (some d) (ρ d)) [(d, F)]) : WalkP P ops S I E mk fl Z k (o :: rest) A Fs :=
  ⟨.inr ⟨d, F, hd, hfl, fun ρ w hS hF hP => by
    unfold StepTo
    rw [if_pos (hw ρ)]
    unfold EsP
    rw [hmk]
    exact fun K hK => hc ρ w hS hF hP K fun v w' h1 h2 h3 => hK v w' h1 h2 h3, by rw [hmk]; exact h.out⟩⟩
/-- a mark whose value is known, or that has none -/
theorem psettle_turn {v : Value} (hmk : mk k = true) (hw : ∀ ρ, Region.wanted o (yielded ops (A ρ).tmps) = true)
    (hc : ∀ ρ w, S w → FactsOK (o.looksAt ops) ρ w (cond (fl k) [] Fs) → PreP mk fl I k ρ w → ∀ K : Act → World → Prop, (∀ w', S w' → I (cntM mk k + 1) ρ w' → K ((A ρ).put o.dst v) w') → o.wp P (A ρ) w K (fun _ _ _ => False)) (h : WalkP P ops S I E mk fl Z (k + 1) rest (fun ρ => (A ρ).put o.dst v) []) : WalkP P ops S I E mk fl Z k (o :: rest) A Fs :=
  ⟨.inl ⟨v, fun ρ w hS hF hP => by
    unfold StepTo
    rw [if_pos (hw ρ)]
    unfold EsP
    rw [hmk]
    exact fun K hK => hc ρ w hS hF hP K fun w' h1 h2 => hK v w' rfl h1 h2, by rw [hmk]; exact h.out⟩⟩
end
end Go.Proofs.Ytajddbmmbhdnfaa
