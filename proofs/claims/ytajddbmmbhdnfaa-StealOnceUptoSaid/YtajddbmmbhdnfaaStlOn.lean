/-
  Each leaf is done once, and behind those ahead of it: the law, walked.
-/
import Derived.Test.YtajddbmmbhdnfaaStlAo
import Derived.Test.YtajddbmmbhdnfaaMapI
namespace Go.Proofs.Ytajddbmmbhdnfaa
set_option linter.unusedVariables false
set_option linter.unusedSimpArgs false
set_option maxRecDepth 100000
open Go.RowKit

namespace Stl
open Sp
/-- where a leaf stands among the first k that were done, from 1; 0: nowhere -/
def posL (L : List (Nat × Int)) : Nat → Int → Int
  | 0, _ => 0
  | k + 1, j => if L[k]?.map (·.2) = some j then ((k + 1 : Nat) : Int) else posL L k j
theorem posL_bound (L : List (Nat × Int)) (k : Nat) (j : Int) : 0 ≤ posL L k j ∧ posL L k j ≤ k := by
  induction k with
  | zero => exact ⟨Int.le_refl _, Int.le_refl _⟩
  | succ k ih =>
    unfold posL
    split
    · omega
    · omega
theorem posL_some (L : List (Nat × Int)) (k : Nat) (j : Int) (h : posL L k j ≠ 0) : ∃ q y, q < k ∧ L[q]? = some y ∧ y.2 = j ∧ posL L k j = ((q + 1 : Nat) : Int) := by
  induction k with
  | zero => exact absurd rfl h
  | succ k ih =>
    unfold posL at h ⊢
    split
    · rename_i e
      obtain ⟨y, hy, he⟩ := Option.map_eq_some_iff.1 e
      exact ⟨k, y, by omega, hy, he, rfl⟩
    · rename_i e
      rw [if_neg e] at h
      obtain ⟨q, y, h1, h2, h3, h4⟩ := ih h
      exact ⟨q, y, by omega, h2, h3, h4⟩
theorem snd_inj {L : List (Nat × Int)} (hn : (L.map (·.2)).Nodup) {p q : Nat} {x y : Nat × Int} (hp : L[p]? = some x) (hq : L[q]? = some y) (e : x.2 = y.2) : p = q := by
  have h1 : (L.map (·.2))[p]? = some x.2 := by rw [List.getElem?_map, hp]; rfl
  have h2 : (L.map (·.2))[q]? = some y.2 := by rw [List.getElem?_map, hq]; rfl
  exact (List.getElem?_inj (by rw [List.length_map]; exact (List.getElem?_eq_some_iff.1 hp).1) hn).1 (by rw [h1, h2, e])
theorem posL_at {L : List (Nat × Int)} (hn : (L.map (·.2)).Nodup) {q : Nat} {y : Nat × Int} (hq : L[q]? = some y) : ∀ k, q < k → posL L k y.2 = ((q + 1 : Nat) : Int)
  | k + 1, h => by
    unfold posL
    split
    · rename_i e
      obtain ⟨z, hz, he⟩ := Option.map_eq_some_iff.1 e
      rw [snd_inj hn hz hq he]
    · rename_i e
      refine posL_at hn hq k ?_
      rcases Nat.lt_or_ge q k with h' | h'
      · exact h'
      · exact absurd (by rw [show k = q by omega, hq]; rfl) e
theorem posL_none {L : List (Nat × Int)} (hn : (L.map (·.2)).Nodup) {k : Nat} {x : Nat × Int} (hx : L[k]? = some x) : posL L k x.2 = 0 := by
  apply Classical.byContradiction
  intro h
  obtain ⟨q, y, h1, h2, h3, -⟩ := posL_some L k x.2 h
  have := snd_inj hn h2 hx h3
  omega
theorem posL_order {t : T} {W : Nat} {s : S} {L : List (Nat × Int)} (h : Once t W s L) (hs : ∀ j, ¬ LD t s 0 j) {i j : Nat} (hb : t.bf i j) (hj : posL L L.length j ≠ 0) : posL L L.length i ≠ 0 ∧ posL L L.length i ≤ posL L L.length j := by
  obtain ⟨p, x, h1, h2, h3, h4⟩ := posL_some _ _ _ hj
  rcases h.ahead p x h2 i (by rw [h3]; simpa using hb) with h5 | ⟨q, y, h5, h6, h7⟩
  · exact absurd h5 (hs i)
  · have := posL_at h.nodup h6 L.length (by omega)
    rw [h7] at this
    omega
theorem posL_step {L : List (Nat × Int)} {k : Nat} {x : Nat × Int} (hx : L[k]? = some x) : posL L (k + 1) = fun j => if j = x.2 then ((k + 1 : Nat) : Int) else posL L k j := by
  funext j
  show (if L[k]?.map (·.2) = some j then ((k + 1 : Nat) : Int) else posL L k j) = _
  rw [hx]
  by_cases e : j = x.2
  · subst e
    simp
  · rw [if_neg e, if_neg (fun h => e (by injection h with h; exact h.symm))]
end Stl

theorem wf_i64' {a : Int} (h : -9223372036854775808 ≤ a ∧ a ≤ 9223372036854775807) : (Lit.int .i64 a).wf = true := WalkArith.wf_i64 (by omega)

set_option maxHeartbeats 4000000 in
theorem stealOnce_out (t : Sp.T) (w : World) (cs : List Value) (W : Int) (v : Value) (hT : TmR w.heap.size w cs t) (hW : W < 1 ∨ 16 < W) :
    Calls Try.prog 6 #[.agg cs.toArray, .int .i64 W, v] w fun e w' => e = .returned (.bool true) ∧ Below w.heap.size w w' := by
  obtain ⟨a0, a1, a2, a3, A4, a5, a6, rfl, -, -⟩ := hT.form
  have x0 := Blk.new w 26 [.int .i64 a0, .int .i64 a1, .bool a2, .int .i64 a3, .slice A4 a5 a6]
  unfold tcells at hT ⊢
  have hb0 : Below w.heap.size w (w.alloc (.cells [Value.int .i64 a0, .int .i64 a1, .bool a2, .int .i64 a3, .slice A4 a5 a6].toArray 26)) := below_alloc (Below.refl _ _) _
  go_enter Try.func6, Try.ntmps6
  go_wp2_with fail
  obtain ⟨q, hq⟩ : ∃ q, q = w.heap.size := ⟨_, rfl⟩
  have hT0 := tm_up (hT.later hb0) hb0.size
  generalize (w.alloc (.cells [Value.int .i64 a0, .int .i64 a1, .bool a2, .int .i64 a3, .slice A4 a5 a6].toArray 26)) = W0 at x0 hb0 hT0 ⊢
  rw [← hq] at x0 ⊢
  refine (alive22_any _).mono ?_
  rintro e w1 ⟨rfl, hb1⟩
  have hX := Boxed.of (x0.below hb1) (hT0.later hb1) hb1.size
  have hbw := below_next hb1 hb0
  have HQ := Lib.hid (And.intro hq hbw)
  clear x0 hb0 hT0 hb1 hq hbw hT
  obtain ⟨⟨c0, c1, c2, c3, c4⟩, hT1⟩ := hX.look _ (Below.refl _ _)
  have hR := run_out t w1 w1.heap.size _ W v hT1 hW
  clear hX hT1 hW
  go_wp2_with fail
  refine hR.mono ?_
  rintro e w2 ⟨rfl, hb2⟩
  have hbE := below_self HQ.out.2 hb2
  clear hR c0 c1 c2 c3 c4 hb2
  go_wp2
  go_ret
  exact ⟨rfl, hbE⟩

set_option maxHeartbeats 8000000 in
theorem stealOnce_in (t : Sp.T) (ps : List Stl.Pk) (w : World) (cs : List Value) (W : Nat) (v : Value) (hT : TmR w.heap.size w cs t) (hsz : Stl.sz t ≤ 1048576) (hlv : t.size ≤ 1048576) (hW1 : 1 ≤ W) (hW2 : W ≤ 16) (hps : ps.length ≤ 1048576) (hp : SlV w 2 v ps.length (pkcs ps)) :
    Calls Try.prog 6 #[.agg cs.toArray, .int .i64 (W : Int), v] w fun e w' => e = .returned (.bool true) ∧ Below w.heap.size w w' := by
  obtain ⟨a0, a1, a2, a3, A4, a5, a6, rfl, -, -⟩ := hT.form
  have x0 := Blk.new w 26 [.int .i64 a0, .int .i64 a1, .bool a2, .int .i64 a3, .slice A4 a5 a6]
  unfold tcells at hT ⊢
  have hb0 : Below w.heap.size w (w.alloc (.cells [Value.int .i64 a0, .int .i64 a1, .bool a2, .int .i64 a3, .slice A4 a5 a6].toArray 26)) := below_alloc (Below.refl _ _) _
  have hmm := @run_makeMap Try.prog
  go_enter Try.func6, Try.ntmps6
  go_wp2_with fail
  obtain ⟨q, hq⟩ : ∃ q, q = w.heap.size := ⟨_, rfl⟩
  have hT0 := tm_up (hT.later hb0) hb0.size
  have hp0 := hp.below hb0
  generalize (w.alloc (.cells [Value.int .i64 a0, .int .i64 a1, .bool a2, .int .i64 a3, .slice A4 a5 a6].toArray 26)) = W0 at x0 hb0 hT0 hp0 ⊢
  rw [← hq] at x0 ⊢
  refine (alive22_any _).mono ?_
  rintro e w1 ⟨rfl, hb1⟩
  have hX := Boxed.of (x0.below hb1) (hT0.later hb1) hb1.size
  have hp1 := hp0.below hb1
  have hbw := below_next hb1 hb0
  have HQ := Lib.hid (And.intro hq hbw)
  clear x0 hb0 hT0 hb1 hq hbw hT hp hp0
  obtain ⟨⟨c0, c1, c2, c3, c4⟩, hT1⟩ := hX.look _ (Below.refl _ _)
  have hR := run_any t ps w1 w1.heap.size _ W v hT1 (Nat.le_refl _) (by omega) (by omega) (by omega) hW1 hW2 hp1
  have hon := Stl.once_start t W (by omega) ps
  have hll := logS_length t W ps (Stl.start 0 t)
  generalize Stl.logS t W (Stl.start 0 t) ps = L at hR hon hll
  have hno := (Stl.start_no 0 t).1 0
  generalize Stl.start 0 t = s0 at hon hno
  have HX := Lib.hid (And.intro hX (And.intro hon hno))
  clear hT1 hp1 hon hno
  go_wp2_with fail
  refine hR.mono ?_
  rintro e w2 ⟨D, rfl, hD, hb2⟩
  obtain ⟨PD, cD, rfl, hcD, hmD⟩ := own_slice hD
  have hDs := SlV.of_own hD
  clear c0 c1 c2 c3 c4 hR hX hD
  obtain ⟨⟨c0, c1, c2, c3, c4⟩, hT2⟩ := HX.out.1.look _ hb2
  have gL := leaves_any w2 _ t hT2 (by omega)
  unfold maxLen at hmD
  obtain ⟨N, hN⟩ : ∃ N, N = L.length := ⟨_, rfl⟩
  rw [← hN] at hDs hll hcD ⊢
  have HN := Lib.hid hN
  clear hT2 hN
  go_wp2_with fail
  refine gL.mono ?_
  rintro e w3 ⟨v3, rfl, ⟨A3', c3', rfl, hle3, hm3, -, -⟩, hb3⟩
  unfold maxLen at hm3
  have hDs3 := hDs.below hb3
  have hb13 := below_self hb2 hb3
  have hbE := below_self HQ.out.2 hb13
  clear gL c0 c1 c2 c3 c4 hDs hb2 hb3
  obtain ⟨S, hS⟩ : ∃ S, S = t.size := ⟨_, rfl⟩
  rw [← hS] at hlv hle3 ⊢
  have HS := Lib.hid hS
  clear hS
  go_wp2_with fail
  go_loopw [37] (fun i wr => ∃ k : Nat, k ≤ N ∧ i = .int .i64 (k : Int) ∧ MapI wr w3.heap.size k (Stl.posL L k) ∧ Below w3.heap.size w3 wr) (fun i _ => N - (intOf i).toNat)
  case atStart => exact ⟨0, Nat.zero_le _, rfl, MapI.made w3, below_alloc (Below.refl _ _) _⟩
  case round =>
    obtain ⟨k, hk, rfl, hM, hb⟩ := hrel
    by_cases hlt : k < N
    · obtain ⟨x, hx⟩ : ∃ x, L[k]? = some x := ⟨_, List.getElem?_eq_getElem (by rw [← HN.out]; exact hlt)⟩
      have hon := HX.out.2.1
      have hmem := List.mem_of_getElem? hx
      have hwho := hon.who x hmem
      obtain ⟨j, hxj, hjs, -⟩ := hon.leaf x hmem
      have hzero := Stl.posL_none hon.nodup hx
      have hstep := Stl.posL_step hx
      obtain ⟨who, leaf⟩ := x
      dsimp only at hwho hxj hzero hstep
      subst hxj
      rw [← HS.out] at hjs
      obtain ⟨gx1, gx2⟩ := donecs_get _ _ _ hx
      obtain ⟨_, _, e5, -, -, -, hcc⟩ := hDs3.below hb
      injection e5 with e5 _ e6
      subst e5 e6
      obtain ⟨b, o, rfl, hbl, hcell⟩ := hcc.at_ (fun e => by rw [e] at gx1; simp at gx1)
      have c1 := hcell _ _ gx1
      have c2 := hcell _ _ gx2
      rw [← Nat.add_assoc] at c2
      have hb' : Below w3.heap.size w3 (wr.alloc (.cells #[.int .i64 (who : Int), .int .i64 (j : Int)] 38)) := below_alloc hb _
      have hM1 : MapI (wr.alloc (.cells #[.int .i64 (who : Int), .int .i64 (j : Int)] 38)) w3.heap.size k (Stl.posL L k) := hM.next (below_alloc (Below.refl _ _) _)
      have hwf : (Lit.int .i64 (j : Int)).wf = true := wf_i64' (by omega)
      have hlook := hM1.look hwf
      rw [hzero] at hlook
      have g1 : decide ((j : Int) < 0) = false := by simp
      have g2 : decide (S ≤ j) = false := by simp; omega
      have g3 : decide ((who : Int) < 0) = false := by simp
      have g4 : decide (W ≤ who) = false := by simp; omega
      have hn63 : k < maxLen := by unfold maxLen; omega
      have HR := Lib.hid (And.intro hstep hb')
      have hwsz : w3.heap.size ≤ (wr.alloc (.cells #[.int .i64 (who : Int), .int .i64 (j : Int)] 38)).heap.size := hb'.size
      have HZ := Lib.hid hwsz
      clear hcell hcc gx1 gx2 hx hmem hon hzero hstep hM hb hb' hwsz hDs3
      go_wp2_with (first
        | (at_mapUpdate; refine wp_mapset rfl _ rfl _ _ _ rfl w3.heap.size k _ rfl hM1 hn63 _ _ rfl rfl hwf (by first | exact wf_i64' (by omega) | exact wrap64_wf _) ?_; intro w4 hM4 hg4)
        | fail)
      go_roundw
      case rel => exact ⟨k + 1, by omega, by go_num, by rw [HR.out.1]; simpa using hM4, HR.out.2.grown hg4 HZ.out (fun i hi => by cases hi; exact Nat.le_refl _)⟩
      case measure => simp [intOf]; omega
    · obtain rfl : k = N := by omega
      have hb1r := below_self hb13 hb
      have hbF := below_self hbE hb
      clear hDs3 hbE hb13 hb
      go_wp2_with fail
      go_loopw [76] (fun i wr' => ∃ a : Nat, a ≤ S ∧ i = .int .i64 (a : Int) ∧ Below wr.heap.size wr wr') (fun i _ => S - (intOf i).toNat)
      case atStart => exact ⟨0, Nat.zero_le _, rfl, Below.refl _ _⟩
      case round =>
        obtain ⟨i, hi, rfl, hbi⟩ := hrel
        by_cases hli : i < S
        · go_wp2_with fail
          go_loopw [80] (fun i wr' => ∃ a : Nat, a ≤ S ∧ i = .int .i64 (a : Int) ∧ Below wr.heap.size wr wr') (fun i _ => S - (intOf i).toNat)
          case atStart => exact ⟨0, Nat.zero_le _, rfl, Below.refl _ _⟩
          case round =>
            obtain ⟨j, hj, rfl, hbj⟩ := hrel
            by_cases hlj : j < S
            · have hbq := below_self hbi hbj
              have hb1q := below_self hb1r hbq
              obtain ⟨⟨c0, c1, c2, c3, c4⟩, hTq⟩ := HX.out.1.look _ hb1q
              have gB := before_any wr _ t (i : Int) (j : Int) hTq (by rw [← HS.out]; omega)
              have hMq := hM.next hbq
              have hwi : (Lit.int .i64 (i : Int)).wf = true := wf_i64' (by omega)
              have hwj : (Lit.int .i64 (j : Int)).wf = true := wf_i64' (by omega)
              have hord : t.before (i : Int) (j : Int) = true → Stl.posL L k (j : Int) ≠ 0 → Stl.posL L k (i : Int) ≠ 0 ∧ Stl.posL L k (i : Int) ≤ Stl.posL L k (j : Int) := fun h1 h2 => by
                have h3 : t.bf i j := by
                  have := of_decide_eq_true h1
                  simpa using this.2
                rw [HN.out] at h2 ⊢
                exact Stl.posL_order HX.out.2.1 HX.out.2.2 h3 h2
              have HB := Lib.hid hbj
              clear hTq hbq hb1q hbj
              rcases hbf : t.before (i : Int) (j : Int) with _ | _
              · rw [hbf] at gB
                clear hbf hord
                go_wp2_with fail
                refine gB.mono ?_
                rintro e w7 ⟨rfl, hb7⟩
                have hbZ := below_self HB.out hb7
                clear gB hb7
                go_wp2_with fail
                go_roundw
                case rel => exact ⟨j + 1, by omega, by go_num, hbZ⟩
                case measure => simp [intOf]; omega
              · rw [hbf] at gB
                have hord := hord hbf
                clear hbf
                have hlooks : ∀ w7, Below wr.heap.size wr w7 → (Instr.lookup 46 (.map (some w3.heap.size)) (.int .i64 (i : Int)) false).run Try.prog w7 = .ok (.int .i64 (Stl.posL L k (i : Int))) w7 ∧ (Instr.lookup 46 (.map (some w3.heap.size)) (.int .i64 (j : Int)) false).run Try.prog w7 = .ok (.int .i64 (Stl.posL L k (j : Int))) w7 := fun w7 hb7 => ⟨(hMq.next hb7).look hwi, (hMq.next hb7).look hwj⟩
                generalize Stl.posL L k (i : Int) = PI at hord hlooks
                generalize Stl.posL L k (j : Int) = PJ at hord hlooks
                have HLk := Lib.hid hlooks
                clear hMq hlooks
                by_cases hz : PJ = 0
                · subst hz
                  clear hord
                  go_wp2_with fail
                  refine gB.mono ?_
                  rintro e w7 ⟨rfl, hb7⟩
                  have hbZ := below_self HB.out hb7
                  obtain ⟨l1, l2⟩ := HLk.out w7 hb7
                  clear gB hb7
                  go_wp2_with fail
                  go_roundw
                  case rel => exact ⟨j + 1, by omega, by go_num, hbZ⟩
                  case measure => simp [intOf]; omega
                · obtain ⟨hz1, hz2⟩ := hord hz
                  have g1 : (PJ != 0) = true := by simpa using hz
                  have g2 : (PI == 0) = false := by simpa using hz1
                  have g3 : decide (PJ < PI) = false := by simp; omega
                  clear hord hz hz1 hz2
                  go_wp2_with fail
                  refine gB.mono ?_
                  rintro e w7 ⟨rfl, hb7⟩
                  have hbZ := below_self HB.out hb7
                  obtain ⟨l1, l2⟩ := HLk.out w7 hb7
                  clear gB hb7
                  go_wp2_with fail
                  go_roundw
                  case rel => exact ⟨j + 1, by omega, by go_num, hbZ⟩
                  case measure => simp [intOf]; omega
            · obtain rfl : j = S := by omega
              have hbq := below_self hbi hbj
              clear hbj hbi
              go_wp2_with fail
              go_roundw
              case rel => exact ⟨i + 1, by omega, by go_num, hbq⟩
              case measure => simp [intOf]; omega
        · have hbG := below_self hbF hbi
          clear hbi hbF
          go_wp2
          go_ret
          exact ⟨rfl, hbG⟩
end Go.Proofs.Ytajddbmmbhdnfaa
