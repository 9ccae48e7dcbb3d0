/-
  What is not written stays, and what is not looked at is no matter: the law, walked.
-/
import Derived.Test.YtajddbmmbhdnfaaSrPaQ

namespace Go.Proofs.Ytajddbmmbhdnfaa
set_option linter.unusedVariables false
set_option linter.unusedSimpArgs false
set_option maxRecDepth 100000
open Go.RowKit

namespace Sr
def touch (c : Nat) (l : List Sp.Acc) : Bool := l.any fun a => a.1 == (c : Int)
theorem touch_snoc (c : Nat) (l : List Sp.Acc) (k : Nat) (a : Sp.Acc) (h : l[k]? = some a) : touch c (l.take (k + 1)) = (touch c (l.take k) || a.1 == (c : Int)) := by
  obtain ⟨h', rfl⟩ := List.getElem?_eq_some_iff.1 h
  unfold touch
  rw [List.take_succ_eq_append_getElem h', List.any_append]
  simp
theorem calm_snoc (c : Nat) (l : List Sp.Acc) (k : Nat) (a : Sp.Acc) (h : l[k]? = some a) (h1 : ∀ x ∈ l.take k, x.2.1 = true → x.1 ≠ (c : Int)) (h2 : a.2.1 = true → a.1 ≠ (c : Int)) : ∀ x ∈ l.take (k + 1), x.2.1 = true → x.1 ≠ (c : Int) := by
  obtain ⟨h', rfl⟩ := List.getElem?_eq_some_iff.1 h
  rw [List.take_succ_eq_append_getElem h']
  intro x hx
  rcases List.mem_append.1 hx with hx | hx
  · exact h1 x hx
  · rw [List.mem_singleton.1 hx]; exact h2
/-- what the law says of two runs -/
theorem kept (p : St.P) (h : List Int) (fuel : Int) (c : Nat) (v : Int) (hE : err p h fuel = 0) (ht : touch c (fin p h fuel).trace = false) : err p (h.set c v) fuel = 0 ∧ (fin p (h.set c v) fuel).heap = (fin p h fuel).heap.set c v ∧ (fin p (h.set c v) fuel).steps = (fin p h fuel).steps := by
  obtain ⟨a1, a2, a3, a4, a5⟩ := (err_range p h fuel).2 hE
  rw [a5] at ht ⊢
  have hf : ∀ x ∈ (go p h).trace, x.1 ≠ (c : Int) := fun x hx e => by
    have : touch c (go p h).trace = true := List.any_eq_true.2 ⟨x, hx, by simpa using e⟩
    rw [ht] at this
    cases this
  obtain ⟨b1, b2⟩ := go_but p h c v hf
  obtain ⟨c1, c2⟩ := (err_zero (h := h.set c v) a1 a2 a3).1 (by rw [b2]; exact a4)
  rw [c2]
  exact ⟨c1, b1, b2⟩
theorem kept_cell (p : St.P) (h : List Int) (fuel : Int) (c : Nat) (hE : err p h fuel = 0) (ht : ∀ x ∈ (fin p h fuel).trace, x.2.1 = true → x.1 ≠ (c : Int)) : (fin p h fuel).heap.getD c 0 = h.getD c 0 := by
  obtain ⟨a1, a2, a3, a4, a5⟩ := (err_range p h fuel).2 hE
  rw [a5] at ht ⊢
  exact go_kept p h c ht
end Sr
theorem set_rng {h : List Int} (hr : ∀ x ∈ h, Ex.rng x) (c : Nat) {v : Int} (hv : Ex.rng v) : ∀ x ∈ h.set c v, Ex.rng x := fun x hx => by
  rcases List.mem_or_eq_of_mem_set hx with hx | rfl
  · exact hr x hx
  · exact hv


set_option maxHeartbeats 1000000 in
theorem serialKept_any (p : St.P) (h : List Int) (fuel cell v : Int) (w : World) (D : Option Addr) (dl dc : Nat) (hp : IsP w (.slice D dl dc) p) (hs : p.size ≤ 274877906944) (hh : h.length = 8) (hr : ∀ x ∈ h, Ex.rng x) (hv : Ex.rng v) :
    Calls Try.prog 8 #[.slice D dl dc, hcells h, .int .i64 fuel, .int .i64 cell, .int .i64 v] w fun e w' => e = .returned (.bool true) ∧ Below w.heap.size w w' := by
  obtain ⟨c, hc⟩ : ∃ c, c = Sr.cell cell := ⟨_, rfl⟩
  have hc8 : c < 8 := by rw [hc]; exact Sr.cell_lt cell
  have hk1 := Sr.kept p h fuel c v
  have hk2 := Sr.kept_cell p h fuel c
  have hE0 := (Sr.err_range p h fuel).1
  obtain ⟨H1, hH1⟩ : ∃ H1, H1 = (Sr.fin p h fuel).heap := ⟨_, rfl⟩
  obtain ⟨N, hN⟩ : ∃ N, N = (Sr.fin p h fuel).steps := ⟨_, rfl⟩
  obtain ⟨T, hT⟩ : ∃ T, T = (Sr.fin p h fuel).trace := ⟨_, rfl⟩
  obtain ⟨E1, hE1⟩ : ∃ E1, E1 = Sr.err p h fuel := ⟨_, rfl⟩
  have hl1 : H1.length = 8 := by rw [hH1]; exact Sr.fin_len _ _ _ hh
  have hrun1 : ∀ w', Below w.heap.size w w' → Calls Try.prog 20 #[.slice D dl dc, .agg (ints .i64 h).toArray, .int .i64 fuel] w' fun e w'' => e = .returned (.tuple #[.agg (ints .i64 H1).toArray, .int .i64 (N : Int), .int .i64 E1]) ∧ Below w'.heap.size w' w'' := fun w' hb =>
    isP_runs (hp.step hb) h fuel hs hh hr hH1.symm (by rw [hN]) hE1.symm
  have htr : ∀ w', Below w.heap.size w w' → Calls Try.prog 22 #[.slice D dl dc, .agg (ints .i64 h).toArray, .int .i64 fuel] w' fun e w'' => ∃ vt, e = .returned (.tuple #[vt, .int .i64 E1]) ∧ SlV w'' 3 vt T.length (Sp.acccs T) ∧ Below w'.heap.size w' w'' := fun w' hb => by
    have := isP_trace (hp.step hb) h fuel hs hh hr
    rw [← hE1, ← hT] at this
    exact this.mono fun e w'' ⟨vt, h1, h2, h3⟩ => ⟨vt, h1, SlV.of_own h2, h3⟩
  obtain ⟨H2, hH2⟩ : ∃ H2, H2 = (Sr.fin p (h.set c v) fuel).heap := ⟨_, rfl⟩
  obtain ⟨M, hM⟩ : ∃ M, M = (Sr.fin p (h.set c v) fuel).steps := ⟨_, rfl⟩
  obtain ⟨E2, hE2⟩ : ∃ E2, E2 = Sr.err p (h.set c v) fuel := ⟨_, rfl⟩
  have hh2 : (h.set c v).length = 8 := by simpa using hh
  have hl2 : H2.length = 8 := by rw [hH2]; exact Sr.fin_len _ _ _ hh2
  have hrun2 : ∀ w', Below w.heap.size w w' → Calls Try.prog 20 #[.slice D dl dc, .agg (ints .i64 (h.set c v)).toArray, .int .i64 fuel] w' fun e w'' => e = .returned (.tuple #[.agg (ints .i64 H2).toArray, .int .i64 (M : Int), .int .i64 E2]) ∧ Below w'.heap.size w' w'' := fun w' hb =>
    isP_runs (hp.step hb) (h.set c v) fuel hs hh2 (set_rng hr c hv) hH2.symm (by rw [hM]) hE2.symm
  rw [← hE1, ← hT, ← hE2, ← hH2, ← hH1, ← hM, ← hN] at hk1
  rw [← hE1, ← hT, ← hH1] at hk2
  have hTl : T.length ≤ 4000 := by
    by_cases h0 : Sr.err p h fuel = 0
    · obtain ⟨a1, a2, a3, a4, a5⟩ := (Sr.err_range p h fuel).2 h0
      obtain ⟨-, -, t, b1, b2, -⟩ := Sr.run_on p [] 0 (Sr.M0 h)
      rw [hT, a5]
      unfold Sr.go at a4 ⊢
      rw [b1]
      have h5 : (Sr.M0 h).steps = 0 := rfl
      have h6 : (Sr.M0 h).trace = [] := rfl
      simp only [h5, h6, List.nil_append, Nat.zero_add, List.length_nil] at a4 b2 ⊢
      omega
    · rw [hT, hE0 h0]; exact Nat.zero_le _
  have HL := Lib.hid (And.intro hk1 (And.intro hk2 hc))
  clear hk1 hk2 hH1 hN hT hE1 hH2 hM hE2 hc hE0 hp
  have x0 := Blk.new w 50 (ints .i64 h)
  have hb0 : Below w.heap.size w (w.alloc (.cells (ints .i64 h).toArray 50)) := below_alloc (Below.refl _ _) _
  have h8 : (Try.prog.info? 50).map (·.size) = some (ints .i64 h).length := by rw [ints_length, hh]; kernel_rfl
  have h81 : (Try.prog.info? 50).map (·.size) = some (ints .i64 H1).length := by rw [ints_length, hl1]; kernel_rfl
  have h82 : (Try.prog.info? 50).map (·.size) = some (ints .i64 H2).length := by rw [ints_length, hl2]; kernel_rfl
  have h83 : (Try.prog.info? 50).map (·.size) = some (ints .i64 (h.set c v)).length := by rw [ints_length, hh2]; kernel_rfl
  have h84 : (Try.prog.info? 50).map (·.size) = some (ints .i64 (H1.set c v)).length := by rw [ints_length, List.length_set, hl1]; kernel_rfl
  unfold hcells
  go_enter Try.func8, Try.ntmps8
  go_wp2_with fail
  obtain ⟨q, hq⟩ : ∃ q, q = w.heap.size := ⟨_, rfl⟩
  generalize (w.alloc (.cells (ints .i64 h).toArray 50)) = W0 at x0 hb0 ⊢
  rw [← hq] at x0 ⊢
  refine (alive13_any _).mono ?_
  rintro e w1 ⟨rfl, hb1⟩
  have hH := x0.below hb1
  have hbw := below_next hb1 hb0
  have HQ := Lib.hid hq
  clear x0 hb0 hb1 hq
  go_wp2_with fail
  refine (cell_any cell _).mono ?_
  rintro e w1' ⟨rfl, rfl⟩
  rw [← HL.out.2.2]
  go_wp2_with (first | (refine wpl_get_blk (ty := 50) hH (by kernel_rfl) h8 rfl rfl rfl ?_) | fail)
  refine (hrun1 w1 hbw).mono ?_
  rintro e w2x ⟨rfl, hbw2⟩
  have hBw2 := Blk.new w2x 50 (ints .i64 [0, 0, 0, 0, 0, 0, 0, 0])
  have hzw2 := hbw2.size
  have hpw2 := Lib.hid (fun w2 => put_heap (w2 := w2) hbw2)
  clear hbw2
  have hqlt : q < w2x.heap.size := Nat.lt_of_lt_of_le hH.lt hzw2
  clear hrun1 hzw2
  go_wp2_with (first | (refine wpl_put_blk hBw2 (ints .i64 H1) (by kernel_rfl) (by rw [ints_length, hl1]; rfl) (ints_one1 .i64 H1) rfl rfl rfl rfl ?_; intro w2 hXw2 hgw2; have hbw2 := hpw2.out w2 hgw2; clear hpw2 hgw2 hBw2; replace hH := hH.below hbw2) | (refine wpl_get_blk (ty := 50) hH (by kernel_rfl) h8 rfl rfl rfl ?_) | fail)
  have hbx := below_next hbw2 hbw
  refine (htr w2 hbx).mono ?_
  rintro e w3 ⟨vt, rfl, hsl, hb3⟩
  have hby := below_next hb3 hbx
  have hH3 := hH.below hb3
  have hX3 := hXw2.below hb3
  clear htr hH hXw2 hb3
  by_cases e1 : E1 = 0
  · subst e1
    obtain ⟨VT, ct, rfl, hct1, hct2, -, -⟩ := id hsl
    unfold maxLen at hct2
    have HS := Lib.hid (And.intro hsl (And.intro hH3 hX3))
    clear hsl hH3 hX3
    go_wp2_with fail
    go_loopw [17, 46] (fun tb i wr => ∃ k : Nat, k ≤ T.length ∧ i = .int .i64 (k : Int) ∧ tb = .bool (Sr.touch c (T.take k)) ∧ (∀ x ∈ T.take k, x.2.1 = true → x.1 ≠ (c : Int)) ∧ Below w3.heap.size w3 wr) (fun _ i _ => T.length - (intOf i).toNat)
    case atStart => exact ⟨0, Nat.zero_le _, rfl, by simp [Sr.touch], by simp, Below.refl _ _⟩
    case round =>
      obtain ⟨k, hk, rfl, rfl, hcalm, hb⟩ := hrel
      by_cases hlt : k < T.length
      · obtain ⟨x, hx⟩ : ∃ x, T[k]? = some x := ⟨_, List.getElem?_eq_getElem hlt⟩
        have hsn := Sr.touch_snoc c T k x hx
        have hcn := Sr.calm_snoc c T k x hx hcalm
        obtain ⟨a1, a2, a3⟩ := x
        have gx := flat_get Sp.accc 3 (fun _ => rfl) T k
        obtain ⟨A', c', he, -, -, -, hcc⟩ := HS.out.1.below hb
        injection he with e1 e2 e3
        subst e1 e3
        have g1 := gx 0 _ hx (by omega)
        have g2 := gx 1 _ hx (by omega)
        have g3 := gx 2 _ hx (by omega)
        obtain ⟨b, o, rfl, hbl, hcell⟩ := hcc.at_ (fun e => by rw [show List.flatMap Sp.accc T = Sp.acccs T from rfl, e] at g1; simp [Sp.accc] at g1)
        have d0 : wr.cell? ⟨b, o + k * 3, none⟩ = some (.int .i64 a1) := (hcell _ _ g1).trans rfl
        have d1 : wr.cell? ⟨b, o + k * 3 + 1, none⟩ = some (.bool a2) := by rw [Nat.add_assoc]; exact hcell _ _ g2
        have d2 : wr.cell? ⟨b, o + k * 3 + 2, none⟩ = some (.int .i64 a3) := by rw [Nat.add_assoc]; exact hcell _ _ g3
        have hbA : Below w3.heap.size w3 (wr.alloc (.cells #[.int .i64 a1, .bool a2, .int .i64 a3] 23)) := below_alloc hb _
        obtain ⟨TB, hTB⟩ : ∃ TB, TB = Sr.touch c (T.take k) := ⟨_, rfl⟩
        rw [← hTB] at hsn ⊢
        have HX := Lib.hid (And.intro hsn (And.intro hcn hbA))
        clear hsn hcn hbA hTB hx gx g1 g2 g3 hcc hcell hcalm
        by_cases hac : a1 = (c : Int)
        · subst hac
          cases a2 with
          | true =>
            cases TB with
            | true => 
              go_wp2_with fail
              go_ret
              exact ⟨rfl, below_next HX.out.2.2 hby⟩
            | false =>
              go_wp2_with fail
              go_ret
              exact ⟨rfl, below_next HX.out.2.2 hby⟩
          | false =>
            cases TB with
            | true => 
              go_wp2_with fail
              go_roundw
              case rel => exact ⟨k + 1, by omega, by go_num, by rw [HX.out.1]; rfl, HX.out.2.1 (by simp), HX.out.2.2⟩
              case measure => simp [intOf]; omega
            | false =>
              go_wp2_with fail
              go_roundw
              case rel => exact ⟨k + 1, by omega, by go_num, by rw [HX.out.1]; simp, HX.out.2.1 (by simp), HX.out.2.2⟩
              case measure => simp [intOf]; omega
        · have g1 : (a1 == (c : Int)) = false := by simpa using hac
          have HAC := Lib.hid hac
          clear hac
          cases TB with
          | true => 
            go_wp2_with fail
            go_roundw
            case rel => exact ⟨k + 1, by omega, by go_num, by rw [HX.out.1]; rfl, HX.out.2.1 (fun _ => HAC.out), HX.out.2.2⟩
            case measure => simp [intOf]; omega
          | false =>
            go_wp2_with fail
            go_roundw
            case rel => exact ⟨k + 1, by omega, by go_num, by rw [HX.out.1]; simp [g1], HX.out.2.1 (fun _ => HAC.out), HX.out.2.2⟩
            case measure => simp [intOf]; omega
      · obtain rfl : k = T.length := by omega
        rw [List.take_length] at hcalm ⊢
        have hkc := HL.out.2.1 trivial hcalm
        obtain ⟨Z, hZ⟩ : ∃ Z, Z = h.getD c 0 := ⟨_, rfl⟩
        have hH4 := HS.out.2.1.below hb
        have hX4 := HS.out.2.2.below hb
        obtain ⟨TB, hTB⟩ : ∃ TB, TB = Sr.touch c T := ⟨_, rfl⟩
        have e3 : (ints .i64 h)[c]? = some (.int .i64 Z) := by
          rw [hZ]
          exact ints_get _ _ _ (by omega)
        have e4 : (ints .i64 H1)[c]? = some (.int .i64 Z) := by
          rw [hZ, ← hkc]
          exact ints_get _ _ _ (by omega)
        have c3 : wr.cell? ⟨q, c, none⟩ = some (.int .i64 Z) := (hH4.cell c).trans e3
        have c4 : wr.cell? ⟨w2x.heap.size, c, none⟩ = some (.int .i64 Z) := (hX4.cell c).trans e4
        have HC := Lib.hid (And.intro hcalm hTB)
        rw [← hTB]
        clear hcalm hTB hkc
        clear e3 e4
        go_wp2_with fail
        go_quiet (fail)
        have hbN : Below w3.heap.size w3 (wr.drewN nq) := below_drewN hb nq
        have hH5 := hH4.drewN nq
        have hX5 := hX4.drewN nq
        obtain ⟨wn, hwn⟩ : ∃ wn, wn = wr.drewN nq := ⟨_, rfl⟩
        rw [← hwn] at hbN hH5 hX5 ⊢
        have hbwn := below_next hbN hby
        have hq' : w.heap.size ≤ q := by rw [HQ.out]; exact Nat.le_refl _
        have h8c : (ints .i64 h).length = 8 := by rw [ints_length, hh]
        have h8d : (ints .i64 H1).length = 8 := by rw [ints_length, hl1]
        clear hb hH4 hX4 c3 c4 hwn hbN
        cases TB with
        | true =>
          go_wp2_with (first | (refine wpl_set_blk hH5 c (.int .i64 v) (by kernel_rfl) (by rw [h8c]; exact hc8) rfl rfl rfl rfl rfl rfl ?_; intro w5 hB5 hg5; rw [← ints_set] at hB5; have hX6 := hX5.grown hg5 (by intro e; injection e with e; omega); have hb5 := hbwn.trans (below_of_grown hg5 hbwn.size hq'); clear hX5 hH5 hg5 hbwn) | (refine wpl_get_blk (ty := 50) hB5 (by kernel_rfl) h83 rfl rfl rfl ?_) | fail)
          have hr2 := hrun2 w5 hb5
          refine (hr2).mono ?_
          rintro e w6x ⟨rfl, hbw6⟩
          have hBw6 := Blk.new w6x 50 (ints .i64 [0, 0, 0, 0, 0, 0, 0, 0])
          have hzw6 := hbw6.size
          have hpw6 := Lib.hid (fun w6 => put_heap (w2 := w6) hbw6)
          clear hbw6
          have hlt6 := hX6.lt
          clear hr2 hrun2 hB5
          go_wp2_with (first | (refine wpl_put_blk hBw6 (ints .i64 H2) (by kernel_rfl) (by rw [ints_length, hl2]; rfl) (ints_one1 .i64 H2) rfl rfl rfl rfl ?_; intro w6 hXw6 hgw6; have hbw6 := hpw6.out w6 hgw6; clear hpw6 hgw6 hBw6; have hX7 := hX6.below hbw6; have hb6 := below_next hbw6 hb5; clear hX6 hbw6) | (refine wpl_set_blk hX7 c (.int .i64 v) (by kernel_rfl) (by rw [h8d]; exact hc8) rfl rfl rfl rfl rfl rfl ?_; intro w7 hB7 hg7; rw [← ints_set] at hB7; have hX8 := hXw6.grown hg7 (by intro e; injection e with e; omega); have hbE := hb6.trans (below_of_grown hg7 hb6.size (by omega)); clear hX7 hXw6 hg7 hb6) | (refine wpl_get_blk (ty := 50) hB7 (by kernel_rfl) h84 rfl rfl rfl ?_) | (refine wpl_get_blk (ty := 50) hX8 (by kernel_rfl) h82 rfl rfl rfl ?_) | fail)
          clear hX8 hB7
          go_ret
          exact ⟨rfl, hbE⟩
        | false =>
          obtain ⟨hE, hH2, hM⟩ := HL.out.1 trivial HC.out.2.symm
          subst hE hH2 hM
          have hze := heap_eq (H1.set c v) (H1.set c v) hl2 hl2 true (by simp)
          go_wp2_with (first | (refine wpl_set_blk hH5 c (.int .i64 v) (by kernel_rfl) (by rw [h8c]; exact hc8) rfl rfl rfl rfl rfl rfl ?_; intro w5 hB5 hg5; rw [← ints_set] at hB5; have hX6 := hX5.grown hg5 (by intro e; injection e with e; omega); have hb5 := hbwn.trans (below_of_grown hg5 hbwn.size hq'); clear hX5 hH5 hg5 hbwn) | (refine wpl_get_blk (ty := 50) hB5 (by kernel_rfl) h83 rfl rfl rfl ?_) | fail)
          have hr2 := hrun2 w5 hb5
          refine (hr2).mono ?_
          rintro e w6x ⟨rfl, hbw6⟩
          have hBw6 := Blk.new w6x 50 (ints .i64 [0, 0, 0, 0, 0, 0, 0, 0])
          have hzw6 := hbw6.size
          have hpw6 := Lib.hid (fun w6 => put_heap (w2 := w6) hbw6)
          clear hbw6
          have hlt6 := hX6.lt
          clear hr2 hrun2 hB5
          go_wp2_with (first | (refine wpl_put_blk hBw6 (ints .i64 (H1.set c v)) (by kernel_rfl) (by rw [ints_length, hl2]; rfl) (ints_one1 .i64 (H1.set c v)) rfl rfl rfl rfl ?_; intro w6 hXw6 hgw6; have hbw6 := hpw6.out w6 hgw6; clear hpw6 hgw6 hBw6; have hX7 := hX6.below hbw6; have hb6 := below_next hbw6 hb5; clear hX6 hbw6) | (refine wpl_set_blk hX7 c (.int .i64 v) (by kernel_rfl) (by rw [h8d]; exact hc8) rfl rfl rfl rfl rfl rfl ?_; intro w7 hB7 hg7; rw [← ints_set] at hB7; have hX8 := hXw6.grown hg7 (by intro e; injection e with e; omega); have hbE := hb6.trans (below_of_grown hg7 hb6.size (by omega)); clear hX7 hXw6 hg7 hb6) | (refine wpl_get_blk (ty := 50) hB7 (by kernel_rfl) h84 rfl rfl rfl ?_) | (refine wpl_get_blk (ty := 50) hX8 (by kernel_rfl) h82 rfl rfl rfl ?_) | fail)
          clear hX8 hB7
          go_ret
          exact ⟨rfl, hbE⟩
  · have g1 : (E1 != 0) = true := by simpa using e1
    obtain ⟨VT, ct, rfl, -⟩ := hsl
    clear hH3 hX3 e1
    go_wp2_with fail
    go_ret
    exact ⟨rfl, hby⟩
end Go.Proofs.Ytajddbmmbhdnfaa
