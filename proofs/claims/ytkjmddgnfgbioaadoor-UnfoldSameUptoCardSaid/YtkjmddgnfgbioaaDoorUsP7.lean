/-
  Unfold, walked, on a contract of block.
-/
import Derived.Test.YtkjmddgnfgbioaaDoorUsP6

namespace Go.Proofs.YtkjmddgnfgbioaaDoor
set_option linter.unusedVariables false
set_option linter.unusedSimpArgs false
set_option maxRecDepth 100000
open Go.RowKit

def UnfEnd (w : World) (p : St.P) (h : List Int) (fuel : Int) : Ending → World → Prop := fun e w' =>
  ∃ cs : List Value, e = .returned (.tuple #[.agg cs.toArray, .agg (ints .i64 (Sr.fin p h fuel).heap).toArray, .int .i64 (Sr.err p h fuel)]) ∧ KN w.heap.size w' cs (Ks.of (Un.term p h fuel)) ∧ Below w.heap.size w w'

theorem KN.zero (lo : Nat) (w : World) : KN lo w zterm (Ks.of .nil) := by
  have := KsR.cons (B := w.heap.size) (w := only w fun g => lo ≤ g) 0 0 false 0 none 0 [] [] .nil .nil (Nat.le_refl _) (Nat.zero_le _) (Cells.nil _ _ _) .nil .nil
  rw [List.append_nil] at this
  exact this
theorem Un.term_of {p : St.P} {h : List Int} {fuel : Int} : (Sr.err p h fuel ≠ 0 → Un.term p h fuel = .nil) ∧ (Sr.err p h fuel = 0 → Un.term p h fuel = (Un.go p h).1) := by
  unfold Un.term
  exact ⟨fun h => if_neg h, fun h => if_pos h⟩

theorem wp_set_blk1 {P : Program} {w : World} {g : Nat} {t : TypeId} {cs : List Value} {o : Oper} {a : Act} {K : Act → World → Prop} {Q : Exit → Act → World → Prop} (h : Blk w g t cs) (i : Nat) (u : Value) {ty : TypeId} (hi : (P.info? ty).map (·.size) = some 1) (hk : i < cs.length) (hu : u.cells = #[u]) (h1 : u.oneCell' = true)
    {x y : Operand} (ho : o.op = .store ty x y) (hx : a.eval x = .pointer (some ⟨g, i, none⟩)) (hy : a.eval y = u) (hK : ∀ w', Blk w' g t (cs.set i u) → w.grownBy w' (some g) → K (a.put o.dst undef) w') : o.wp P a w K Q := by
  obtain ⟨inf, hii, his⟩ := Option.map_eq_some_iff.1 hi
  have := run_storeCells_at P g i t [u] 0 cs.toArray w h (by simp; omega) (by simpa using h1)
  simp only [Nat.add_zero, List.length_singleton] at this
  have hrun : (storeVar ty ⟨g, i, none⟩ u).run P w = .ok () (w.setRow g (cs.take i ++ [u] ++ cs.drop (i + 1)).toArray) := by
    simp [storeVar, sizeOf, typeInfo, hii, his, hu, this]
  have e : cs.take i ++ [u] ++ cs.drop (i + 1) = cs.set i u := by
    rw [List.set_eq_take_append_cons_drop, if_pos hk]
    simp
  rw [e] at hrun
  unfold Oper.wp execOp
  simp only [ho, hx, hy, Instr.storeAt, Instr.sureAddr, Sem.run_bind, Sem.run_pure, Result.andThen_ok, hrun]
  exact hK _ (h.row _) (grown_setRow _ _ _)



set_option maxHeartbeats 4000000 in
theorem unf_any (hall : ∀ p, BlockU p) (p : St.P) (h : List Int) (fuel : Int) (w : World) (B n c : Nat) (A : Option Addr) (hB : B ≤ w.heap.size) (hp : PR B w A n p) (hnc : n ≤ c) (hc : c ≤ maxLen) (hsz : p.size ≤ 274877906944) (hh : h.length = 8) (hr : ∀ x ∈ h, Ex.rng x) :
    Calls Tryd.prog 34 #[.slice A n c, .agg (ints .i64 h).toArray, .int .i64 fuel] w (UnfEnd w p h fuel) := by
  have hmf : ∀ (fn : Fn) (first cap : Array Value) (w : World), (Instr.makeFunc fn first cap).run Tryd.prog w = .ok (.func fn first cap) w := fun _ _ _ _ => rfl
  obtain ⟨b0, b1, b2, b3, b4, b5, b6, b7, rfl⟩ := Sr.heap8 hh
  have hb0 : Below w.heap.size w ((((w.alloc (.cells (ints .i64 [b0, b1, b2, b3, b4, b5, b6, b7]).toArray 50)).alloc (.cells zterm.toArray 59)).alloc (.cells zheap.toArray 50)).alloc (.cells #[.int .i64 0] 51)) := below_alloc (below_alloc (below_alloc (below_alloc (Below.refl _ _) _) _) _) _
  have x0 := (((Blk.new w 50 (ints .i64 [b0, b1, b2, b3, b4, b5, b6, b7])).alloc (.cells zterm.toArray 59)).alloc (.cells zheap.toArray 50)).alloc (.cells #[.int .i64 0] 51)
  have x1 := ((Blk.new (w.alloc (.cells (ints .i64 [b0, b1, b2, b3, b4, b5, b6, b7]).toArray 50)) 59 zterm).alloc (.cells zheap.toArray 50)).alloc (.cells #[.int .i64 0] 51)
  have x2 := (Blk.new ((w.alloc (.cells (ints .i64 [b0, b1, b2, b3, b4, b5, b6, b7]).toArray 50)).alloc (.cells zterm.toArray 59)) 50 zheap).alloc (.cells #[.int .i64 0] 51)
  have x3 := Blk.new (((w.alloc (.cells (ints .i64 [b0, b1, b2, b3, b4, b5, b6, b7]).toArray 50)).alloc (.cells zterm.toArray 59)).alloc (.cells zheap.toArray 50)) 51 [.int .i64 0]
  have hz : ((((w.alloc (.cells (ints .i64 [b0, b1, b2, b3, b4, b5, b6, b7]).toArray 50)).alloc (.cells zterm.toArray 59)).alloc (.cells zheap.toArray 50)).alloc (.cells #[.int .i64 0] 51)).heap.size = w.heap.size + 1 + 1 + 1 + 1 := by simp
  simp only [World.size_alloc] at x1 x2 x3
  have hw := wrong_any p _ B n c A fuel (Nat.le_trans hB hb0.size) (hp.later (hb0.mono hB)) hnc hc (by omega)
  simp only [ints, List.map_cons, List.map_nil] at x0 x1 x2 x3 hz hb0 hw ⊢
  have hp := hp.up hB
  obtain ⟨E0, hE0⟩ : ∃ E0 : Int, E0 = (if Sr.free p ≠ [] then 4 else if fuel < 0 ∨ 2000 < fuel then 2 else 0) := ⟨_, rfl⟩
  rw [← hE0] at hw
  have hE := Lib.hid hE0
  clear hE0
  unfold zterm zheap at *
  go_enter_defers Tryd.func34, Tryd.ntmps34
  go_wp2_with fail
  obtain ⟨Q, hQ⟩ : ∃ Q, Q = w.heap.size := ⟨_, rfl⟩
  generalize ((((w.alloc (.cells #[.int .i64 b0, .int .i64 b1, .int .i64 b2, .int .i64 b3, .int .i64 b4, .int .i64 b5, .int .i64 b6, .int .i64 b7] 50)).alloc (.cells #[.int .i64 0, .int .i64 0, .bool false, .int .i64 0, .slice none 0 0] 59)).alloc (.cells #[.int .i64 0, .int .i64 0, .int .i64 0, .int .i64 0, .int .i64 0, .int .i64 0, .int .i64 0, .int .i64 0] 50)).alloc (.cells #[.int .i64 0] 51)) = W0 at x0 x1 x2 x3 hz hb0 hw ⊢
  rw [← hQ] at x0 x1 x2 x3 hz ⊢
  obtain ⟨q6, h6⟩ : ∃ q6, q6 = Q + 1 := ⟨_, rfl⟩
  obtain ⟨q7, h7⟩ : ∃ q7, q7 = Q + 1 + 1 := ⟨_, rfl⟩
  obtain ⟨q8, h8⟩ : ∃ q8, q8 = Q + 1 + 1 + 1 := ⟨_, rfl⟩
  rw [← h8, ← h7, ← h6]
  rw [← h8] at x3
  rw [← h7] at x2
  rw [← h6] at x1
  have HQ := Lib.hid (And.intro hQ (And.intro h6 (And.intro h7 (And.intro h8 hz))))
  clear hQ h6 h7 h8 hz
  refine hw.mono ?_
  rintro e w1 ⟨rfl, hb1⟩
  have X0 := x0.below hb1
  have X1 := x1.below hb1
  have X2 := x2.below hb1
  have X3 := x3.below hb1
  have hbw := below_next hb1 hb0
  have hs1 := hb1.size
  have HB := Lib.hid (And.intro hbw hs1)
  clear hw x0 x1 x2 x3 hb0 hb1 hbw hs1
  have n67 : q6 ≠ q7 := by have := HQ.out; omega
  have n68 : q6 ≠ q8 := by have := HQ.out; omega
  have n78 : q7 ≠ q8 := by have := HQ.out; omega
  by_cases h0 : E0 = 0
  · obtain ⟨hfr, hout, hin⟩ := (Sr.err_of (h := [b0, b1, b2, b3, b4, b5, b6, b7]) hE.out).2 h0
    subst h0
    obtain ⟨F, rfl⟩ := Int.eq_ofNat_of_zero_le hfr.1
    have d0 := (X0.cell 0).trans rfl
    have d1 := (X0.cell 1).trans rfl
    have d2 := (X0.cell 2).trans rfl
    have d3 := (X0.cell 3).trans rfl
    have d4 := (X0.cell 4).trans rfl
    have d5 := (X0.cell 5).trans rfl
    have d6 := (X0.cell 6).trans rfl
    have d7 := (X0.cell 7).trans rfl
    simp only [List.getElem?_cons_zero, List.getElem?_cons_succ] at d0 d1 d2 d3 d4 d5 d6 d7
    have hzb := Blk.new w1 126 [.int .i64 b0, .int .i64 b1, .int .i64 b2, .int .i64 b3, .int .i64 b4, .int .i64 b5, .int .i64 b6, .int .i64 b7, .int .i64 (F : Int), .int .i64 0]
    obtain ⟨w3, hw3⟩ : ∃ w3, w3 = w1.alloc (.cells #[.int .i64 b0, .int .i64 b1, .int .i64 b2, .int .i64 b3, .int .i64 b4, .int .i64 b5, .int .i64 b6, .int .i64 b7, .int .i64 (F : Int), .int .i64 0] 126) := ⟨_, rfl⟩
    have hb13 : Below w1.heap.size w1 w3 := by rw [hw3]; exact below_alloc (Below.refl _ _) _
    have hbw3 := below_next hb13 HB.out.1
    have hs3 : w3.heap.size = w1.heap.size + 1 := by rw [hw3]; simp
    have hbl : Blk w3 w1.heap.size 126 (Un.bcells F (Sr.M0 [b0, b1, b2, b3, b4, b5, b6, b7])) := by rw [hw3]; exact hzb
    have hp3 : PR w.heap.size w3 A n p := hp.later hbw3
    have hfit : Sr.Fit F (Sr.M0 [b0, b1, b2, b3, b4, b5, b6, b7]) := ⟨rfl, hr, Nat.zero_le _, Nat.le_refl _⟩
    have henv : EnvAt w3 (fun i => i = w1.heap.size) (.slice none 0 0) [] := ⟨SlV.nil _ _, (by intro i hi; cases hi), (by intro i hi; cases hi), (by intro z hz; cases hz)⟩
    have hblk := hall p w3 w.heap.size n c w1.heap.size F A (.func (.func 79) #[] #[]) (.slice none 0 0) (Sr.M0 [b0, b1, b2, b3, b4, b5, b6, b7]) [] 0 Un.k0 hp3 hnc hc (by have := HB.out.1.size; omega) hbl hfit (by omega) henv (by simp; omega) (by omega) (rest_nothing w3 w1.heap.size F (by omega))
    have hgo : Un.un p (Ex.bs []) 0 Un.k0 (Sr.M0 [b0, b1, b2, b3, b4, b5, b6, b7]) = Un.go p [b0, b1, b2, b3, b4, b5, b6, b7] := rfl
    rw [hgo] at hblk
    have hst := Un.go_state p [b0, b1, b2, b3, b4, b5, b6, b7]
    have Y1 := X1.below hb13
    have Y2 := X2.below hb13
    have Y3 := X3.below hb13
    have hg6 : q6 ≠ w1.heap.size := by have := X1.lt; omega
    have hg7 : q7 ≠ w1.heap.size := by have := X2.lt; omega
    have hg8 : q8 ≠ w1.heap.size := by have := X3.lt; omega
    obtain ⟨g, hgq⟩ : ∃ g, g = w1.heap.size := ⟨_, rfl⟩
    have HH := Lib.hid (And.intro hst (And.intro hbw3 (And.intro hs3 (And.intro hin (And.intro hout hgq)))))
    clear hp3 hfit henv hbl hzb hgo hst hb13 hbw3 hs3 hp hin hout X0 X1 X2 X3
    go_wp2_with fail
    rw [← hw3]
    rw [← hgq] at hblk hg6 hg7 hg8 ⊢
    clear hw3 hgq d0 d1 d2 d3 d4 d5 d6 d7
    refine hblk.mono ?_
    rintro e w4 (⟨h1, ⟨cs, rfl, h2⟩, bl4, hk4⟩ | ⟨h1, rfl, hk4⟩)
    · obtain ⟨k9, c9, t9, l9, A9, n9, p9, rfl⟩ := h2.form_one (Ks.of_len _)
      have B6 := Y1.keeps hk4 hg6
      have B7 := Y2.keeps hk4 hg7
      have B8 := Y3.keeps hk4 hg8
      obtain ⟨M4, hM4⟩ : ∃ x, x = (Un.go p [b0, b1, b2, b3, b4, b5, b6, b7]).2 := ⟨_, rfl⟩
      rw [← hM4] at h1 bl4
      have hl4 : M4.heap.length = 8 := by
        rw [hM4, HH.out.1]
        exact (Sr.run_on p [] 0 (Sr.M0 [b0, b1, b2, b3, b4, b5, b6, b7])).heap
      obtain ⟨a0, a1, a2, a3, a4, a5, a6, a7, hh4⟩ := Sr.heap8 hl4
      have bl4' : Blk w4 g 126 [.int .i64 a0, .int .i64 a1, .int .i64 a2, .int .i64 a3, .int .i64 a4, .int .i64 a5, .int .i64 a6, .int .i64 a7, .int .i64 (F : Int), .int .i64 (M4.steps : Int)] := by
        have := bl4
        unfold Un.bcells at this
        rw [hh4] at this
        exact this
      have hlo : w.heap.size ≤ q6 ∧ w.heap.size ≤ q7 ∧ w.heap.size ≤ q8 ∧ q6 < w3.heap.size ∧ q7 < w3.heap.size ∧ q8 < w3.heap.size := by have := HQ.out; have := Y1.lt; have := Y2.lt; have := Y3.lt; omega
      have HZ := Lib.hid (And.intro h1 (And.intro h2 (And.intro hk4 (And.intro hM4 (And.intro hh4 (And.intro hlo (And.intro hg6 (And.intro n67 (And.intro n68 n78)))))))))
      unfold tcells at B6
      clear hblk Y1 Y2 Y3 h1 h2 hk4 bl4 hM4 hl4 hh4 hlo
      go_wp2_with (first | (refine wpl_put_blk B6 [.int .i64 k9, .int .i64 c9, .bool t9, .int .i64 l9, .slice A9 n9 p9] (by kernel_rfl) rfl (by intro v hv; simp at hv; rcases hv with rfl | rfl | rfl | rfl | rfl <;> rfl) rfl rfl rfl rfl ?_; intro w5 hB65 hg5) | fail)
      have bl5 := bl4'.grown hg5 (by intro e; injection e with e; exact hg6 e.symm)
      have B75 := B7.grown hg5 (by intro e; injection e with e; exact n67 e.symm)
      have B85 := B8.grown hg5 (by intro e; injection e with e; exact n68 e.symm)
      refine wp_region_any (by kernel_rfl) ?_
      change wpAny _ _ _ _ _ _ _ (World.drew _)
      have hb6 : Below w5.heap.size w5 w5.drew := below_drew (Below.refl _ _)
      have z5a := hB65.drew
      have bl5a := bl5.drew
      have B75a := B75.drew
      have B85a := B85.drew
      clear B6 B7 B8 bl4'
      generalize w5.drew = w6 at hb6 z5a bl5a B75a B85a ⊢
      -- ORDERS1
      refine wpAny_ready (rs := [0, 1]) (by kernel_rfl) (by simp) ?_
      refine AllReady.cons rfl (fun K hK => ?_) (AllReady.cons rfl (fun K hK => ?_) AllReady.nil)
      · have e0 : w6.cell? ⟨q6, 0, none⟩ = some (.int .i64 k9) := (z5a.cell 0).trans rfl
        have e1 : w6.cell? ⟨q6, 1, none⟩ = some (.int .i64 c9) := (z5a.cell 1).trans rfl
        have e2 : w6.cell? ⟨q6, 2, none⟩ = some (.bool t9) := (z5a.cell 2).trans rfl
        have e3 : w6.cell? ⟨q6, 3, none⟩ = some (.int .i64 l9) := (z5a.cell 3).trans rfl
        have e4 : w6.cell? ⟨q6, 4, none⟩ = some (.slice A9 n9 p9) := (z5a.cell 4).trans rfl
        go_simp
        refine hK _ _ ?_
        clear hK K
        clear e0 e1 e2 e3 e4
        refine wpAny_ready (rs := [1, 5]) (by kernel_rfl) (by simp) ?_
        refine AllReady.cons rfl (fun K hK => ?_) (AllReady.cons rfl (fun K hK => ?_) AllReady.nil)
        · go_simp
          refine hK _ _ ?_
          clear hK K
          refine wpAny_ready (rs := [2, 5]) (by kernel_rfl) (by simp) ?_
          refine AllReady.cons rfl (fun K hK => ?_) (AllReady.cons rfl (fun K hK => ?_) AllReady.nil)
          · go_simp
            refine hK _ _ ?_
            clear hK K
            refine wpAny_ready (rs := [3, 5]) (by kernel_rfl) (by simp) ?_
            refine AllReady.cons rfl (fun K hK => ?_) (AllReady.cons rfl (fun K hK => ?_) AllReady.nil)
            · go_simp
              refine hK _ _ ?_
              clear hK K
              refine wpAny_ready (rs := [4, 5]) (by kernel_rfl) (by simp) ?_
              refine AllReady.cons rfl (fun K hK => ?_) (AllReady.cons rfl (fun K hK => ?_) AllReady.nil)
              · have f0 : w6.cell? ⟨g, 0, none⟩ = some (.int .i64 a0) := (bl5a.cell 0).trans rfl
                have f1 : w6.cell? ⟨g, 1, none⟩ = some (.int .i64 a1) := (bl5a.cell 1).trans rfl
                have f2 : w6.cell? ⟨g, 2, none⟩ = some (.int .i64 a2) := (bl5a.cell 2).trans rfl
                have f3 : w6.cell? ⟨g, 3, none⟩ = some (.int .i64 a3) := (bl5a.cell 3).trans rfl
                have f4 : w6.cell? ⟨g, 4, none⟩ = some (.int .i64 a4) := (bl5a.cell 4).trans rfl
                have f5 : w6.cell? ⟨g, 5, none⟩ = some (.int .i64 a5) := (bl5a.cell 5).trans rfl
                have f6 : w6.cell? ⟨g, 6, none⟩ = some (.int .i64 a6) := (bl5a.cell 6).trans rfl
                have f7 : w6.cell? ⟨g, 7, none⟩ = some (.int .i64 a7) := (bl5a.cell 7).trans rfl
                go_simp
                refine hK _ _ ?_
                clear hK K
                clear f0 f1 f2 f3 f4 f5 f6 f7
                refine wpAny_ready (rs := [5]) (by kernel_rfl) (by simp) ?_
                refine AllReady.cons rfl (fun K hK => ?_) AllReady.nil
                · rw [if_pos (by rfl)]
                  refine wp_put_blk z5a [.int .i64 k9, .int .i64 c9, .bool t9, .int .i64 l9, .slice A9 n9 p9] (by kernel_rfl) rfl (by intro v hv; simp at hv; rcases hv with rfl | rfl | rfl | rfl | rfl <;> rfl) rfl rfl rfl ?_
                  intro w7 hB67 hg7'
                  refine hK _ _ ?_
                  clear hK K
                  have bl7a := bl5a.grown hg7' (by intro e; injection e with e; exact hg6 e.symm)
                  refine wpAny_ready (rs := [6]) (by kernel_rfl) (by simp) (AllReady.cons rfl (fun K hK => ?_) AllReady.nil)
                  rw [if_pos (by rfl)]
                  refine wp_put_blk (B75a.grown hg7' (by intro e; injection e with e; exact n67 e.symm)) [.int .i64 a0, .int .i64 a1, .int .i64 a2, .int .i64 a3, .int .i64 a4, .int .i64 a5, .int .i64 a6, .int .i64 a7] (by kernel_rfl) rfl (by intro v hv; simp at hv; rcases hv with rfl | rfl | rfl | rfl | rfl | rfl | rfl | rfl <;> rfl) rfl rfl rfl ?_
                  intro w8 hB78 hg8'
                  refine hK _ _ ?_
                  clear hK K
                  refine wpAny_ready (rs := [7]) (by kernel_rfl) (by simp) (AllReady.cons rfl (fun K hK => ?_) AllReady.nil)
                  rw [if_pos (by rfl)]
                  refine wp_set_blk1 ((B85a.grown hg7' (by intro e; injection e with e; exact n68 e.symm)).grown hg8' (by intro e; injection e with e; exact n78 e.symm)) 0 (.int .i64 0) (by kernel_rfl) (by simp) rfl rfl rfl rfl rfl ?_
                  intro w9 hB89 hg9
                  refine hK _ _ ?_
                  clear hK K
                  have z6 := (hB67.grown hg8' (by intro e; injection e with e; exact n67 e)).grown hg9 (by intro e; injection e with e; exact n68 e)
                  have z7 := hB78.grown hg9 (by intro e; injection e with e; exact n78 e)
                  have z8 : Blk w9 q8 51 [.int .i64 0] := hB89
                  have HG := Lib.hid (And.intro hg5 (And.intro hb6 (And.intro hg7' (And.intro hg8' hg9))))
                  refine wpAny_done (by kernel_rfl) ?_ _
                  go_wp2
                  refine leaves_cons (f := 77) (args := #[.pointer (some ⟨q6, 0, none⟩), .pointer (some ⟨q7, 0, none⟩), .pointer (some ⟨q8, 0, none⟩)]) (by simp) (by simp [go_sem]) ?_
                  refine (ucatch_idle ⟨q6, 0, none⟩ ⟨q7, 0, none⟩ ⟨q8, 0, none⟩ _).mono ?_
                  rintro e u' w'' ⟨rfl, rfl, rfl⟩
                  have e0 : w''.cell? ⟨q6, 0, none⟩ = some (.int .i64 k9) := (z6.cell 0).trans rfl
                  have e1 : w''.cell? ⟨q6, 1, none⟩ = some (.int .i64 c9) := (z6.cell 1).trans rfl
                  have e2 : w''.cell? ⟨q6, 2, none⟩ = some (.bool t9) := (z6.cell 2).trans rfl
                  have e3 : w''.cell? ⟨q6, 3, none⟩ = some (.int .i64 l9) := (z6.cell 3).trans rfl
                  have e4 : w''.cell? ⟨q6, 4, none⟩ = some (.slice A9 n9 p9) := (z6.cell 4).trans rfl
                  have f0 : w''.cell? ⟨q7, 0, none⟩ = some (.int .i64 a0) := (z7.cell 0).trans rfl
                  have f1 : w''.cell? ⟨q7, 1, none⟩ = some (.int .i64 a1) := (z7.cell 1).trans rfl
                  have f2 : w''.cell? ⟨q7, 2, none⟩ = some (.int .i64 a2) := (z7.cell 2).trans rfl
                  have f3 : w''.cell? ⟨q7, 3, none⟩ = some (.int .i64 a3) := (z7.cell 3).trans rfl
                  have f4 : w''.cell? ⟨q7, 4, none⟩ = some (.int .i64 a4) := (z7.cell 4).trans rfl
                  have f5 : w''.cell? ⟨q7, 5, none⟩ = some (.int .i64 a5) := (z7.cell 5).trans rfl
                  have f6 : w''.cell? ⟨q7, 6, none⟩ = some (.int .i64 a6) := (z7.cell 6).trans rfl
                  have f7 : w''.cell? ⟨q7, 7, none⟩ = some (.int .i64 a7) := (z7.cell 7).trans rfl
                  have f8 : w''.cell? ⟨q8, 0, none⟩ = some (.int .i64 0) := (z8.cell 0).trans rfl
                  simp [Leaves, settle, results, Tryd.results34, go_sem, e0, e1, e2, e3, e4, f0, f1, f2, f3, f4, f5, f6, f7, f8]
                  obtain ⟨h1, h2, hk4, hM4, hh4, hlo, hg6, -⟩ := HZ.out
                  obtain ⟨hg5, hb6, hg7', hg8', hg9⟩ := HG.out
                  obtain ⟨hst, hbw3, hs3, hin, hout, hgq⟩ := HH.out
                  obtain ⟨he, hf⟩ := hin (by rw [← hst, ← hM4]; exact_mod_cast h1)
                  have k3 : Below w3.heap.size w3 w3 := Below.refl _ _
                  have hb5 : Below w.heap.size w4 w5 := below_of_grown hg5 (by have := hk4.size; omega) (by omega)
                  have hb7 : Below w.heap.size w6 w7 := below_of_grown hg7' (by have := hk4.size; have := hg5.size; have := hb6.size; omega) (by omega)
                  have hb8 : Below w.heap.size w7 w8 := below_of_grown hg8' (by have := hk4.size; have := hg5.size; have := hb6.size; have := hg7'.size; omega) (by omega)
                  have hb9 : Below w.heap.size w8 w'' := below_of_grown hg9 (by have := hk4.size; have := hg5.size; have := hb6.size; have := hg7'.size; have := hg8'.size; omega) (by omega)
                  have hws := hbw3.size
                  have hb4 : Below w.heap.size w3 w4 := hk4.below (by omega) (fun i hi => by have := HB.out.1.size; omega)
                  have hb6' : Below w.heap.size w5 w6 := hb6.mono (by have := hk4.size; have := hg5.size; omega)
                  refine ⟨tcells k9 c9 t9 l9 A9 n9 p9, ?_, ?_, hbw3.trans (hb4.trans (hb5.trans (hb6'.trans (hb7.trans (hb8.trans hb9)))))⟩
                  · rw [he, hf, ← hst, ← hM4, hh4]
                    rfl
                  · rw [Un.term_of.2 he]
                    have hs34 := hk4.size
                    have s5 := hg5.size
                    have d4 : KN w3.heap.size w5 _ (Ks.of (Un.go p [b0, b1, b2, b3, b4, b5, b6, b7]).1) := h2.grown hg5 (by omega)
                    have d6 := d4.below hb6
                    have d7 := d6.grown hg7' (by omega)
                    have d8 := d7.grown hg8' (by omega)
                    have d9 := d8.grown hg9 (by omega)
                    exact d9.low (by omega)
              · rw [if_pos (by rfl)]
                refine wp_put_blk z5a [.int .i64 k9, .int .i64 c9, .bool t9, .int .i64 l9, .slice A9 n9 p9] (by kernel_rfl) rfl (by intro v hv; simp at hv; rcases hv with rfl | rfl | rfl | rfl | rfl <;> rfl) rfl rfl rfl ?_
                intro w7 hB67 hg7'
                refine hK _ _ ?_
                clear hK K
                have bl7a := bl5a.grown hg7' (by intro e; injection e with e; exact hg6 e.symm)
                refine wpAny_ready (rs := [4]) (by kernel_rfl) (by simp) ?_
                refine AllReady.cons rfl (fun K hK => ?_) AllReady.nil
                · have f0 : w7.cell? ⟨g, 0, none⟩ = some (.int .i64 a0) := (bl7a.cell 0).trans rfl
                  have f1 : w7.cell? ⟨g, 1, none⟩ = some (.int .i64 a1) := (bl7a.cell 1).trans rfl
                  have f2 : w7.cell? ⟨g, 2, none⟩ = some (.int .i64 a2) := (bl7a.cell 2).trans rfl
                  have f3 : w7.cell? ⟨g, 3, none⟩ = some (.int .i64 a3) := (bl7a.cell 3).trans rfl
                  have f4 : w7.cell? ⟨g, 4, none⟩ = some (.int .i64 a4) := (bl7a.cell 4).trans rfl
                  have f5 : w7.cell? ⟨g, 5, none⟩ = some (.int .i64 a5) := (bl7a.cell 5).trans rfl
                  have f6 : w7.cell? ⟨g, 6, none⟩ = some (.int .i64 a6) := (bl7a.cell 6).trans rfl
                  have f7 : w7.cell? ⟨g, 7, none⟩ = some (.int .i64 a7) := (bl7a.cell 7).trans rfl
                  go_simp
                  refine hK _ _ ?_
                  clear hK K
                  clear f0 f1 f2 f3 f4 f5 f6 f7
                  refine wpAny_ready (rs := [6]) (by kernel_rfl) (by simp) (AllReady.cons rfl (fun K hK => ?_) AllReady.nil)
                  rw [if_pos (by rfl)]
                  refine wp_put_blk (B75a.grown hg7' (by intro e; injection e with e; exact n67 e.symm)) [.int .i64 a0, .int .i64 a1, .int .i64 a2, .int .i64 a3, .int .i64 a4, .int .i64 a5, .int .i64 a6, .int .i64 a7] (by kernel_rfl) rfl (by intro v hv; simp at hv; rcases hv with rfl | rfl | rfl | rfl | rfl | rfl | rfl | rfl <;> rfl) rfl rfl rfl ?_
                  intro w8 hB78 hg8'
                  refine hK _ _ ?_
                  clear hK K
                  refine wpAny_ready (rs := [7]) (by kernel_rfl) (by simp) (AllReady.cons rfl (fun K hK => ?_) AllReady.nil)
                  rw [if_pos (by rfl)]
                  refine wp_set_blk1 ((B85a.grown hg7' (by intro e; injection e with e; exact n68 e.symm)).grown hg8' (by intro e; injection e with e; exact n78 e.symm)) 0 (.int .i64 0) (by kernel_rfl) (by simp) rfl rfl rfl rfl rfl ?_
                  intro w9 hB89 hg9
                  refine hK _ _ ?_
                  clear hK K
                  have z6 := (hB67.grown hg8' (by intro e; injection e with e; exact n67 e)).grown hg9 (by intro e; injection e with e; exact n68 e)
                  have z7 := hB78.grown hg9 (by intro e; injection e with e; exact n78 e)
                  have z8 : Blk w9 q8 51 [.int .i64 0] := hB89
                  have HG := Lib.hid (And.intro hg5 (And.intro hb6 (And.intro hg7' (And.intro hg8' hg9))))
                  refine wpAny_done (by kernel_rfl) ?_ _
                  go_wp2
                  refine leaves_cons (f := 77) (args := #[.pointer (some ⟨q6, 0, none⟩), .pointer (some ⟨q7, 0, none⟩), .pointer (some ⟨q8, 0, none⟩)]) (by simp) (by simp [go_sem]) ?_
                  refine (ucatch_idle ⟨q6, 0, none⟩ ⟨q7, 0, none⟩ ⟨q8, 0, none⟩ _).mono ?_
                  rintro e u' w'' ⟨rfl, rfl, rfl⟩
                  have e0 : w''.cell? ⟨q6, 0, none⟩ = some (.int .i64 k9) := (z6.cell 0).trans rfl
                  have e1 : w''.cell? ⟨q6, 1, none⟩ = some (.int .i64 c9) := (z6.cell 1).trans rfl
                  have e2 : w''.cell? ⟨q6, 2, none⟩ = some (.bool t9) := (z6.cell 2).trans rfl
                  have e3 : w''.cell? ⟨q6, 3, none⟩ = some (.int .i64 l9) := (z6.cell 3).trans rfl
                  have e4 : w''.cell? ⟨q6, 4, none⟩ = some (.slice A9 n9 p9) := (z6.cell 4).trans rfl
                  have f0 : w''.cell? ⟨q7, 0, none⟩ = some (.int .i64 a0) := (z7.cell 0).trans rfl
                  have f1 : w''.cell? ⟨q7, 1, none⟩ = some (.int .i64 a1) := (z7.cell 1).trans rfl
                  have f2 : w''.cell? ⟨q7, 2, none⟩ = some (.int .i64 a2) := (z7.cell 2).trans rfl
                  have f3 : w''.cell? ⟨q7, 3, none⟩ = some (.int .i64 a3) := (z7.cell 3).trans rfl
                  have f4 : w''.cell? ⟨q7, 4, none⟩ = some (.int .i64 a4) := (z7.cell 4).trans rfl
                  have f5 : w''.cell? ⟨q7, 5, none⟩ = some (.int .i64 a5) := (z7.cell 5).trans rfl
                  have f6 : w''.cell? ⟨q7, 6, none⟩ = some (.int .i64 a6) := (z7.cell 6).trans rfl
                  have f7 : w''.cell? ⟨q7, 7, none⟩ = some (.int .i64 a7) := (z7.cell 7).trans rfl
                  have f8 : w''.cell? ⟨q8, 0, none⟩ = some (.int .i64 0) := (z8.cell 0).trans rfl
                  simp [Leaves, settle, results, Tryd.results34, go_sem, e0, e1, e2, e3, e4, f0, f1, f2, f3, f4, f5, f6, f7, f8]
                  obtain ⟨h1, h2, hk4, hM4, hh4, hlo, hg6, -⟩ := HZ.out
                  obtain ⟨hg5, hb6, hg7', hg8', hg9⟩ := HG.out
                  obtain ⟨hst, hbw3, hs3, hin, hout, hgq⟩ := HH.out
                  obtain ⟨he, hf⟩ := hin (by rw [← hst, ← hM4]; exact_mod_cast h1)
                  have k3 : Below w3.heap.size w3 w3 := Below.refl _ _
                  have hb5 : Below w.heap.size w4 w5 := below_of_grown hg5 (by have := hk4.size; omega) (by omega)
                  have hb7 : Below w.heap.size w6 w7 := below_of_grown hg7' (by have := hk4.size; have := hg5.size; have := hb6.size; omega) (by omega)
                  have hb8 : Below w.heap.size w7 w8 := below_of_grown hg8' (by have := hk4.size; have := hg5.size; have := hb6.size; have := hg7'.size; omega) (by omega)
                  have hb9 : Below w.heap.size w8 w'' := below_of_grown hg9 (by have := hk4.size; have := hg5.size; have := hb6.size; have := hg7'.size; have := hg8'.size; omega) (by omega)
                  have hws := hbw3.size
                  have hb4 : Below w.heap.size w3 w4 := hk4.below (by omega) (fun i hi => by have := HB.out.1.size; omega)
                  have hb6' : Below w.heap.size w5 w6 := hb6.mono (by have := hk4.size; have := hg5.size; omega)
                  refine ⟨tcells k9 c9 t9 l9 A9 n9 p9, ?_, ?_, hbw3.trans (hb4.trans (hb5.trans (hb6'.trans (hb7.trans (hb8.trans hb9)))))⟩
                  · rw [he, hf, ← hst, ← hM4, hh4]
                    rfl
                  · rw [Un.term_of.2 he]
                    have hs34 := hk4.size
                    have s5 := hg5.size
                    have d4 : KN w3.heap.size w5 _ (Ks.of (Un.go p [b0, b1, b2, b3, b4, b5, b6, b7]).1) := h2.grown hg5 (by omega)
                    have d6 := d4.below hb6
                    have d7 := d6.grown hg7' (by omega)
                    have d8 := d7.grown hg8' (by omega)
                    have d9 := d8.grown hg9 (by omega)
                    exact d9.low (by omega)
            · rw [if_pos (by rfl)]
              refine wp_put_blk z5a [.int .i64 k9, .int .i64 c9, .bool t9, .int .i64 l9, .slice A9 n9 p9] (by kernel_rfl) rfl (by intro v hv; simp at hv; rcases hv with rfl | rfl | rfl | rfl | rfl <;> rfl) rfl rfl rfl ?_
              intro w7 hB67 hg7'
              refine hK _ _ ?_
              clear hK K
              have bl7a := bl5a.grown hg7' (by intro e; injection e with e; exact hg6 e.symm)
              refine wpAny_ready (rs := [3]) (by kernel_rfl) (by simp) ?_
              refine AllReady.cons rfl (fun K hK => ?_) AllReady.nil
              · go_simp
                refine hK _ _ ?_
                clear hK K
                refine wpAny_ready (rs := [4]) (by kernel_rfl) (by simp) ?_
                refine AllReady.cons rfl (fun K hK => ?_) AllReady.nil
                · have f0 : w7.cell? ⟨g, 0, none⟩ = some (.int .i64 a0) := (bl7a.cell 0).trans rfl
                  have f1 : w7.cell? ⟨g, 1, none⟩ = some (.int .i64 a1) := (bl7a.cell 1).trans rfl
                  have f2 : w7.cell? ⟨g, 2, none⟩ = some (.int .i64 a2) := (bl7a.cell 2).trans rfl
                  have f3 : w7.cell? ⟨g, 3, none⟩ = some (.int .i64 a3) := (bl7a.cell 3).trans rfl
                  have f4 : w7.cell? ⟨g, 4, none⟩ = some (.int .i64 a4) := (bl7a.cell 4).trans rfl
                  have f5 : w7.cell? ⟨g, 5, none⟩ = some (.int .i64 a5) := (bl7a.cell 5).trans rfl
                  have f6 : w7.cell? ⟨g, 6, none⟩ = some (.int .i64 a6) := (bl7a.cell 6).trans rfl
                  have f7 : w7.cell? ⟨g, 7, none⟩ = some (.int .i64 a7) := (bl7a.cell 7).trans rfl
                  go_simp
                  refine hK _ _ ?_
                  clear hK K
                  clear f0 f1 f2 f3 f4 f5 f6 f7
                  refine wpAny_ready (rs := [6]) (by kernel_rfl) (by simp) (AllReady.cons rfl (fun K hK => ?_) AllReady.nil)
                  rw [if_pos (by rfl)]
                  refine wp_put_blk (B75a.grown hg7' (by intro e; injection e with e; exact n67 e.symm)) [.int .i64 a0, .int .i64 a1, .int .i64 a2, .int .i64 a3, .int .i64 a4, .int .i64 a5, .int .i64 a6, .int .i64 a7] (by kernel_rfl) rfl (by intro v hv; simp at hv; rcases hv with rfl | rfl | rfl | rfl | rfl | rfl | rfl | rfl <;> rfl) rfl rfl rfl ?_
                  intro w8 hB78 hg8'
                  refine hK _ _ ?_
                  clear hK K
                  refine wpAny_ready (rs := [7]) (by kernel_rfl) (by simp) (AllReady.cons rfl (fun K hK => ?_) AllReady.nil)
                  rw [if_pos (by rfl)]
                  refine wp_set_blk1 ((B85a.grown hg7' (by intro e; injection e with e; exact n68 e.symm)).grown hg8' (by intro e; injection e with e; exact n78 e.symm)) 0 (.int .i64 0) (by kernel_rfl) (by simp) rfl rfl rfl rfl rfl ?_
                  intro w9 hB89 hg9
                  refine hK _ _ ?_
                  clear hK K
                  have z6 := (hB67.grown hg8' (by intro e; injection e with e; exact n67 e)).grown hg9 (by intro e; injection e with e; exact n68 e)
                  have z7 := hB78.grown hg9 (by intro e; injection e with e; exact n78 e)
                  have z8 : Blk w9 q8 51 [.int .i64 0] := hB89
                  have HG := Lib.hid (And.intro hg5 (And.intro hb6 (And.intro hg7' (And.intro hg8' hg9))))
                  refine wpAny_done (by kernel_rfl) ?_ _
                  go_wp2
                  refine leaves_cons (f := 77) (args := #[.pointer (some ⟨q6, 0, none⟩), .pointer (some ⟨q7, 0, none⟩), .pointer (some ⟨q8, 0, none⟩)]) (by simp) (by simp [go_sem]) ?_
                  refine (ucatch_idle ⟨q6, 0, none⟩ ⟨q7, 0, none⟩ ⟨q8, 0, none⟩ _).mono ?_
                  rintro e u' w'' ⟨rfl, rfl, rfl⟩
                  have e0 : w''.cell? ⟨q6, 0, none⟩ = some (.int .i64 k9) := (z6.cell 0).trans rfl
                  have e1 : w''.cell? ⟨q6, 1, none⟩ = some (.int .i64 c9) := (z6.cell 1).trans rfl
                  have e2 : w''.cell? ⟨q6, 2, none⟩ = some (.bool t9) := (z6.cell 2).trans rfl
                  have e3 : w''.cell? ⟨q6, 3, none⟩ = some (.int .i64 l9) := (z6.cell 3).trans rfl
                  have e4 : w''.cell? ⟨q6, 4, none⟩ = some (.slice A9 n9 p9) := (z6.cell 4).trans rfl
                  have f0 : w''.cell? ⟨q7, 0, none⟩ = some (.int .i64 a0) := (z7.cell 0).trans rfl
                  have f1 : w''.cell? ⟨q7, 1, none⟩ = some (.int .i64 a1) := (z7.cell 1).trans rfl
                  have f2 : w''.cell? ⟨q7, 2, none⟩ = some (.int .i64 a2) := (z7.cell 2).trans rfl
                  have f3 : w''.cell? ⟨q7, 3, none⟩ = some (.int .i64 a3) := (z7.cell 3).trans rfl
                  have f4 : w''.cell? ⟨q7, 4, none⟩ = some (.int .i64 a4) := (z7.cell 4).trans rfl
                  have f5 : w''.cell? ⟨q7, 5, none⟩ = some (.int .i64 a5) := (z7.cell 5).trans rfl
                  have f6 : w''.cell? ⟨q7, 6, none⟩ = some (.int .i64 a6) := (z7.cell 6).trans rfl
                  have f7 : w''.cell? ⟨q7, 7, none⟩ = some (.int .i64 a7) := (z7.cell 7).trans rfl
                  have f8 : w''.cell? ⟨q8, 0, none⟩ = some (.int .i64 0) := (z8.cell 0).trans rfl
                  simp [Leaves, settle, results, Tryd.results34, go_sem, e0, e1, e2, e3, e4, f0, f1, f2, f3, f4, f5, f6, f7, f8]
                  obtain ⟨h1, h2, hk4, hM4, hh4, hlo, hg6, -⟩ := HZ.out
                  obtain ⟨hg5, hb6, hg7', hg8', hg9⟩ := HG.out
                  obtain ⟨hst, hbw3, hs3, hin, hout, hgq⟩ := HH.out
                  obtain ⟨he, hf⟩ := hin (by rw [← hst, ← hM4]; exact_mod_cast h1)
                  have k3 : Below w3.heap.size w3 w3 := Below.refl _ _
                  have hb5 : Below w.heap.size w4 w5 := below_of_grown hg5 (by have := hk4.size; omega) (by omega)
                  have hb7 : Below w.heap.size w6 w7 := below_of_grown hg7' (by have := hk4.size; have := hg5.size; have := hb6.size; omega) (by omega)
                  have hb8 : Below w.heap.size w7 w8 := below_of_grown hg8' (by have := hk4.size; have := hg5.size; have := hb6.size; have := hg7'.size; omega) (by omega)
                  have hb9 : Below w.heap.size w8 w'' := below_of_grown hg9 (by have := hk4.size; have := hg5.size; have := hb6.size; have := hg7'.size; have := hg8'.size; omega) (by omega)
                  have hws := hbw3.size
                  have hb4 : Below w.heap.size w3 w4 := hk4.below (by omega) (fun i hi => by have := HB.out.1.size; omega)
                  have hb6' : Below w.heap.size w5 w6 := hb6.mono (by have := hk4.size; have := hg5.size; omega)
                  refine ⟨tcells k9 c9 t9 l9 A9 n9 p9, ?_, ?_, hbw3.trans (hb4.trans (hb5.trans (hb6'.trans (hb7.trans (hb8.trans hb9)))))⟩
                  · rw [he, hf, ← hst, ← hM4, hh4]
                    rfl
                  · rw [Un.term_of.2 he]
                    have hs34 := hk4.size
                    have s5 := hg5.size
                    have d4 : KN w3.heap.size w5 _ (Ks.of (Un.go p [b0, b1, b2, b3, b4, b5, b6, b7]).1) := h2.grown hg5 (by omega)
                    have d6 := d4.below hb6
                    have d7 := d6.grown hg7' (by omega)
                    have d8 := d7.grown hg8' (by omega)
                    have d9 := d8.grown hg9 (by omega)
                    exact d9.low (by omega)
          · rw [if_pos (by rfl)]
            refine wp_put_blk z5a [.int .i64 k9, .int .i64 c9, .bool t9, .int .i64 l9, .slice A9 n9 p9] (by kernel_rfl) rfl (by intro v hv; simp at hv; rcases hv with rfl | rfl | rfl | rfl | rfl <;> rfl) rfl rfl rfl ?_
            intro w7 hB67 hg7'
            refine hK _ _ ?_
            clear hK K
            have bl7a := bl5a.grown hg7' (by intro e; injection e with e; exact hg6 e.symm)
            refine wpAny_ready (rs := [2]) (by kernel_rfl) (by simp) ?_
            refine AllReady.cons rfl (fun K hK => ?_) AllReady.nil
            · go_simp
              refine hK _ _ ?_
              clear hK K
              refine wpAny_ready (rs := [3]) (by kernel_rfl) (by simp) ?_
              refine AllReady.cons rfl (fun K hK => ?_) AllReady.nil
              · go_simp
                refine hK _ _ ?_
                clear hK K
                refine wpAny_ready (rs := [4]) (by kernel_rfl) (by simp) ?_
                refine AllReady.cons rfl (fun K hK => ?_) AllReady.nil
                · have f0 : w7.cell? ⟨g, 0, none⟩ = some (.int .i64 a0) := (bl7a.cell 0).trans rfl
                  have f1 : w7.cell? ⟨g, 1, none⟩ = some (.int .i64 a1) := (bl7a.cell 1).trans rfl
                  have f2 : w7.cell? ⟨g, 2, none⟩ = some (.int .i64 a2) := (bl7a.cell 2).trans rfl
                  have f3 : w7.cell? ⟨g, 3, none⟩ = some (.int .i64 a3) := (bl7a.cell 3).trans rfl
                  have f4 : w7.cell? ⟨g, 4, none⟩ = some (.int .i64 a4) := (bl7a.cell 4).trans rfl
                  have f5 : w7.cell? ⟨g, 5, none⟩ = some (.int .i64 a5) := (bl7a.cell 5).trans rfl
                  have f6 : w7.cell? ⟨g, 6, none⟩ = some (.int .i64 a6) := (bl7a.cell 6).trans rfl
                  have f7 : w7.cell? ⟨g, 7, none⟩ = some (.int .i64 a7) := (bl7a.cell 7).trans rfl
                  go_simp
                  refine hK _ _ ?_
                  clear hK K
                  clear f0 f1 f2 f3 f4 f5 f6 f7
                  refine wpAny_ready (rs := [6]) (by kernel_rfl) (by simp) (AllReady.cons rfl (fun K hK => ?_) AllReady.nil)
                  rw [if_pos (by rfl)]
                  refine wp_put_blk (B75a.grown hg7' (by intro e; injection e with e; exact n67 e.symm)) [.int .i64 a0, .int .i64 a1, .int .i64 a2, .int .i64 a3, .int .i64 a4, .int .i64 a5, .int .i64 a6, .int .i64 a7] (by kernel_rfl) rfl (by intro v hv; simp at hv; rcases hv with rfl | rfl | rfl | rfl | rfl | rfl | rfl | rfl <;> rfl) rfl rfl rfl ?_
                  intro w8 hB78 hg8'
                  refine hK _ _ ?_
                  clear hK K
                  refine wpAny_ready (rs := [7]) (by kernel_rfl) (by simp) (AllReady.cons rfl (fun K hK => ?_) AllReady.nil)
                  rw [if_pos (by rfl)]
                  refine wp_set_blk1 ((B85a.grown hg7' (by intro e; injection e with e; exact n68 e.symm)).grown hg8' (by intro e; injection e with e; exact n78 e.symm)) 0 (.int .i64 0) (by kernel_rfl) (by simp) rfl rfl rfl rfl rfl ?_
                  intro w9 hB89 hg9
                  refine hK _ _ ?_
                  clear hK K
                  have z6 := (hB67.grown hg8' (by intro e; injection e with e; exact n67 e)).grown hg9 (by intro e; injection e with e; exact n68 e)
                  have z7 := hB78.grown hg9 (by intro e; injection e with e; exact n78 e)
                  have z8 : Blk w9 q8 51 [.int .i64 0] := hB89
                  have HG := Lib.hid (And.intro hg5 (And.intro hb6 (And.intro hg7' (And.intro hg8' hg9))))
                  refine wpAny_done (by kernel_rfl) ?_ _
                  go_wp2
                  refine leaves_cons (f := 77) (args := #[.pointer (some ⟨q6, 0, none⟩), .pointer (some ⟨q7, 0, none⟩), .pointer (some ⟨q8, 0, none⟩)]) (by simp) (by simp [go_sem]) ?_
                  refine (ucatch_idle ⟨q6, 0, none⟩ ⟨q7, 0, none⟩ ⟨q8, 0, none⟩ _).mono ?_
                  rintro e u' w'' ⟨rfl, rfl, rfl⟩
                  have e0 : w''.cell? ⟨q6, 0, none⟩ = some (.int .i64 k9) := (z6.cell 0).trans rfl
                  have e1 : w''.cell? ⟨q6, 1, none⟩ = some (.int .i64 c9) := (z6.cell 1).trans rfl
                  have e2 : w''.cell? ⟨q6, 2, none⟩ = some (.bool t9) := (z6.cell 2).trans rfl
                  have e3 : w''.cell? ⟨q6, 3, none⟩ = some (.int .i64 l9) := (z6.cell 3).trans rfl
                  have e4 : w''.cell? ⟨q6, 4, none⟩ = some (.slice A9 n9 p9) := (z6.cell 4).trans rfl
                  have f0 : w''.cell? ⟨q7, 0, none⟩ = some (.int .i64 a0) := (z7.cell 0).trans rfl
                  have f1 : w''.cell? ⟨q7, 1, none⟩ = some (.int .i64 a1) := (z7.cell 1).trans rfl
                  have f2 : w''.cell? ⟨q7, 2, none⟩ = some (.int .i64 a2) := (z7.cell 2).trans rfl
                  have f3 : w''.cell? ⟨q7, 3, none⟩ = some (.int .i64 a3) := (z7.cell 3).trans rfl
                  have f4 : w''.cell? ⟨q7, 4, none⟩ = some (.int .i64 a4) := (z7.cell 4).trans rfl
                  have f5 : w''.cell? ⟨q7, 5, none⟩ = some (.int .i64 a5) := (z7.cell 5).trans rfl
                  have f6 : w''.cell? ⟨q7, 6, none⟩ = some (.int .i64 a6) := (z7.cell 6).trans rfl
                  have f7 : w''.cell? ⟨q7, 7, none⟩ = some (.int .i64 a7) := (z7.cell 7).trans rfl
                  have f8 : w''.cell? ⟨q8, 0, none⟩ = some (.int .i64 0) := (z8.cell 0).trans rfl
                  simp [Leaves, settle, results, Tryd.results34, go_sem, e0, e1, e2, e3, e4, f0, f1, f2, f3, f4, f5, f6, f7, f8]
                  obtain ⟨h1, h2, hk4, hM4, hh4, hlo, hg6, -⟩ := HZ.out
                  obtain ⟨hg5, hb6, hg7', hg8', hg9⟩ := HG.out
                  obtain ⟨hst, hbw3, hs3, hin, hout, hgq⟩ := HH.out
                  obtain ⟨he, hf⟩ := hin (by rw [← hst, ← hM4]; exact_mod_cast h1)
                  have k3 : Below w3.heap.size w3 w3 := Below.refl _ _
                  have hb5 : Below w.heap.size w4 w5 := below_of_grown hg5 (by have := hk4.size; omega) (by omega)
                  have hb7 : Below w.heap.size w6 w7 := below_of_grown hg7' (by have := hk4.size; have := hg5.size; have := hb6.size; omega) (by omega)
                  have hb8 : Below w.heap.size w7 w8 := below_of_grown hg8' (by have := hk4.size; have := hg5.size; have := hb6.size; have := hg7'.size; omega) (by omega)
                  have hb9 : Below w.heap.size w8 w'' := below_of_grown hg9 (by have := hk4.size; have := hg5.size; have := hb6.size; have := hg7'.size; have := hg8'.size; omega) (by omega)
                  have hws := hbw3.size
                  have hb4 : Below w.heap.size w3 w4 := hk4.below (by omega) (fun i hi => by have := HB.out.1.size; omega)
                  have hb6' : Below w.heap.size w5 w6 := hb6.mono (by have := hk4.size; have := hg5.size; omega)
                  refine ⟨tcells k9 c9 t9 l9 A9 n9 p9, ?_, ?_, hbw3.trans (hb4.trans (hb5.trans (hb6'.trans (hb7.trans (hb8.trans hb9)))))⟩
                  · rw [he, hf, ← hst, ← hM4, hh4]
                    rfl
                  · rw [Un.term_of.2 he]
                    have hs34 := hk4.size
                    have s5 := hg5.size
                    have d4 : KN w3.heap.size w5 _ (Ks.of (Un.go p [b0, b1, b2, b3, b4, b5, b6, b7]).1) := h2.grown hg5 (by omega)
                    have d6 := d4.below hb6
                    have d7 := d6.grown hg7' (by omega)
                    have d8 := d7.grown hg8' (by omega)
                    have d9 := d8.grown hg9 (by omega)
                    exact d9.low (by omega)
        · rw [if_pos (by rfl)]
          refine wp_put_blk z5a [.int .i64 k9, .int .i64 c9, .bool t9, .int .i64 l9, .slice A9 n9 p9] (by kernel_rfl) rfl (by intro v hv; simp at hv; rcases hv with rfl | rfl | rfl | rfl | rfl <;> rfl) rfl rfl rfl ?_
          intro w7 hB67 hg7'
          refine hK _ _ ?_
          clear hK K
          have bl7a := bl5a.grown hg7' (by intro e; injection e with e; exact hg6 e.symm)
          refine wpAny_ready (rs := [1]) (by kernel_rfl) (by simp) ?_
          refine AllReady.cons rfl (fun K hK => ?_) AllReady.nil
          · go_simp
            refine hK _ _ ?_
            clear hK K
            refine wpAny_ready (rs := [2]) (by kernel_rfl) (by simp) ?_
            refine AllReady.cons rfl (fun K hK => ?_) AllReady.nil
            · go_simp
              refine hK _ _ ?_
              clear hK K
              refine wpAny_ready (rs := [3]) (by kernel_rfl) (by simp) ?_
              refine AllReady.cons rfl (fun K hK => ?_) AllReady.nil
              · go_simp
                refine hK _ _ ?_
                clear hK K
                refine wpAny_ready (rs := [4]) (by kernel_rfl) (by simp) ?_
                refine AllReady.cons rfl (fun K hK => ?_) AllReady.nil
                · have f0 : w7.cell? ⟨g, 0, none⟩ = some (.int .i64 a0) := (bl7a.cell 0).trans rfl
                  have f1 : w7.cell? ⟨g, 1, none⟩ = some (.int .i64 a1) := (bl7a.cell 1).trans rfl
                  have f2 : w7.cell? ⟨g, 2, none⟩ = some (.int .i64 a2) := (bl7a.cell 2).trans rfl
                  have f3 : w7.cell? ⟨g, 3, none⟩ = some (.int .i64 a3) := (bl7a.cell 3).trans rfl
                  have f4 : w7.cell? ⟨g, 4, none⟩ = some (.int .i64 a4) := (bl7a.cell 4).trans rfl
                  have f5 : w7.cell? ⟨g, 5, none⟩ = some (.int .i64 a5) := (bl7a.cell 5).trans rfl
                  have f6 : w7.cell? ⟨g, 6, none⟩ = some (.int .i64 a6) := (bl7a.cell 6).trans rfl
                  have f7 : w7.cell? ⟨g, 7, none⟩ = some (.int .i64 a7) := (bl7a.cell 7).trans rfl
                  go_simp
                  refine hK _ _ ?_
                  clear hK K
                  clear f0 f1 f2 f3 f4 f5 f6 f7
                  refine wpAny_ready (rs := [6]) (by kernel_rfl) (by simp) (AllReady.cons rfl (fun K hK => ?_) AllReady.nil)
                  rw [if_pos (by rfl)]
                  refine wp_put_blk (B75a.grown hg7' (by intro e; injection e with e; exact n67 e.symm)) [.int .i64 a0, .int .i64 a1, .int .i64 a2, .int .i64 a3, .int .i64 a4, .int .i64 a5, .int .i64 a6, .int .i64 a7] (by kernel_rfl) rfl (by intro v hv; simp at hv; rcases hv with rfl | rfl | rfl | rfl | rfl | rfl | rfl | rfl <;> rfl) rfl rfl rfl ?_
                  intro w8 hB78 hg8'
                  refine hK _ _ ?_
                  clear hK K
                  refine wpAny_ready (rs := [7]) (by kernel_rfl) (by simp) (AllReady.cons rfl (fun K hK => ?_) AllReady.nil)
                  rw [if_pos (by rfl)]
                  refine wp_set_blk1 ((B85a.grown hg7' (by intro e; injection e with e; exact n68 e.symm)).grown hg8' (by intro e; injection e with e; exact n78 e.symm)) 0 (.int .i64 0) (by kernel_rfl) (by simp) rfl rfl rfl rfl rfl ?_
                  intro w9 hB89 hg9
                  refine hK _ _ ?_
                  clear hK K
                  have z6 := (hB67.grown hg8' (by intro e; injection e with e; exact n67 e)).grown hg9 (by intro e; injection e with e; exact n68 e)
                  have z7 := hB78.grown hg9 (by intro e; injection e with e; exact n78 e)
                  have z8 : Blk w9 q8 51 [.int .i64 0] := hB89
                  have HG := Lib.hid (And.intro hg5 (And.intro hb6 (And.intro hg7' (And.intro hg8' hg9))))
                  refine wpAny_done (by kernel_rfl) ?_ _
                  go_wp2
                  refine leaves_cons (f := 77) (args := #[.pointer (some ⟨q6, 0, none⟩), .pointer (some ⟨q7, 0, none⟩), .pointer (some ⟨q8, 0, none⟩)]) (by simp) (by simp [go_sem]) ?_
                  refine (ucatch_idle ⟨q6, 0, none⟩ ⟨q7, 0, none⟩ ⟨q8, 0, none⟩ _).mono ?_
                  rintro e u' w'' ⟨rfl, rfl, rfl⟩
                  have e0 : w''.cell? ⟨q6, 0, none⟩ = some (.int .i64 k9) := (z6.cell 0).trans rfl
                  have e1 : w''.cell? ⟨q6, 1, none⟩ = some (.int .i64 c9) := (z6.cell 1).trans rfl
                  have e2 : w''.cell? ⟨q6, 2, none⟩ = some (.bool t9) := (z6.cell 2).trans rfl
                  have e3 : w''.cell? ⟨q6, 3, none⟩ = some (.int .i64 l9) := (z6.cell 3).trans rfl
                  have e4 : w''.cell? ⟨q6, 4, none⟩ = some (.slice A9 n9 p9) := (z6.cell 4).trans rfl
                  have f0 : w''.cell? ⟨q7, 0, none⟩ = some (.int .i64 a0) := (z7.cell 0).trans rfl
                  have f1 : w''.cell? ⟨q7, 1, none⟩ = some (.int .i64 a1) := (z7.cell 1).trans rfl
                  have f2 : w''.cell? ⟨q7, 2, none⟩ = some (.int .i64 a2) := (z7.cell 2).trans rfl
                  have f3 : w''.cell? ⟨q7, 3, none⟩ = some (.int .i64 a3) := (z7.cell 3).trans rfl
                  have f4 : w''.cell? ⟨q7, 4, none⟩ = some (.int .i64 a4) := (z7.cell 4).trans rfl
                  have f5 : w''.cell? ⟨q7, 5, none⟩ = some (.int .i64 a5) := (z7.cell 5).trans rfl
                  have f6 : w''.cell? ⟨q7, 6, none⟩ = some (.int .i64 a6) := (z7.cell 6).trans rfl
                  have f7 : w''.cell? ⟨q7, 7, none⟩ = some (.int .i64 a7) := (z7.cell 7).trans rfl
                  have f8 : w''.cell? ⟨q8, 0, none⟩ = some (.int .i64 0) := (z8.cell 0).trans rfl
                  simp [Leaves, settle, results, Tryd.results34, go_sem, e0, e1, e2, e3, e4, f0, f1, f2, f3, f4, f5, f6, f7, f8]
                  obtain ⟨h1, h2, hk4, hM4, hh4, hlo, hg6, -⟩ := HZ.out
                  obtain ⟨hg5, hb6, hg7', hg8', hg9⟩ := HG.out
                  obtain ⟨hst, hbw3, hs3, hin, hout, hgq⟩ := HH.out
                  obtain ⟨he, hf⟩ := hin (by rw [← hst, ← hM4]; exact_mod_cast h1)
                  have k3 : Below w3.heap.size w3 w3 := Below.refl _ _
                  have hb5 : Below w.heap.size w4 w5 := below_of_grown hg5 (by have := hk4.size; omega) (by omega)
                  have hb7 : Below w.heap.size w6 w7 := below_of_grown hg7' (by have := hk4.size; have := hg5.size; have := hb6.size; omega) (by omega)
                  have hb8 : Below w.heap.size w7 w8 := below_of_grown hg8' (by have := hk4.size; have := hg5.size; have := hb6.size; have := hg7'.size; omega) (by omega)
                  have hb9 : Below w.heap.size w8 w'' := below_of_grown hg9 (by have := hk4.size; have := hg5.size; have := hb6.size; have := hg7'.size; have := hg8'.size; omega) (by omega)
                  have hws := hbw3.size
                  have hb4 : Below w.heap.size w3 w4 := hk4.below (by omega) (fun i hi => by have := HB.out.1.size; omega)
                  have hb6' : Below w.heap.size w5 w6 := hb6.mono (by have := hk4.size; have := hg5.size; omega)
                  refine ⟨tcells k9 c9 t9 l9 A9 n9 p9, ?_, ?_, hbw3.trans (hb4.trans (hb5.trans (hb6'.trans (hb7.trans (hb8.trans hb9)))))⟩
                  · rw [he, hf, ← hst, ← hM4, hh4]
                    rfl
                  · rw [Un.term_of.2 he]
                    have hs34 := hk4.size
                    have s5 := hg5.size
                    have d4 : KN w3.heap.size w5 _ (Ks.of (Un.go p [b0, b1, b2, b3, b4, b5, b6, b7]).1) := h2.grown hg5 (by omega)
                    have d6 := d4.below hb6
                    have d7 := d6.grown hg7' (by omega)
                    have d8 := d7.grown hg8' (by omega)
                    have d9 := d8.grown hg9 (by omega)
                    exact d9.low (by omega)
      · go_simp
        refine hK _ _ ?_
        clear hK K
        refine wpAny_ready (rs := [0, 2]) (by kernel_rfl) (by simp) ?_
        refine AllReady.cons rfl (fun K hK => ?_) (AllReady.cons rfl (fun K hK => ?_) AllReady.nil)
        · have e0 : w6.cell? ⟨q6, 0, none⟩ = some (.int .i64 k9) := (z5a.cell 0).trans rfl
          have e1 : w6.cell? ⟨q6, 1, none⟩ = some (.int .i64 c9) := (z5a.cell 1).trans rfl
          have e2 : w6.cell? ⟨q6, 2, none⟩ = some (.bool t9) := (z5a.cell 2).trans rfl
          have e3 : w6.cell? ⟨q6, 3, none⟩ = some (.int .i64 l9) := (z5a.cell 3).trans rfl
          have e4 : w6.cell? ⟨q6, 4, none⟩ = some (.slice A9 n9 p9) := (z5a.cell 4).trans rfl
          go_simp
          refine hK _ _ ?_
          clear hK K
          clear e0 e1 e2 e3 e4
          refine wpAny_ready (rs := [2, 5]) (by kernel_rfl) (by simp) ?_
          refine AllReady.cons rfl (fun K hK => ?_) (AllReady.cons rfl (fun K hK => ?_) AllReady.nil)
          · go_simp
            refine hK _ _ ?_
            clear hK K
            refine wpAny_ready (rs := [3, 5]) (by kernel_rfl) (by simp) ?_
            refine AllReady.cons rfl (fun K hK => ?_) (AllReady.cons rfl (fun K hK => ?_) AllReady.nil)
            · go_simp
              refine hK _ _ ?_
              clear hK K
              refine wpAny_ready (rs := [4, 5]) (by kernel_rfl) (by simp) ?_
              refine AllReady.cons rfl (fun K hK => ?_) (AllReady.cons rfl (fun K hK => ?_) AllReady.nil)
              · have f0 : w6.cell? ⟨g, 0, none⟩ = some (.int .i64 a0) := (bl5a.cell 0).trans rfl
                have f1 : w6.cell? ⟨g, 1, none⟩ = some (.int .i64 a1) := (bl5a.cell 1).trans rfl
                have f2 : w6.cell? ⟨g, 2, none⟩ = some (.int .i64 a2) := (bl5a.cell 2).trans rfl
                have f3 : w6.cell? ⟨g, 3, none⟩ = some (.int .i64 a3) := (bl5a.cell 3).trans rfl
                have f4 : w6.cell? ⟨g, 4, none⟩ = some (.int .i64 a4) := (bl5a.cell 4).trans rfl
                have f5 : w6.cell? ⟨g, 5, none⟩ = some (.int .i64 a5) := (bl5a.cell 5).trans rfl
                have f6 : w6.cell? ⟨g, 6, none⟩ = some (.int .i64 a6) := (bl5a.cell 6).trans rfl
                have f7 : w6.cell? ⟨g, 7, none⟩ = some (.int .i64 a7) := (bl5a.cell 7).trans rfl
                go_simp
                refine hK _ _ ?_
                clear hK K
                clear f0 f1 f2 f3 f4 f5 f6 f7
                refine wpAny_ready (rs := [5]) (by kernel_rfl) (by simp) ?_
                refine AllReady.cons rfl (fun K hK => ?_) AllReady.nil
                · rw [if_pos (by rfl)]
                  refine wp_put_blk z5a [.int .i64 k9, .int .i64 c9, .bool t9, .int .i64 l9, .slice A9 n9 p9] (by kernel_rfl) rfl (by intro v hv; simp at hv; rcases hv with rfl | rfl | rfl | rfl | rfl <;> rfl) rfl rfl rfl ?_
                  intro w7 hB67 hg7'
                  refine hK _ _ ?_
                  clear hK K
                  have bl7a := bl5a.grown hg7' (by intro e; injection e with e; exact hg6 e.symm)
                  refine wpAny_ready (rs := [6]) (by kernel_rfl) (by simp) (AllReady.cons rfl (fun K hK => ?_) AllReady.nil)
                  rw [if_pos (by rfl)]
                  refine wp_put_blk (B75a.grown hg7' (by intro e; injection e with e; exact n67 e.symm)) [.int .i64 a0, .int .i64 a1, .int .i64 a2, .int .i64 a3, .int .i64 a4, .int .i64 a5, .int .i64 a6, .int .i64 a7] (by kernel_rfl) rfl (by intro v hv; simp at hv; rcases hv with rfl | rfl | rfl | rfl | rfl | rfl | rfl | rfl <;> rfl) rfl rfl rfl ?_
                  intro w8 hB78 hg8'
                  refine hK _ _ ?_
                  clear hK K
                  refine wpAny_ready (rs := [7]) (by kernel_rfl) (by simp) (AllReady.cons rfl (fun K hK => ?_) AllReady.nil)
                  rw [if_pos (by rfl)]
                  refine wp_set_blk1 ((B85a.grown hg7' (by intro e; injection e with e; exact n68 e.symm)).grown hg8' (by intro e; injection e with e; exact n78 e.symm)) 0 (.int .i64 0) (by kernel_rfl) (by simp) rfl rfl rfl rfl rfl ?_
                  intro w9 hB89 hg9
                  refine hK _ _ ?_
                  clear hK K
                  have z6 := (hB67.grown hg8' (by intro e; injection e with e; exact n67 e)).grown hg9 (by intro e; injection e with e; exact n68 e)
                  have z7 := hB78.grown hg9 (by intro e; injection e with e; exact n78 e)
                  have z8 : Blk w9 q8 51 [.int .i64 0] := hB89
                  have HG := Lib.hid (And.intro hg5 (And.intro hb6 (And.intro hg7' (And.intro hg8' hg9))))
                  refine wpAny_done (by kernel_rfl) ?_ _
                  go_wp2
                  refine leaves_cons (f := 77) (args := #[.pointer (some ⟨q6, 0, none⟩), .pointer (some ⟨q7, 0, none⟩), .pointer (some ⟨q8, 0, none⟩)]) (by simp) (by simp [go_sem]) ?_
                  refine (ucatch_idle ⟨q6, 0, none⟩ ⟨q7, 0, none⟩ ⟨q8, 0, none⟩ _).mono ?_
                  rintro e u' w'' ⟨rfl, rfl, rfl⟩
                  have e0 : w''.cell? ⟨q6, 0, none⟩ = some (.int .i64 k9) := (z6.cell 0).trans rfl
                  have e1 : w''.cell? ⟨q6, 1, none⟩ = some (.int .i64 c9) := (z6.cell 1).trans rfl
                  have e2 : w''.cell? ⟨q6, 2, none⟩ = some (.bool t9) := (z6.cell 2).trans rfl
                  have e3 : w''.cell? ⟨q6, 3, none⟩ = some (.int .i64 l9) := (z6.cell 3).trans rfl
                  have e4 : w''.cell? ⟨q6, 4, none⟩ = some (.slice A9 n9 p9) := (z6.cell 4).trans rfl
                  have f0 : w''.cell? ⟨q7, 0, none⟩ = some (.int .i64 a0) := (z7.cell 0).trans rfl
                  have f1 : w''.cell? ⟨q7, 1, none⟩ = some (.int .i64 a1) := (z7.cell 1).trans rfl
                  have f2 : w''.cell? ⟨q7, 2, none⟩ = some (.int .i64 a2) := (z7.cell 2).trans rfl
                  have f3 : w''.cell? ⟨q7, 3, none⟩ = some (.int .i64 a3) := (z7.cell 3).trans rfl
                  have f4 : w''.cell? ⟨q7, 4, none⟩ = some (.int .i64 a4) := (z7.cell 4).trans rfl
                  have f5 : w''.cell? ⟨q7, 5, none⟩ = some (.int .i64 a5) := (z7.cell 5).trans rfl
                  have f6 : w''.cell? ⟨q7, 6, none⟩ = some (.int .i64 a6) := (z7.cell 6).trans rfl
                  have f7 : w''.cell? ⟨q7, 7, none⟩ = some (.int .i64 a7) := (z7.cell 7).trans rfl
                  have f8 : w''.cell? ⟨q8, 0, none⟩ = some (.int .i64 0) := (z8.cell 0).trans rfl
                  simp [Leaves, settle, results, Tryd.results34, go_sem, e0, e1, e2, e3, e4, f0, f1, f2, f3, f4, f5, f6, f7, f8]
                  obtain ⟨h1, h2, hk4, hM4, hh4, hlo, hg6, -⟩ := HZ.out
                  obtain ⟨hg5, hb6, hg7', hg8', hg9⟩ := HG.out
                  obtain ⟨hst, hbw3, hs3, hin, hout, hgq⟩ := HH.out
                  obtain ⟨he, hf⟩ := hin (by rw [← hst, ← hM4]; exact_mod_cast h1)
                  have k3 : Below w3.heap.size w3 w3 := Below.refl _ _
                  have hb5 : Below w.heap.size w4 w5 := below_of_grown hg5 (by have := hk4.size; omega) (by omega)
                  have hb7 : Below w.heap.size w6 w7 := below_of_grown hg7' (by have := hk4.size; have := hg5.size; have := hb6.size; omega) (by omega)
                  have hb8 : Below w.heap.size w7 w8 := below_of_grown hg8' (by have := hk4.size; have := hg5.size; have := hb6.size; have := hg7'.size; omega) (by omega)
                  have hb9 : Below w.heap.size w8 w'' := below_of_grown hg9 (by have := hk4.size; have := hg5.size; have := hb6.size; have := hg7'.size; have := hg8'.size; omega) (by omega)
                  have hws := hbw3.size
                  have hb4 : Below w.heap.size w3 w4 := hk4.below (by omega) (fun i hi => by have := HB.out.1.size; omega)
                  have hb6' : Below w.heap.size w5 w6 := hb6.mono (by have := hk4.size; have := hg5.size; omega)
                  refine ⟨tcells k9 c9 t9 l9 A9 n9 p9, ?_, ?_, hbw3.trans (hb4.trans (hb5.trans (hb6'.trans (hb7.trans (hb8.trans hb9)))))⟩
                  · rw [he, hf, ← hst, ← hM4, hh4]
                    rfl
                  · rw [Un.term_of.2 he]
                    have hs34 := hk4.size
                    have s5 := hg5.size
                    have d4 : KN w3.heap.size w5 _ (Ks.of (Un.go p [b0, b1, b2, b3, b4, b5, b6, b7]).1) := h2.grown hg5 (by omega)
                    have d6 := d4.below hb6
                    have d7 := d6.grown hg7' (by omega)
                    have d8 := d7.grown hg8' (by omega)
                    have d9 := d8.grown hg9 (by omega)
                    exact d9.low (by omega)
              · rw [if_pos (by rfl)]
                refine wp_put_blk z5a [.int .i64 k9, .int .i64 c9, .bool t9, .int .i64 l9, .slice A9 n9 p9] (by kernel_rfl) rfl (by intro v hv; simp at hv; rcases hv with rfl | rfl | rfl | rfl | rfl <;> rfl) rfl rfl rfl ?_
                intro w7 hB67 hg7'
                refine hK _ _ ?_
                clear hK K
                have bl7a := bl5a.grown hg7' (by intro e; injection e with e; exact hg6 e.symm)
                refine wpAny_ready (rs := [4]) (by kernel_rfl) (by simp) ?_
                refine AllReady.cons rfl (fun K hK => ?_) AllReady.nil
                · have f0 : w7.cell? ⟨g, 0, none⟩ = some (.int .i64 a0) := (bl7a.cell 0).trans rfl
                  have f1 : w7.cell? ⟨g, 1, none⟩ = some (.int .i64 a1) := (bl7a.cell 1).trans rfl
                  have f2 : w7.cell? ⟨g, 2, none⟩ = some (.int .i64 a2) := (bl7a.cell 2).trans rfl
                  have f3 : w7.cell? ⟨g, 3, none⟩ = some (.int .i64 a3) := (bl7a.cell 3).trans rfl
                  have f4 : w7.cell? ⟨g, 4, none⟩ = some (.int .i64 a4) := (bl7a.cell 4).trans rfl
                  have f5 : w7.cell? ⟨g, 5, none⟩ = some (.int .i64 a5) := (bl7a.cell 5).trans rfl
                  have f6 : w7.cell? ⟨g, 6, none⟩ = some (.int .i64 a6) := (bl7a.cell 6).trans rfl
                  have f7 : w7.cell? ⟨g, 7, none⟩ = some (.int .i64 a7) := (bl7a.cell 7).trans rfl
                  go_simp
                  refine hK _ _ ?_
                  clear hK K
                  clear f0 f1 f2 f3 f4 f5 f6 f7
                  refine wpAny_ready (rs := [6]) (by kernel_rfl) (by simp) (AllReady.cons rfl (fun K hK => ?_) AllReady.nil)
                  rw [if_pos (by rfl)]
                  refine wp_put_blk (B75a.grown hg7' (by intro e; injection e with e; exact n67 e.symm)) [.int .i64 a0, .int .i64 a1, .int .i64 a2, .int .i64 a3, .int .i64 a4, .int .i64 a5, .int .i64 a6, .int .i64 a7] (by kernel_rfl) rfl (by intro v hv; simp at hv; rcases hv with rfl | rfl | rfl | rfl | rfl | rfl | rfl | rfl <;> rfl) rfl rfl rfl ?_
                  intro w8 hB78 hg8'
                  refine hK _ _ ?_
                  clear hK K
                  refine wpAny_ready (rs := [7]) (by kernel_rfl) (by simp) (AllReady.cons rfl (fun K hK => ?_) AllReady.nil)
                  rw [if_pos (by rfl)]
                  refine wp_set_blk1 ((B85a.grown hg7' (by intro e; injection e with e; exact n68 e.symm)).grown hg8' (by intro e; injection e with e; exact n78 e.symm)) 0 (.int .i64 0) (by kernel_rfl) (by simp) rfl rfl rfl rfl rfl ?_
                  intro w9 hB89 hg9
                  refine hK _ _ ?_
                  clear hK K
                  have z6 := (hB67.grown hg8' (by intro e; injection e with e; exact n67 e)).grown hg9 (by intro e; injection e with e; exact n68 e)
                  have z7 := hB78.grown hg9 (by intro e; injection e with e; exact n78 e)
                  have z8 : Blk w9 q8 51 [.int .i64 0] := hB89
                  have HG := Lib.hid (And.intro hg5 (And.intro hb6 (And.intro hg7' (And.intro hg8' hg9))))
                  refine wpAny_done (by kernel_rfl) ?_ _
                  go_wp2
                  refine leaves_cons (f := 77) (args := #[.pointer (some ⟨q6, 0, none⟩), .pointer (some ⟨q7, 0, none⟩), .pointer (some ⟨q8, 0, none⟩)]) (by simp) (by simp [go_sem]) ?_
                  refine (ucatch_idle ⟨q6, 0, none⟩ ⟨q7, 0, none⟩ ⟨q8, 0, none⟩ _).mono ?_
                  rintro e u' w'' ⟨rfl, rfl, rfl⟩
                  have e0 : w''.cell? ⟨q6, 0, none⟩ = some (.int .i64 k9) := (z6.cell 0).trans rfl
                  have e1 : w''.cell? ⟨q6, 1, none⟩ = some (.int .i64 c9) := (z6.cell 1).trans rfl
                  have e2 : w''.cell? ⟨q6, 2, none⟩ = some (.bool t9) := (z6.cell 2).trans rfl
                  have e3 : w''.cell? ⟨q6, 3, none⟩ = some (.int .i64 l9) := (z6.cell 3).trans rfl
                  have e4 : w''.cell? ⟨q6, 4, none⟩ = some (.slice A9 n9 p9) := (z6.cell 4).trans rfl
                  have f0 : w''.cell? ⟨q7, 0, none⟩ = some (.int .i64 a0) := (z7.cell 0).trans rfl
                  have f1 : w''.cell? ⟨q7, 1, none⟩ = some (.int .i64 a1) := (z7.cell 1).trans rfl
                  have f2 : w''.cell? ⟨q7, 2, none⟩ = some (.int .i64 a2) := (z7.cell 2).trans rfl
                  have f3 : w''.cell? ⟨q7, 3, none⟩ = some (.int .i64 a3) := (z7.cell 3).trans rfl
                  have f4 : w''.cell? ⟨q7, 4, none⟩ = some (.int .i64 a4) := (z7.cell 4).trans rfl
                  have f5 : w''.cell? ⟨q7, 5, none⟩ = some (.int .i64 a5) := (z7.cell 5).trans rfl
                  have f6 : w''.cell? ⟨q7, 6, none⟩ = some (.int .i64 a6) := (z7.cell 6).trans rfl
                  have f7 : w''.cell? ⟨q7, 7, none⟩ = some (.int .i64 a7) := (z7.cell 7).trans rfl
                  have f8 : w''.cell? ⟨q8, 0, none⟩ = some (.int .i64 0) := (z8.cell 0).trans rfl
                  simp [Leaves, settle, results, Tryd.results34, go_sem, e0, e1, e2, e3, e4, f0, f1, f2, f3, f4, f5, f6, f7, f8]
                  obtain ⟨h1, h2, hk4, hM4, hh4, hlo, hg6, -⟩ := HZ.out
                  obtain ⟨hg5, hb6, hg7', hg8', hg9⟩ := HG.out
                  obtain ⟨hst, hbw3, hs3, hin, hout, hgq⟩ := HH.out
                  obtain ⟨he, hf⟩ := hin (by rw [← hst, ← hM4]; exact_mod_cast h1)
                  have k3 : Below w3.heap.size w3 w3 := Below.refl _ _
                  have hb5 : Below w.heap.size w4 w5 := below_of_grown hg5 (by have := hk4.size; omega) (by omega)
                  have hb7 : Below w.heap.size w6 w7 := below_of_grown hg7' (by have := hk4.size; have := hg5.size; have := hb6.size; omega) (by omega)
                  have hb8 : Below w.heap.size w7 w8 := below_of_grown hg8' (by have := hk4.size; have := hg5.size; have := hb6.size; have := hg7'.size; omega) (by omega)
                  have hb9 : Below w.heap.size w8 w'' := below_of_grown hg9 (by have := hk4.size; have := hg5.size; have := hb6.size; have := hg7'.size; have := hg8'.size; omega) (by omega)
                  have hws := hbw3.size
                  have hb4 : Below w.heap.size w3 w4 := hk4.below (by omega) (fun i hi => by have := HB.out.1.size; omega)
                  have hb6' : Below w.heap.size w5 w6 := hb6.mono (by have := hk4.size; have := hg5.size; omega)
                  refine ⟨tcells k9 c9 t9 l9 A9 n9 p9, ?_, ?_, hbw3.trans (hb4.trans (hb5.trans (hb6'.trans (hb7.trans (hb8.trans hb9)))))⟩
                  · rw [he, hf, ← hst, ← hM4, hh4]
                    rfl
                  · rw [Un.term_of.2 he]
                    have hs34 := hk4.size
                    have s5 := hg5.size
                    have d4 : KN w3.heap.size w5 _ (Ks.of (Un.go p [b0, b1, b2, b3, b4, b5, b6, b7]).1) := h2.grown hg5 (by omega)
                    have d6 := d4.below hb6
                    have d7 := d6.grown hg7' (by omega)
                    have d8 := d7.grown hg8' (by omega)
                    have d9 := d8.grown hg9 (by omega)
                    exact d9.low (by omega)
            · rw [if_pos (by rfl)]
              refine wp_put_blk z5a [.int .i64 k9, .int .i64 c9, .bool t9, .int .i64 l9, .slice A9 n9 p9] (by kernel_rfl) rfl (by intro v hv; simp at hv; rcases hv with rfl | rfl | rfl | rfl | rfl <;> rfl) rfl rfl rfl ?_
              intro w7 hB67 hg7'
              refine hK _ _ ?_
              clear hK K
              have bl7a := bl5a.grown hg7' (by intro e; injection e with e; exact hg6 e.symm)
              refine wpAny_ready (rs := [3]) (by kernel_rfl) (by simp) ?_
              refine AllReady.cons rfl (fun K hK => ?_) AllReady.nil
              · go_simp
                refine hK _ _ ?_
                clear hK K
                refine wpAny_ready (rs := [4]) (by kernel_rfl) (by simp) ?_
                refine AllReady.cons rfl (fun K hK => ?_) AllReady.nil
                · have f0 : w7.cell? ⟨g, 0, none⟩ = some (.int .i64 a0) := (bl7a.cell 0).trans rfl
                  have f1 : w7.cell? ⟨g, 1, none⟩ = some (.int .i64 a1) := (bl7a.cell 1).trans rfl
                  have f2 : w7.cell? ⟨g, 2, none⟩ = some (.int .i64 a2) := (bl7a.cell 2).trans rfl
                  have f3 : w7.cell? ⟨g, 3, none⟩ = some (.int .i64 a3) := (bl7a.cell 3).trans rfl
                  have f4 : w7.cell? ⟨g, 4, none⟩ = some (.int .i64 a4) := (bl7a.cell 4).trans rfl
                  have f5 : w7.cell? ⟨g, 5, none⟩ = some (.int .i64 a5) := (bl7a.cell 5).trans rfl
                  have f6 : w7.cell? ⟨g, 6, none⟩ = some (.int .i64 a6) := (bl7a.cell 6).trans rfl
                  have f7 : w7.cell? ⟨g, 7, none⟩ = some (.int .i64 a7) := (bl7a.cell 7).trans rfl
                  go_simp
                  refine hK _ _ ?_
                  clear hK K
                  clear f0 f1 f2 f3 f4 f5 f6 f7
                  refine wpAny_ready (rs := [6]) (by kernel_rfl) (by simp) (AllReady.cons rfl (fun K hK => ?_) AllReady.nil)
                  rw [if_pos (by rfl)]
                  refine wp_put_blk (B75a.grown hg7' (by intro e; injection e with e; exact n67 e.symm)) [.int .i64 a0, .int .i64 a1, .int .i64 a2, .int .i64 a3, .int .i64 a4, .int .i64 a5, .int .i64 a6, .int .i64 a7] (by kernel_rfl) rfl (by intro v hv; simp at hv; rcases hv with rfl | rfl | rfl | rfl | rfl | rfl | rfl | rfl <;> rfl) rfl rfl rfl ?_
                  intro w8 hB78 hg8'
                  refine hK _ _ ?_
                  clear hK K
                  refine wpAny_ready (rs := [7]) (by kernel_rfl) (by simp) (AllReady.cons rfl (fun K hK => ?_) AllReady.nil)
                  rw [if_pos (by rfl)]
                  refine wp_set_blk1 ((B85a.grown hg7' (by intro e; injection e with e; exact n68 e.symm)).grown hg8' (by intro e; injection e with e; exact n78 e.symm)) 0 (.int .i64 0) (by kernel_rfl) (by simp) rfl rfl rfl rfl rfl ?_
                  intro w9 hB89 hg9
                  refine hK _ _ ?_
                  clear hK K
                  have z6 := (hB67.grown hg8' (by intro e; injection e with e; exact n67 e)).grown hg9 (by intro e; injection e with e; exact n68 e)
                  have z7 := hB78.grown hg9 (by intro e; injection e with e; exact n78 e)
                  have z8 : Blk w9 q8 51 [.int .i64 0] := hB89
                  have HG := Lib.hid (And.intro hg5 (And.intro hb6 (And.intro hg7' (And.intro hg8' hg9))))
                  refine wpAny_done (by kernel_rfl) ?_ _
                  go_wp2
                  refine leaves_cons (f := 77) (args := #[.pointer (some ⟨q6, 0, none⟩), .pointer (some ⟨q7, 0, none⟩), .pointer (some ⟨q8, 0, none⟩)]) (by simp) (by simp [go_sem]) ?_
                  refine (ucatch_idle ⟨q6, 0, none⟩ ⟨q7, 0, none⟩ ⟨q8, 0, none⟩ _).mono ?_
                  rintro e u' w'' ⟨rfl, rfl, rfl⟩
                  have e0 : w''.cell? ⟨q6, 0, none⟩ = some (.int .i64 k9) := (z6.cell 0).trans rfl
                  have e1 : w''.cell? ⟨q6, 1, none⟩ = some (.int .i64 c9) := (z6.cell 1).trans rfl
                  have e2 : w''.cell? ⟨q6, 2, none⟩ = some (.bool t9) := (z6.cell 2).trans rfl
                  have e3 : w''.cell? ⟨q6, 3, none⟩ = some (.int .i64 l9) := (z6.cell 3).trans rfl
                  have e4 : w''.cell? ⟨q6, 4, none⟩ = some (.slice A9 n9 p9) := (z6.cell 4).trans rfl
                  have f0 : w''.cell? ⟨q7, 0, none⟩ = some (.int .i64 a0) := (z7.cell 0).trans rfl
                  have f1 : w''.cell? ⟨q7, 1, none⟩ = some (.int .i64 a1) := (z7.cell 1).trans rfl
                  have f2 : w''.cell? ⟨q7, 2, none⟩ = some (.int .i64 a2) := (z7.cell 2).trans rfl
                  have f3 : w''.cell? ⟨q7, 3, none⟩ = some (.int .i64 a3) := (z7.cell 3).trans rfl
                  have f4 : w''.cell? ⟨q7, 4, none⟩ = some (.int .i64 a4) := (z7.cell 4).trans rfl
                  have f5 : w''.cell? ⟨q7, 5, none⟩ = some (.int .i64 a5) := (z7.cell 5).trans rfl
                  have f6 : w''.cell? ⟨q7, 6, none⟩ = some (.int .i64 a6) := (z7.cell 6).trans rfl
                  have f7 : w''.cell? ⟨q7, 7, none⟩ = some (.int .i64 a7) := (z7.cell 7).trans rfl
                  have f8 : w''.cell? ⟨q8, 0, none⟩ = some (.int .i64 0) := (z8.cell 0).trans rfl
                  simp [Leaves, settle, results, Tryd.results34, go_sem, e0, e1, e2, e3, e4, f0, f1, f2, f3, f4, f5, f6, f7, f8]
                  obtain ⟨h1, h2, hk4, hM4, hh4, hlo, hg6, -⟩ := HZ.out
                  obtain ⟨hg5, hb6, hg7', hg8', hg9⟩ := HG.out
                  obtain ⟨hst, hbw3, hs3, hin, hout, hgq⟩ := HH.out
                  obtain ⟨he, hf⟩ := hin (by rw [← hst, ← hM4]; exact_mod_cast h1)
                  have k3 : Below w3.heap.size w3 w3 := Below.refl _ _
                  have hb5 : Below w.heap.size w4 w5 := below_of_grown hg5 (by have := hk4.size; omega) (by omega)
                  have hb7 : Below w.heap.size w6 w7 := below_of_grown hg7' (by have := hk4.size; have := hg5.size; have := hb6.size; omega) (by omega)
                  have hb8 : Below w.heap.size w7 w8 := below_of_grown hg8' (by have := hk4.size; have := hg5.size; have := hb6.size; have := hg7'.size; omega) (by omega)
                  have hb9 : Below w.heap.size w8 w'' := below_of_grown hg9 (by have := hk4.size; have := hg5.size; have := hb6.size; have := hg7'.size; have := hg8'.size; omega) (by omega)
                  have hws := hbw3.size
                  have hb4 : Below w.heap.size w3 w4 := hk4.below (by omega) (fun i hi => by have := HB.out.1.size; omega)
                  have hb6' : Below w.heap.size w5 w6 := hb6.mono (by have := hk4.size; have := hg5.size; omega)
                  refine ⟨tcells k9 c9 t9 l9 A9 n9 p9, ?_, ?_, hbw3.trans (hb4.trans (hb5.trans (hb6'.trans (hb7.trans (hb8.trans hb9)))))⟩
                  · rw [he, hf, ← hst, ← hM4, hh4]
                    rfl
                  · rw [Un.term_of.2 he]
                    have hs34 := hk4.size
                    have s5 := hg5.size
                    have d4 : KN w3.heap.size w5 _ (Ks.of (Un.go p [b0, b1, b2, b3, b4, b5, b6, b7]).1) := h2.grown hg5 (by omega)
                    have d6 := d4.below hb6
                    have d7 := d6.grown hg7' (by omega)
                    have d8 := d7.grown hg8' (by omega)
                    have d9 := d8.grown hg9 (by omega)
                    exact d9.low (by omega)
          · rw [if_pos (by rfl)]
            refine wp_put_blk z5a [.int .i64 k9, .int .i64 c9, .bool t9, .int .i64 l9, .slice A9 n9 p9] (by kernel_rfl) rfl (by intro v hv; simp at hv; rcases hv with rfl | rfl | rfl | rfl | rfl <;> rfl) rfl rfl rfl ?_
            intro w7 hB67 hg7'
            refine hK _ _ ?_
            clear hK K
            have bl7a := bl5a.grown hg7' (by intro e; injection e with e; exact hg6 e.symm)
            refine wpAny_ready (rs := [2]) (by kernel_rfl) (by simp) ?_
            refine AllReady.cons rfl (fun K hK => ?_) AllReady.nil
            · go_simp
              refine hK _ _ ?_
              clear hK K
              refine wpAny_ready (rs := [3]) (by kernel_rfl) (by simp) ?_
              refine AllReady.cons rfl (fun K hK => ?_) AllReady.nil
              · go_simp
                refine hK _ _ ?_
                clear hK K
                refine wpAny_ready (rs := [4]) (by kernel_rfl) (by simp) ?_
                refine AllReady.cons rfl (fun K hK => ?_) AllReady.nil
                · have f0 : w7.cell? ⟨g, 0, none⟩ = some (.int .i64 a0) := (bl7a.cell 0).trans rfl
                  have f1 : w7.cell? ⟨g, 1, none⟩ = some (.int .i64 a1) := (bl7a.cell 1).trans rfl
                  have f2 : w7.cell? ⟨g, 2, none⟩ = some (.int .i64 a2) := (bl7a.cell 2).trans rfl
                  have f3 : w7.cell? ⟨g, 3, none⟩ = some (.int .i64 a3) := (bl7a.cell 3).trans rfl
                  have f4 : w7.cell? ⟨g, 4, none⟩ = some (.int .i64 a4) := (bl7a.cell 4).trans rfl
                  have f5 : w7.cell? ⟨g, 5, none⟩ = some (.int .i64 a5) := (bl7a.cell 5).trans rfl
                  have f6 : w7.cell? ⟨g, 6, none⟩ = some (.int .i64 a6) := (bl7a.cell 6).trans rfl
                  have f7 : w7.cell? ⟨g, 7, none⟩ = some (.int .i64 a7) := (bl7a.cell 7).trans rfl
                  go_simp
                  refine hK _ _ ?_
                  clear hK K
                  clear f0 f1 f2 f3 f4 f5 f6 f7
                  refine wpAny_ready (rs := [6]) (by kernel_rfl) (by simp) (AllReady.cons rfl (fun K hK => ?_) AllReady.nil)
                  rw [if_pos (by rfl)]
                  refine wp_put_blk (B75a.grown hg7' (by intro e; injection e with e; exact n67 e.symm)) [.int .i64 a0, .int .i64 a1, .int .i64 a2, .int .i64 a3, .int .i64 a4, .int .i64 a5, .int .i64 a6, .int .i64 a7] (by kernel_rfl) rfl (by intro v hv; simp at hv; rcases hv with rfl | rfl | rfl | rfl | rfl | rfl | rfl | rfl <;> rfl) rfl rfl rfl ?_
                  intro w8 hB78 hg8'
                  refine hK _ _ ?_
                  clear hK K
                  refine wpAny_ready (rs := [7]) (by kernel_rfl) (by simp) (AllReady.cons rfl (fun K hK => ?_) AllReady.nil)
                  rw [if_pos (by rfl)]
                  refine wp_set_blk1 ((B85a.grown hg7' (by intro e; injection e with e; exact n68 e.symm)).grown hg8' (by intro e; injection e with e; exact n78 e.symm)) 0 (.int .i64 0) (by kernel_rfl) (by simp) rfl rfl rfl rfl rfl ?_
                  intro w9 hB89 hg9
                  refine hK _ _ ?_
                  clear hK K
                  have z6 := (hB67.grown hg8' (by intro e; injection e with e; exact n67 e)).grown hg9 (by intro e; injection e with e; exact n68 e)
                  have z7 := hB78.grown hg9 (by intro e; injection e with e; exact n78 e)
                  have z8 : Blk w9 q8 51 [.int .i64 0] := hB89
                  have HG := Lib.hid (And.intro hg5 (And.intro hb6 (And.intro hg7' (And.intro hg8' hg9))))
                  refine wpAny_done (by kernel_rfl) ?_ _
                  go_wp2
                  refine leaves_cons (f := 77) (args := #[.pointer (some ⟨q6, 0, none⟩), .pointer (some ⟨q7, 0, none⟩), .pointer (some ⟨q8, 0, none⟩)]) (by simp) (by simp [go_sem]) ?_
                  refine (ucatch_idle ⟨q6, 0, none⟩ ⟨q7, 0, none⟩ ⟨q8, 0, none⟩ _).mono ?_
                  rintro e u' w'' ⟨rfl, rfl, rfl⟩
                  have e0 : w''.cell? ⟨q6, 0, none⟩ = some (.int .i64 k9) := (z6.cell 0).trans rfl
                  have e1 : w''.cell? ⟨q6, 1, none⟩ = some (.int .i64 c9) := (z6.cell 1).trans rfl
                  have e2 : w''.cell? ⟨q6, 2, none⟩ = some (.bool t9) := (z6.cell 2).trans rfl
                  have e3 : w''.cell? ⟨q6, 3, none⟩ = some (.int .i64 l9) := (z6.cell 3).trans rfl
                  have e4 : w''.cell? ⟨q6, 4, none⟩ = some (.slice A9 n9 p9) := (z6.cell 4).trans rfl
                  have f0 : w''.cell? ⟨q7, 0, none⟩ = some (.int .i64 a0) := (z7.cell 0).trans rfl
                  have f1 : w''.cell? ⟨q7, 1, none⟩ = some (.int .i64 a1) := (z7.cell 1).trans rfl
                  have f2 : w''.cell? ⟨q7, 2, none⟩ = some (.int .i64 a2) := (z7.cell 2).trans rfl
                  have f3 : w''.cell? ⟨q7, 3, none⟩ = some (.int .i64 a3) := (z7.cell 3).trans rfl
                  have f4 : w''.cell? ⟨q7, 4, none⟩ = some (.int .i64 a4) := (z7.cell 4).trans rfl
                  have f5 : w''.cell? ⟨q7, 5, none⟩ = some (.int .i64 a5) := (z7.cell 5).trans rfl
                  have f6 : w''.cell? ⟨q7, 6, none⟩ = some (.int .i64 a6) := (z7.cell 6).trans rfl
                  have f7 : w''.cell? ⟨q7, 7, none⟩ = some (.int .i64 a7) := (z7.cell 7).trans rfl
                  have f8 : w''.cell? ⟨q8, 0, none⟩ = some (.int .i64 0) := (z8.cell 0).trans rfl
                  simp [Leaves, settle, results, Tryd.results34, go_sem, e0, e1, e2, e3, e4, f0, f1, f2, f3, f4, f5, f6, f7, f8]
                  obtain ⟨h1, h2, hk4, hM4, hh4, hlo, hg6, -⟩ := HZ.out
                  obtain ⟨hg5, hb6, hg7', hg8', hg9⟩ := HG.out
                  obtain ⟨hst, hbw3, hs3, hin, hout, hgq⟩ := HH.out
                  obtain ⟨he, hf⟩ := hin (by rw [← hst, ← hM4]; exact_mod_cast h1)
                  have k3 : Below w3.heap.size w3 w3 := Below.refl _ _
                  have hb5 : Below w.heap.size w4 w5 := below_of_grown hg5 (by have := hk4.size; omega) (by omega)
                  have hb7 : Below w.heap.size w6 w7 := below_of_grown hg7' (by have := hk4.size; have := hg5.size; have := hb6.size; omega) (by omega)
                  have hb8 : Below w.heap.size w7 w8 := below_of_grown hg8' (by have := hk4.size; have := hg5.size; have := hb6.size; have := hg7'.size; omega) (by omega)
                  have hb9 : Below w.heap.size w8 w'' := below_of_grown hg9 (by have := hk4.size; have := hg5.size; have := hb6.size; have := hg7'.size; have := hg8'.size; omega) (by omega)
                  have hws := hbw3.size
                  have hb4 : Below w.heap.size w3 w4 := hk4.below (by omega) (fun i hi => by have := HB.out.1.size; omega)
                  have hb6' : Below w.heap.size w5 w6 := hb6.mono (by have := hk4.size; have := hg5.size; omega)
                  refine ⟨tcells k9 c9 t9 l9 A9 n9 p9, ?_, ?_, hbw3.trans (hb4.trans (hb5.trans (hb6'.trans (hb7.trans (hb8.trans hb9)))))⟩
                  · rw [he, hf, ← hst, ← hM4, hh4]
                    rfl
                  · rw [Un.term_of.2 he]
                    have hs34 := hk4.size
                    have s5 := hg5.size
                    have d4 : KN w3.heap.size w5 _ (Ks.of (Un.go p [b0, b1, b2, b3, b4, b5, b6, b7]).1) := h2.grown hg5 (by omega)
                    have d6 := d4.below hb6
                    have d7 := d6.grown hg7' (by omega)
                    have d8 := d7.grown hg8' (by omega)
                    have d9 := d8.grown hg9 (by omega)
                    exact d9.low (by omega)
        · go_simp
          refine hK _ _ ?_
          clear hK K
          refine wpAny_ready (rs := [0, 3]) (by kernel_rfl) (by simp) ?_
          refine AllReady.cons rfl (fun K hK => ?_) (AllReady.cons rfl (fun K hK => ?_) AllReady.nil)
          · have e0 : w6.cell? ⟨q6, 0, none⟩ = some (.int .i64 k9) := (z5a.cell 0).trans rfl
            have e1 : w6.cell? ⟨q6, 1, none⟩ = some (.int .i64 c9) := (z5a.cell 1).trans rfl
            have e2 : w6.cell? ⟨q6, 2, none⟩ = some (.bool t9) := (z5a.cell 2).trans rfl
            have e3 : w6.cell? ⟨q6, 3, none⟩ = some (.int .i64 l9) := (z5a.cell 3).trans rfl
            have e4 : w6.cell? ⟨q6, 4, none⟩ = some (.slice A9 n9 p9) := (z5a.cell 4).trans rfl
            go_simp
            refine hK _ _ ?_
            clear hK K
            clear e0 e1 e2 e3 e4
            refine wpAny_ready (rs := [3, 5]) (by kernel_rfl) (by simp) ?_
            refine AllReady.cons rfl (fun K hK => ?_) (AllReady.cons rfl (fun K hK => ?_) AllReady.nil)
            · go_simp
              refine hK _ _ ?_
              clear hK K
              refine wpAny_ready (rs := [4, 5]) (by kernel_rfl) (by simp) ?_
              refine AllReady.cons rfl (fun K hK => ?_) (AllReady.cons rfl (fun K hK => ?_) AllReady.nil)
              · have f0 : w6.cell? ⟨g, 0, none⟩ = some (.int .i64 a0) := (bl5a.cell 0).trans rfl
                have f1 : w6.cell? ⟨g, 1, none⟩ = some (.int .i64 a1) := (bl5a.cell 1).trans rfl
                have f2 : w6.cell? ⟨g, 2, none⟩ = some (.int .i64 a2) := (bl5a.cell 2).trans rfl
                have f3 : w6.cell? ⟨g, 3, none⟩ = some (.int .i64 a3) := (bl5a.cell 3).trans rfl
                have f4 : w6.cell? ⟨g, 4, none⟩ = some (.int .i64 a4) := (bl5a.cell 4).trans rfl
                have f5 : w6.cell? ⟨g, 5, none⟩ = some (.int .i64 a5) := (bl5a.cell 5).trans rfl
                have f6 : w6.cell? ⟨g, 6, none⟩ = some (.int .i64 a6) := (bl5a.cell 6).trans rfl
                have f7 : w6.cell? ⟨g, 7, none⟩ = some (.int .i64 a7) := (bl5a.cell 7).trans rfl
                go_simp
                refine hK _ _ ?_
                clear hK K
                clear f0 f1 f2 f3 f4 f5 f6 f7
                refine wpAny_ready (rs := [5]) (by kernel_rfl) (by simp) ?_
                refine AllReady.cons rfl (fun K hK => ?_) AllReady.nil
                · rw [if_pos (by rfl)]
                  refine wp_put_blk z5a [.int .i64 k9, .int .i64 c9, .bool t9, .int .i64 l9, .slice A9 n9 p9] (by kernel_rfl) rfl (by intro v hv; simp at hv; rcases hv with rfl | rfl | rfl | rfl | rfl <;> rfl) rfl rfl rfl ?_
                  intro w7 hB67 hg7'
                  refine hK _ _ ?_
                  clear hK K
                  have bl7a := bl5a.grown hg7' (by intro e; injection e with e; exact hg6 e.symm)
                  refine wpAny_ready (rs := [6]) (by kernel_rfl) (by simp) (AllReady.cons rfl (fun K hK => ?_) AllReady.nil)
                  rw [if_pos (by rfl)]
                  refine wp_put_blk (B75a.grown hg7' (by intro e; injection e with e; exact n67 e.symm)) [.int .i64 a0, .int .i64 a1, .int .i64 a2, .int .i64 a3, .int .i64 a4, .int .i64 a5, .int .i64 a6, .int .i64 a7] (by kernel_rfl) rfl (by intro v hv; simp at hv; rcases hv with rfl | rfl | rfl | rfl | rfl | rfl | rfl | rfl <;> rfl) rfl rfl rfl ?_
                  intro w8 hB78 hg8'
                  refine hK _ _ ?_
                  clear hK K
                  refine wpAny_ready (rs := [7]) (by kernel_rfl) (by simp) (AllReady.cons rfl (fun K hK => ?_) AllReady.nil)
                  rw [if_pos (by rfl)]
                  refine wp_set_blk1 ((B85a.grown hg7' (by intro e; injection e with e; exact n68 e.symm)).grown hg8' (by intro e; injection e with e; exact n78 e.symm)) 0 (.int .i64 0) (by kernel_rfl) (by simp) rfl rfl rfl rfl rfl ?_
                  intro w9 hB89 hg9
                  refine hK _ _ ?_
                  clear hK K
                  have z6 := (hB67.grown hg8' (by intro e; injection e with e; exact n67 e)).grown hg9 (by intro e; injection e with e; exact n68 e)
                  have z7 := hB78.grown hg9 (by intro e; injection e with e; exact n78 e)
                  have z8 : Blk w9 q8 51 [.int .i64 0] := hB89
                  have HG := Lib.hid (And.intro hg5 (And.intro hb6 (And.intro hg7' (And.intro hg8' hg9))))
                  refine wpAny_done (by kernel_rfl) ?_ _
                  go_wp2
                  refine leaves_cons (f := 77) (args := #[.pointer (some ⟨q6, 0, none⟩), .pointer (some ⟨q7, 0, none⟩), .pointer (some ⟨q8, 0, none⟩)]) (by simp) (by simp [go_sem]) ?_
                  refine (ucatch_idle ⟨q6, 0, none⟩ ⟨q7, 0, none⟩ ⟨q8, 0, none⟩ _).mono ?_
                  rintro e u' w'' ⟨rfl, rfl, rfl⟩
                  have e0 : w''.cell? ⟨q6, 0, none⟩ = some (.int .i64 k9) := (z6.cell 0).trans rfl
                  have e1 : w''.cell? ⟨q6, 1, none⟩ = some (.int .i64 c9) := (z6.cell 1).trans rfl
                  have e2 : w''.cell? ⟨q6, 2, none⟩ = some (.bool t9) := (z6.cell 2).trans rfl
                  have e3 : w''.cell? ⟨q6, 3, none⟩ = some (.int .i64 l9) := (z6.cell 3).trans rfl
                  have e4 : w''.cell? ⟨q6, 4, none⟩ = some (.slice A9 n9 p9) := (z6.cell 4).trans rfl
                  have f0 : w''.cell? ⟨q7, 0, none⟩ = some (.int .i64 a0) := (z7.cell 0).trans rfl
                  have f1 : w''.cell? ⟨q7, 1, none⟩ = some (.int .i64 a1) := (z7.cell 1).trans rfl
                  have f2 : w''.cell? ⟨q7, 2, none⟩ = some (.int .i64 a2) := (z7.cell 2).trans rfl
                  have f3 : w''.cell? ⟨q7, 3, none⟩ = some (.int .i64 a3) := (z7.cell 3).trans rfl
                  have f4 : w''.cell? ⟨q7, 4, none⟩ = some (.int .i64 a4) := (z7.cell 4).trans rfl
                  have f5 : w''.cell? ⟨q7, 5, none⟩ = some (.int .i64 a5) := (z7.cell 5).trans rfl
                  have f6 : w''.cell? ⟨q7, 6, none⟩ = some (.int .i64 a6) := (z7.cell 6).trans rfl
                  have f7 : w''.cell? ⟨q7, 7, none⟩ = some (.int .i64 a7) := (z7.cell 7).trans rfl
                  have f8 : w''.cell? ⟨q8, 0, none⟩ = some (.int .i64 0) := (z8.cell 0).trans rfl
                  simp [Leaves, settle, results, Tryd.results34, go_sem, e0, e1, e2, e3, e4, f0, f1, f2, f3, f4, f5, f6, f7, f8]
                  obtain ⟨h1, h2, hk4, hM4, hh4, hlo, hg6, -⟩ := HZ.out
                  obtain ⟨hg5, hb6, hg7', hg8', hg9⟩ := HG.out
                  obtain ⟨hst, hbw3, hs3, hin, hout, hgq⟩ := HH.out
                  obtain ⟨he, hf⟩ := hin (by rw [← hst, ← hM4]; exact_mod_cast h1)
                  have k3 : Below w3.heap.size w3 w3 := Below.refl _ _
                  have hb5 : Below w.heap.size w4 w5 := below_of_grown hg5 (by have := hk4.size; omega) (by omega)
                  have hb7 : Below w.heap.size w6 w7 := below_of_grown hg7' (by have := hk4.size; have := hg5.size; have := hb6.size; omega) (by omega)
                  have hb8 : Below w.heap.size w7 w8 := below_of_grown hg8' (by have := hk4.size; have := hg5.size; have := hb6.size; have := hg7'.size; omega) (by omega)
                  have hb9 : Below w.heap.size w8 w'' := below_of_grown hg9 (by have := hk4.size; have := hg5.size; have := hb6.size; have := hg7'.size; have := hg8'.size; omega) (by omega)
                  have hws := hbw3.size
                  have hb4 : Below w.heap.size w3 w4 := hk4.below (by omega) (fun i hi => by have := HB.out.1.size; omega)
                  have hb6' : Below w.heap.size w5 w6 := hb6.mono (by have := hk4.size; have := hg5.size; omega)
                  refine ⟨tcells k9 c9 t9 l9 A9 n9 p9, ?_, ?_, hbw3.trans (hb4.trans (hb5.trans (hb6'.trans (hb7.trans (hb8.trans hb9)))))⟩
                  · rw [he, hf, ← hst, ← hM4, hh4]
                    rfl
                  · rw [Un.term_of.2 he]
                    have hs34 := hk4.size
                    have s5 := hg5.size
                    have d4 : KN w3.heap.size w5 _ (Ks.of (Un.go p [b0, b1, b2, b3, b4, b5, b6, b7]).1) := h2.grown hg5 (by omega)
                    have d6 := d4.below hb6
                    have d7 := d6.grown hg7' (by omega)
                    have d8 := d7.grown hg8' (by omega)
                    have d9 := d8.grown hg9 (by omega)
                    exact d9.low (by omega)
              · rw [if_pos (by rfl)]
                refine wp_put_blk z5a [.int .i64 k9, .int .i64 c9, .bool t9, .int .i64 l9, .slice A9 n9 p9] (by kernel_rfl) rfl (by intro v hv; simp at hv; rcases hv with rfl | rfl | rfl | rfl | rfl <;> rfl) rfl rfl rfl ?_
                intro w7 hB67 hg7'
                refine hK _ _ ?_
                clear hK K
                have bl7a := bl5a.grown hg7' (by intro e; injection e with e; exact hg6 e.symm)
                refine wpAny_ready (rs := [4]) (by kernel_rfl) (by simp) ?_
                refine AllReady.cons rfl (fun K hK => ?_) AllReady.nil
                · have f0 : w7.cell? ⟨g, 0, none⟩ = some (.int .i64 a0) := (bl7a.cell 0).trans rfl
                  have f1 : w7.cell? ⟨g, 1, none⟩ = some (.int .i64 a1) := (bl7a.cell 1).trans rfl
                  have f2 : w7.cell? ⟨g, 2, none⟩ = some (.int .i64 a2) := (bl7a.cell 2).trans rfl
                  have f3 : w7.cell? ⟨g, 3, none⟩ = some (.int .i64 a3) := (bl7a.cell 3).trans rfl
                  have f4 : w7.cell? ⟨g, 4, none⟩ = some (.int .i64 a4) := (bl7a.cell 4).trans rfl
                  have f5 : w7.cell? ⟨g, 5, none⟩ = some (.int .i64 a5) := (bl7a.cell 5).trans rfl
                  have f6 : w7.cell? ⟨g, 6, none⟩ = some (.int .i64 a6) := (bl7a.cell 6).trans rfl
                  have f7 : w7.cell? ⟨g, 7, none⟩ = some (.int .i64 a7) := (bl7a.cell 7).trans rfl
                  go_simp
                  refine hK _ _ ?_
                  clear hK K
                  clear f0 f1 f2 f3 f4 f5 f6 f7
                  refine wpAny_ready (rs := [6]) (by kernel_rfl) (by simp) (AllReady.cons rfl (fun K hK => ?_) AllReady.nil)
                  rw [if_pos (by rfl)]
                  refine wp_put_blk (B75a.grown hg7' (by intro e; injection e with e; exact n67 e.symm)) [.int .i64 a0, .int .i64 a1, .int .i64 a2, .int .i64 a3, .int .i64 a4, .int .i64 a5, .int .i64 a6, .int .i64 a7] (by kernel_rfl) rfl (by intro v hv; simp at hv; rcases hv with rfl | rfl | rfl | rfl | rfl | rfl | rfl | rfl <;> rfl) rfl rfl rfl ?_
                  intro w8 hB78 hg8'
                  refine hK _ _ ?_
                  clear hK K
                  refine wpAny_ready (rs := [7]) (by kernel_rfl) (by simp) (AllReady.cons rfl (fun K hK => ?_) AllReady.nil)
                  rw [if_pos (by rfl)]
                  refine wp_set_blk1 ((B85a.grown hg7' (by intro e; injection e with e; exact n68 e.symm)).grown hg8' (by intro e; injection e with e; exact n78 e.symm)) 0 (.int .i64 0) (by kernel_rfl) (by simp) rfl rfl rfl rfl rfl ?_
                  intro w9 hB89 hg9
                  refine hK _ _ ?_
                  clear hK K
                  have z6 := (hB67.grown hg8' (by intro e; injection e with e; exact n67 e)).grown hg9 (by intro e; injection e with e; exact n68 e)
                  have z7 := hB78.grown hg9 (by intro e; injection e with e; exact n78 e)
                  have z8 : Blk w9 q8 51 [.int .i64 0] := hB89
                  have HG := Lib.hid (And.intro hg5 (And.intro hb6 (And.intro hg7' (And.intro hg8' hg9))))
                  refine wpAny_done (by kernel_rfl) ?_ _
                  go_wp2
                  refine leaves_cons (f := 77) (args := #[.pointer (some ⟨q6, 0, none⟩), .pointer (some ⟨q7, 0, none⟩), .pointer (some ⟨q8, 0, none⟩)]) (by simp) (by simp [go_sem]) ?_
                  refine (ucatch_idle ⟨q6, 0, none⟩ ⟨q7, 0, none⟩ ⟨q8, 0, none⟩ _).mono ?_
                  rintro e u' w'' ⟨rfl, rfl, rfl⟩
                  have e0 : w''.cell? ⟨q6, 0, none⟩ = some (.int .i64 k9) := (z6.cell 0).trans rfl
                  have e1 : w''.cell? ⟨q6, 1, none⟩ = some (.int .i64 c9) := (z6.cell 1).trans rfl
                  have e2 : w''.cell? ⟨q6, 2, none⟩ = some (.bool t9) := (z6.cell 2).trans rfl
                  have e3 : w''.cell? ⟨q6, 3, none⟩ = some (.int .i64 l9) := (z6.cell 3).trans rfl
                  have e4 : w''.cell? ⟨q6, 4, none⟩ = some (.slice A9 n9 p9) := (z6.cell 4).trans rfl
                  have f0 : w''.cell? ⟨q7, 0, none⟩ = some (.int .i64 a0) := (z7.cell 0).trans rfl
                  have f1 : w''.cell? ⟨q7, 1, none⟩ = some (.int .i64 a1) := (z7.cell 1).trans rfl
                  have f2 : w''.cell? ⟨q7, 2, none⟩ = some (.int .i64 a2) := (z7.cell 2).trans rfl
                  have f3 : w''.cell? ⟨q7, 3, none⟩ = some (.int .i64 a3) := (z7.cell 3).trans rfl
                  have f4 : w''.cell? ⟨q7, 4, none⟩ = some (.int .i64 a4) := (z7.cell 4).trans rfl
                  have f5 : w''.cell? ⟨q7, 5, none⟩ = some (.int .i64 a5) := (z7.cell 5).trans rfl
                  have f6 : w''.cell? ⟨q7, 6, none⟩ = some (.int .i64 a6) := (z7.cell 6).trans rfl
                  have f7 : w''.cell? ⟨q7, 7, none⟩ = some (.int .i64 a7) := (z7.cell 7).trans rfl
                  have f8 : w''.cell? ⟨q8, 0, none⟩ = some (.int .i64 0) := (z8.cell 0).trans rfl
                  simp [Leaves, settle, results, Tryd.results34, go_sem, e0, e1, e2, e3, e4, f0, f1, f2, f3, f4, f5, f6, f7, f8]
                  obtain ⟨h1, h2, hk4, hM4, hh4, hlo, hg6, -⟩ := HZ.out
                  obtain ⟨hg5, hb6, hg7', hg8', hg9⟩ := HG.out
                  obtain ⟨hst, hbw3, hs3, hin, hout, hgq⟩ := HH.out
                  obtain ⟨he, hf⟩ := hin (by rw [← hst, ← hM4]; exact_mod_cast h1)
                  have k3 : Below w3.heap.size w3 w3 := Below.refl _ _
                  have hb5 : Below w.heap.size w4 w5 := below_of_grown hg5 (by have := hk4.size; omega) (by omega)
                  have hb7 : Below w.heap.size w6 w7 := below_of_grown hg7' (by have := hk4.size; have := hg5.size; have := hb6.size; omega) (by omega)
                  have hb8 : Below w.heap.size w7 w8 := below_of_grown hg8' (by have := hk4.size; have := hg5.size; have := hb6.size; have := hg7'.size; omega) (by omega)
                  have hb9 : Below w.heap.size w8 w'' := below_of_grown hg9 (by have := hk4.size; have := hg5.size; have := hb6.size; have := hg7'.size; have := hg8'.size; omega) (by omega)
                  have hws := hbw3.size
                  have hb4 : Below w.heap.size w3 w4 := hk4.below (by omega) (fun i hi => by have := HB.out.1.size; omega)
                  have hb6' : Below w.heap.size w5 w6 := hb6.mono (by have := hk4.size; have := hg5.size; omega)
                  refine ⟨tcells k9 c9 t9 l9 A9 n9 p9, ?_, ?_, hbw3.trans (hb4.trans (hb5.trans (hb6'.trans (hb7.trans (hb8.trans hb9)))))⟩
                  · rw [he, hf, ← hst, ← hM4, hh4]
                    rfl
                  · rw [Un.term_of.2 he]
                    have hs34 := hk4.size
                    have s5 := hg5.size
                    have d4 : KN w3.heap.size w5 _ (Ks.of (Un.go p [b0, b1, b2, b3, b4, b5, b6, b7]).1) := h2.grown hg5 (by omega)
                    have d6 := d4.below hb6
                    have d7 := d6.grown hg7' (by omega)
                    have d8 := d7.grown hg8' (by omega)
                    have d9 := d8.grown hg9 (by omega)
                    exact d9.low (by omega)
            · rw [if_pos (by rfl)]
              refine wp_put_blk z5a [.int .i64 k9, .int .i64 c9, .bool t9, .int .i64 l9, .slice A9 n9 p9] (by kernel_rfl) rfl (by intro v hv; simp at hv; rcases hv with rfl | rfl | rfl | rfl | rfl <;> rfl) rfl rfl rfl ?_
              intro w7 hB67 hg7'
              refine hK _ _ ?_
              clear hK K
              have bl7a := bl5a.grown hg7' (by intro e; injection e with e; exact hg6 e.symm)
              refine wpAny_ready (rs := [3]) (by kernel_rfl) (by simp) ?_
              refine AllReady.cons rfl (fun K hK => ?_) AllReady.nil
              · go_simp
                refine hK _ _ ?_
                clear hK K
                refine wpAny_ready (rs := [4]) (by kernel_rfl) (by simp) ?_
                refine AllReady.cons rfl (fun K hK => ?_) AllReady.nil
                · have f0 : w7.cell? ⟨g, 0, none⟩ = some (.int .i64 a0) := (bl7a.cell 0).trans rfl
                  have f1 : w7.cell? ⟨g, 1, none⟩ = some (.int .i64 a1) := (bl7a.cell 1).trans rfl
                  have f2 : w7.cell? ⟨g, 2, none⟩ = some (.int .i64 a2) := (bl7a.cell 2).trans rfl
                  have f3 : w7.cell? ⟨g, 3, none⟩ = some (.int .i64 a3) := (bl7a.cell 3).trans rfl
                  have f4 : w7.cell? ⟨g, 4, none⟩ = some (.int .i64 a4) := (bl7a.cell 4).trans rfl
                  have f5 : w7.cell? ⟨g, 5, none⟩ = some (.int .i64 a5) := (bl7a.cell 5).trans rfl
                  have f6 : w7.cell? ⟨g, 6, none⟩ = some (.int .i64 a6) := (bl7a.cell 6).trans rfl
                  have f7 : w7.cell? ⟨g, 7, none⟩ = some (.int .i64 a7) := (bl7a.cell 7).trans rfl
                  go_simp
                  refine hK _ _ ?_
                  clear hK K
                  clear f0 f1 f2 f3 f4 f5 f6 f7
                  refine wpAny_ready (rs := [6]) (by kernel_rfl) (by simp) (AllReady.cons rfl (fun K hK => ?_) AllReady.nil)
                  rw [if_pos (by rfl)]
                  refine wp_put_blk (B75a.grown hg7' (by intro e; injection e with e; exact n67 e.symm)) [.int .i64 a0, .int .i64 a1, .int .i64 a2, .int .i64 a3, .int .i64 a4, .int .i64 a5, .int .i64 a6, .int .i64 a7] (by kernel_rfl) rfl (by intro v hv; simp at hv; rcases hv with rfl | rfl | rfl | rfl | rfl | rfl | rfl | rfl <;> rfl) rfl rfl rfl ?_
                  intro w8 hB78 hg8'
                  refine hK _ _ ?_
                  clear hK K
                  refine wpAny_ready (rs := [7]) (by kernel_rfl) (by simp) (AllReady.cons rfl (fun K hK => ?_) AllReady.nil)
                  rw [if_pos (by rfl)]
                  refine wp_set_blk1 ((B85a.grown hg7' (by intro e; injection e with e; exact n68 e.symm)).grown hg8' (by intro e; injection e with e; exact n78 e.symm)) 0 (.int .i64 0) (by kernel_rfl) (by simp) rfl rfl rfl rfl rfl ?_
                  intro w9 hB89 hg9
                  refine hK _ _ ?_
                  clear hK K
                  have z6 := (hB67.grown hg8' (by intro e; injection e with e; exact n67 e)).grown hg9 (by intro e; injection e with e; exact n68 e)
                  have z7 := hB78.grown hg9 (by intro e; injection e with e; exact n78 e)
                  have z8 : Blk w9 q8 51 [.int .i64 0] := hB89
                  have HG := Lib.hid (And.intro hg5 (And.intro hb6 (And.intro hg7' (And.intro hg8' hg9))))
                  refine wpAny_done (by kernel_rfl) ?_ _
                  go_wp2
                  refine leaves_cons (f := 77) (args := #[.pointer (some ⟨q6, 0, none⟩), .pointer (some ⟨q7, 0, none⟩), .pointer (some ⟨q8, 0, none⟩)]) (by simp) (by simp [go_sem]) ?_
                  refine (ucatch_idle ⟨q6, 0, none⟩ ⟨q7, 0, none⟩ ⟨q8, 0, none⟩ _).mono ?_
                  rintro e u' w'' ⟨rfl, rfl, rfl⟩
                  have e0 : w''.cell? ⟨q6, 0, none⟩ = some (.int .i64 k9) := (z6.cell 0).trans rfl
                  have e1 : w''.cell? ⟨q6, 1, none⟩ = some (.int .i64 c9) := (z6.cell 1).trans rfl
                  have e2 : w''.cell? ⟨q6, 2, none⟩ = some (.bool t9) := (z6.cell 2).trans rfl
                  have e3 : w''.cell? ⟨q6, 3, none⟩ = some (.int .i64 l9) := (z6.cell 3).trans rfl
                  have e4 : w''.cell? ⟨q6, 4, none⟩ = some (.slice A9 n9 p9) := (z6.cell 4).trans rfl
                  have f0 : w''.cell? ⟨q7, 0, none⟩ = some (.int .i64 a0) := (z7.cell 0).trans rfl
                  have f1 : w''.cell? ⟨q7, 1, none⟩ = some (.int .i64 a1) := (z7.cell 1).trans rfl
                  have f2 : w''.cell? ⟨q7, 2, none⟩ = some (.int .i64 a2) := (z7.cell 2).trans rfl
                  have f3 : w''.cell? ⟨q7, 3, none⟩ = some (.int .i64 a3) := (z7.cell 3).trans rfl
                  have f4 : w''.cell? ⟨q7, 4, none⟩ = some (.int .i64 a4) := (z7.cell 4).trans rfl
                  have f5 : w''.cell? ⟨q7, 5, none⟩ = some (.int .i64 a5) := (z7.cell 5).trans rfl
                  have f6 : w''.cell? ⟨q7, 6, none⟩ = some (.int .i64 a6) := (z7.cell 6).trans rfl
                  have f7 : w''.cell? ⟨q7, 7, none⟩ = some (.int .i64 a7) := (z7.cell 7).trans rfl
                  have f8 : w''.cell? ⟨q8, 0, none⟩ = some (.int .i64 0) := (z8.cell 0).trans rfl
                  simp [Leaves, settle, results, Tryd.results34, go_sem, e0, e1, e2, e3, e4, f0, f1, f2, f3, f4, f5, f6, f7, f8]
                  obtain ⟨h1, h2, hk4, hM4, hh4, hlo, hg6, -⟩ := HZ.out
                  obtain ⟨hg5, hb6, hg7', hg8', hg9⟩ := HG.out
                  obtain ⟨hst, hbw3, hs3, hin, hout, hgq⟩ := HH.out
                  obtain ⟨he, hf⟩ := hin (by rw [← hst, ← hM4]; exact_mod_cast h1)
                  have k3 : Below w3.heap.size w3 w3 := Below.refl _ _
                  have hb5 : Below w.heap.size w4 w5 := below_of_grown hg5 (by have := hk4.size; omega) (by omega)
                  have hb7 : Below w.heap.size w6 w7 := below_of_grown hg7' (by have := hk4.size; have := hg5.size; have := hb6.size; omega) (by omega)
                  have hb8 : Below w.heap.size w7 w8 := below_of_grown hg8' (by have := hk4.size; have := hg5.size; have := hb6.size; have := hg7'.size; omega) (by omega)
                  have hb9 : Below w.heap.size w8 w'' := below_of_grown hg9 (by have := hk4.size; have := hg5.size; have := hb6.size; have := hg7'.size; have := hg8'.size; omega) (by omega)
                  have hws := hbw3.size
                  have hb4 : Below w.heap.size w3 w4 := hk4.below (by omega) (fun i hi => by have := HB.out.1.size; omega)
                  have hb6' : Below w.heap.size w5 w6 := hb6.mono (by have := hk4.size; have := hg5.size; omega)
                  refine ⟨tcells k9 c9 t9 l9 A9 n9 p9, ?_, ?_, hbw3.trans (hb4.trans (hb5.trans (hb6'.trans (hb7.trans (hb8.trans hb9)))))⟩
                  · rw [he, hf, ← hst, ← hM4, hh4]
                    rfl
                  · rw [Un.term_of.2 he]
                    have hs34 := hk4.size
                    have s5 := hg5.size
                    have d4 : KN w3.heap.size w5 _ (Ks.of (Un.go p [b0, b1, b2, b3, b4, b5, b6, b7]).1) := h2.grown hg5 (by omega)
                    have d6 := d4.below hb6
                    have d7 := d6.grown hg7' (by omega)
                    have d8 := d7.grown hg8' (by omega)
                    have d9 := d8.grown hg9 (by omega)
                    exact d9.low (by omega)
          · go_simp
            refine hK _ _ ?_
            clear hK K
            refine wpAny_ready (rs := [0, 4]) (by kernel_rfl) (by simp) ?_
            refine AllReady.cons rfl (fun K hK => ?_) (AllReady.cons rfl (fun K hK => ?_) AllReady.nil)
            · have e0 : w6.cell? ⟨q6, 0, none⟩ = some (.int .i64 k9) := (z5a.cell 0).trans rfl
              have e1 : w6.cell? ⟨q6, 1, none⟩ = some (.int .i64 c9) := (z5a.cell 1).trans rfl
              have e2 : w6.cell? ⟨q6, 2, none⟩ = some (.bool t9) := (z5a.cell 2).trans rfl
              have e3 : w6.cell? ⟨q6, 3, none⟩ = some (.int .i64 l9) := (z5a.cell 3).trans rfl
              have e4 : w6.cell? ⟨q6, 4, none⟩ = some (.slice A9 n9 p9) := (z5a.cell 4).trans rfl
              go_simp
              refine hK _ _ ?_
              clear hK K
              clear e0 e1 e2 e3 e4
              refine wpAny_ready (rs := [4, 5]) (by kernel_rfl) (by simp) ?_
              refine AllReady.cons rfl (fun K hK => ?_) (AllReady.cons rfl (fun K hK => ?_) AllReady.nil)
              · have f0 : w6.cell? ⟨g, 0, none⟩ = some (.int .i64 a0) := (bl5a.cell 0).trans rfl
                have f1 : w6.cell? ⟨g, 1, none⟩ = some (.int .i64 a1) := (bl5a.cell 1).trans rfl
                have f2 : w6.cell? ⟨g, 2, none⟩ = some (.int .i64 a2) := (bl5a.cell 2).trans rfl
                have f3 : w6.cell? ⟨g, 3, none⟩ = some (.int .i64 a3) := (bl5a.cell 3).trans rfl
                have f4 : w6.cell? ⟨g, 4, none⟩ = some (.int .i64 a4) := (bl5a.cell 4).trans rfl
                have f5 : w6.cell? ⟨g, 5, none⟩ = some (.int .i64 a5) := (bl5a.cell 5).trans rfl
                have f6 : w6.cell? ⟨g, 6, none⟩ = some (.int .i64 a6) := (bl5a.cell 6).trans rfl
                have f7 : w6.cell? ⟨g, 7, none⟩ = some (.int .i64 a7) := (bl5a.cell 7).trans rfl
                go_simp
                refine hK _ _ ?_
                clear hK K
                clear f0 f1 f2 f3 f4 f5 f6 f7
                refine wpAny_ready (rs := [5]) (by kernel_rfl) (by simp) ?_
                refine AllReady.cons rfl (fun K hK => ?_) AllReady.nil
                · rw [if_pos (by rfl)]
                  refine wp_put_blk z5a [.int .i64 k9, .int .i64 c9, .bool t9, .int .i64 l9, .slice A9 n9 p9] (by kernel_rfl) rfl (by intro v hv; simp at hv; rcases hv with rfl | rfl | rfl | rfl | rfl <;> rfl) rfl rfl rfl ?_
                  intro w7 hB67 hg7'
                  refine hK _ _ ?_
                  clear hK K
                  have bl7a := bl5a.grown hg7' (by intro e; injection e with e; exact hg6 e.symm)
                  refine wpAny_ready (rs := [6]) (by kernel_rfl) (by simp) (AllReady.cons rfl (fun K hK => ?_) AllReady.nil)
                  rw [if_pos (by rfl)]
                  refine wp_put_blk (B75a.grown hg7' (by intro e; injection e with e; exact n67 e.symm)) [.int .i64 a0, .int .i64 a1, .int .i64 a2, .int .i64 a3, .int .i64 a4, .int .i64 a5, .int .i64 a6, .int .i64 a7] (by kernel_rfl) rfl (by intro v hv; simp at hv; rcases hv with rfl | rfl | rfl | rfl | rfl | rfl | rfl | rfl <;> rfl) rfl rfl rfl ?_
                  intro w8 hB78 hg8'
                  refine hK _ _ ?_
                  clear hK K
                  refine wpAny_ready (rs := [7]) (by kernel_rfl) (by simp) (AllReady.cons rfl (fun K hK => ?_) AllReady.nil)
                  rw [if_pos (by rfl)]
                  refine wp_set_blk1 ((B85a.grown hg7' (by intro e; injection e with e; exact n68 e.symm)).grown hg8' (by intro e; injection e with e; exact n78 e.symm)) 0 (.int .i64 0) (by kernel_rfl) (by simp) rfl rfl rfl rfl rfl ?_
                  intro w9 hB89 hg9
                  refine hK _ _ ?_
                  clear hK K
                  have z6 := (hB67.grown hg8' (by intro e; injection e with e; exact n67 e)).grown hg9 (by intro e; injection e with e; exact n68 e)
                  have z7 := hB78.grown hg9 (by intro e; injection e with e; exact n78 e)
                  have z8 : Blk w9 q8 51 [.int .i64 0] := hB89
                  have HG := Lib.hid (And.intro hg5 (And.intro hb6 (And.intro hg7' (And.intro hg8' hg9))))
                  refine wpAny_done (by kernel_rfl) ?_ _
                  go_wp2
                  refine leaves_cons (f := 77) (args := #[.pointer (some ⟨q6, 0, none⟩), .pointer (some ⟨q7, 0, none⟩), .pointer (some ⟨q8, 0, none⟩)]) (by simp) (by simp [go_sem]) ?_
                  refine (ucatch_idle ⟨q6, 0, none⟩ ⟨q7, 0, none⟩ ⟨q8, 0, none⟩ _).mono ?_
                  rintro e u' w'' ⟨rfl, rfl, rfl⟩
                  have e0 : w''.cell? ⟨q6, 0, none⟩ = some (.int .i64 k9) := (z6.cell 0).trans rfl
                  have e1 : w''.cell? ⟨q6, 1, none⟩ = some (.int .i64 c9) := (z6.cell 1).trans rfl
                  have e2 : w''.cell? ⟨q6, 2, none⟩ = some (.bool t9) := (z6.cell 2).trans rfl
                  have e3 : w''.cell? ⟨q6, 3, none⟩ = some (.int .i64 l9) := (z6.cell 3).trans rfl
                  have e4 : w''.cell? ⟨q6, 4, none⟩ = some (.slice A9 n9 p9) := (z6.cell 4).trans rfl
                  have f0 : w''.cell? ⟨q7, 0, none⟩ = some (.int .i64 a0) := (z7.cell 0).trans rfl
                  have f1 : w''.cell? ⟨q7, 1, none⟩ = some (.int .i64 a1) := (z7.cell 1).trans rfl
                  have f2 : w''.cell? ⟨q7, 2, none⟩ = some (.int .i64 a2) := (z7.cell 2).trans rfl
                  have f3 : w''.cell? ⟨q7, 3, none⟩ = some (.int .i64 a3) := (z7.cell 3).trans rfl
                  have f4 : w''.cell? ⟨q7, 4, none⟩ = some (.int .i64 a4) := (z7.cell 4).trans rfl
                  have f5 : w''.cell? ⟨q7, 5, none⟩ = some (.int .i64 a5) := (z7.cell 5).trans rfl
                  have f6 : w''.cell? ⟨q7, 6, none⟩ = some (.int .i64 a6) := (z7.cell 6).trans rfl
                  have f7 : w''.cell? ⟨q7, 7, none⟩ = some (.int .i64 a7) := (z7.cell 7).trans rfl
                  have f8 : w''.cell? ⟨q8, 0, none⟩ = some (.int .i64 0) := (z8.cell 0).trans rfl
                  simp [Leaves, settle, results, Tryd.results34, go_sem, e0, e1, e2, e3, e4, f0, f1, f2, f3, f4, f5, f6, f7, f8]
                  obtain ⟨h1, h2, hk4, hM4, hh4, hlo, hg6, -⟩ := HZ.out
                  obtain ⟨hg5, hb6, hg7', hg8', hg9⟩ := HG.out
                  obtain ⟨hst, hbw3, hs3, hin, hout, hgq⟩ := HH.out
                  obtain ⟨he, hf⟩ := hin (by rw [← hst, ← hM4]; exact_mod_cast h1)
                  have k3 : Below w3.heap.size w3 w3 := Below.refl _ _
                  have hb5 : Below w.heap.size w4 w5 := below_of_grown hg5 (by have := hk4.size; omega) (by omega)
                  have hb7 : Below w.heap.size w6 w7 := below_of_grown hg7' (by have := hk4.size; have := hg5.size; have := hb6.size; omega) (by omega)
                  have hb8 : Below w.heap.size w7 w8 := below_of_grown hg8' (by have := hk4.size; have := hg5.size; have := hb6.size; have := hg7'.size; omega) (by omega)
                  have hb9 : Below w.heap.size w8 w'' := below_of_grown hg9 (by have := hk4.size; have := hg5.size; have := hb6.size; have := hg7'.size; have := hg8'.size; omega) (by omega)
                  have hws := hbw3.size
                  have hb4 : Below w.heap.size w3 w4 := hk4.below (by omega) (fun i hi => by have := HB.out.1.size; omega)
                  have hb6' : Below w.heap.size w5 w6 := hb6.mono (by have := hk4.size; have := hg5.size; omega)
                  refine ⟨tcells k9 c9 t9 l9 A9 n9 p9, ?_, ?_, hbw3.trans (hb4.trans (hb5.trans (hb6'.trans (hb7.trans (hb8.trans hb9)))))⟩
                  · rw [he, hf, ← hst, ← hM4, hh4]
                    rfl
                  · rw [Un.term_of.2 he]
                    have hs34 := hk4.size
                    have s5 := hg5.size
                    have d4 : KN w3.heap.size w5 _ (Ks.of (Un.go p [b0, b1, b2, b3, b4, b5, b6, b7]).1) := h2.grown hg5 (by omega)
                    have d6 := d4.below hb6
                    have d7 := d6.grown hg7' (by omega)
                    have d8 := d7.grown hg8' (by omega)
                    have d9 := d8.grown hg9 (by omega)
                    exact d9.low (by omega)
              · rw [if_pos (by rfl)]
                refine wp_put_blk z5a [.int .i64 k9, .int .i64 c9, .bool t9, .int .i64 l9, .slice A9 n9 p9] (by kernel_rfl) rfl (by intro v hv; simp at hv; rcases hv with rfl | rfl | rfl | rfl | rfl <;> rfl) rfl rfl rfl ?_
                intro w7 hB67 hg7'
                refine hK _ _ ?_
                clear hK K
                have bl7a := bl5a.grown hg7' (by intro e; injection e with e; exact hg6 e.symm)
                refine wpAny_ready (rs := [4]) (by kernel_rfl) (by simp) ?_
                refine AllReady.cons rfl (fun K hK => ?_) AllReady.nil
                · have f0 : w7.cell? ⟨g, 0, none⟩ = some (.int .i64 a0) := (bl7a.cell 0).trans rfl
                  have f1 : w7.cell? ⟨g, 1, none⟩ = some (.int .i64 a1) := (bl7a.cell 1).trans rfl
                  have f2 : w7.cell? ⟨g, 2, none⟩ = some (.int .i64 a2) := (bl7a.cell 2).trans rfl
                  have f3 : w7.cell? ⟨g, 3, none⟩ = some (.int .i64 a3) := (bl7a.cell 3).trans rfl
                  have f4 : w7.cell? ⟨g, 4, none⟩ = some (.int .i64 a4) := (bl7a.cell 4).trans rfl
                  have f5 : w7.cell? ⟨g, 5, none⟩ = some (.int .i64 a5) := (bl7a.cell 5).trans rfl
                  have f6 : w7.cell? ⟨g, 6, none⟩ = some (.int .i64 a6) := (bl7a.cell 6).trans rfl
                  have f7 : w7.cell? ⟨g, 7, none⟩ = some (.int .i64 a7) := (bl7a.cell 7).trans rfl
                  go_simp
                  refine hK _ _ ?_
                  clear hK K
                  clear f0 f1 f2 f3 f4 f5 f6 f7
                  refine wpAny_ready (rs := [6]) (by kernel_rfl) (by simp) (AllReady.cons rfl (fun K hK => ?_) AllReady.nil)
                  rw [if_pos (by rfl)]
                  refine wp_put_blk (B75a.grown hg7' (by intro e; injection e with e; exact n67 e.symm)) [.int .i64 a0, .int .i64 a1, .int .i64 a2, .int .i64 a3, .int .i64 a4, .int .i64 a5, .int .i64 a6, .int .i64 a7] (by kernel_rfl) rfl (by intro v hv; simp at hv; rcases hv with rfl | rfl | rfl | rfl | rfl | rfl | rfl | rfl <;> rfl) rfl rfl rfl ?_
                  intro w8 hB78 hg8'
                  refine hK _ _ ?_
                  clear hK K
                  refine wpAny_ready (rs := [7]) (by kernel_rfl) (by simp) (AllReady.cons rfl (fun K hK => ?_) AllReady.nil)
                  rw [if_pos (by rfl)]
                  refine wp_set_blk1 ((B85a.grown hg7' (by intro e; injection e with e; exact n68 e.symm)).grown hg8' (by intro e; injection e with e; exact n78 e.symm)) 0 (.int .i64 0) (by kernel_rfl) (by simp) rfl rfl rfl rfl rfl ?_
                  intro w9 hB89 hg9
                  refine hK _ _ ?_
                  clear hK K
                  have z6 := (hB67.grown hg8' (by intro e; injection e with e; exact n67 e)).grown hg9 (by intro e; injection e with e; exact n68 e)
                  have z7 := hB78.grown hg9 (by intro e; injection e with e; exact n78 e)
                  have z8 : Blk w9 q8 51 [.int .i64 0] := hB89
                  have HG := Lib.hid (And.intro hg5 (And.intro hb6 (And.intro hg7' (And.intro hg8' hg9))))
                  refine wpAny_done (by kernel_rfl) ?_ _
                  go_wp2
                  refine leaves_cons (f := 77) (args := #[.pointer (some ⟨q6, 0, none⟩), .pointer (some ⟨q7, 0, none⟩), .pointer (some ⟨q8, 0, none⟩)]) (by simp) (by simp [go_sem]) ?_
                  refine (ucatch_idle ⟨q6, 0, none⟩ ⟨q7, 0, none⟩ ⟨q8, 0, none⟩ _).mono ?_
                  rintro e u' w'' ⟨rfl, rfl, rfl⟩
                  have e0 : w''.cell? ⟨q6, 0, none⟩ = some (.int .i64 k9) := (z6.cell 0).trans rfl
                  have e1 : w''.cell? ⟨q6, 1, none⟩ = some (.int .i64 c9) := (z6.cell 1).trans rfl
                  have e2 : w''.cell? ⟨q6, 2, none⟩ = some (.bool t9) := (z6.cell 2).trans rfl
                  have e3 : w''.cell? ⟨q6, 3, none⟩ = some (.int .i64 l9) := (z6.cell 3).trans rfl
                  have e4 : w''.cell? ⟨q6, 4, none⟩ = some (.slice A9 n9 p9) := (z6.cell 4).trans rfl
                  have f0 : w''.cell? ⟨q7, 0, none⟩ = some (.int .i64 a0) := (z7.cell 0).trans rfl
                  have f1 : w''.cell? ⟨q7, 1, none⟩ = some (.int .i64 a1) := (z7.cell 1).trans rfl
                  have f2 : w''.cell? ⟨q7, 2, none⟩ = some (.int .i64 a2) := (z7.cell 2).trans rfl
                  have f3 : w''.cell? ⟨q7, 3, none⟩ = some (.int .i64 a3) := (z7.cell 3).trans rfl
                  have f4 : w''.cell? ⟨q7, 4, none⟩ = some (.int .i64 a4) := (z7.cell 4).trans rfl
                  have f5 : w''.cell? ⟨q7, 5, none⟩ = some (.int .i64 a5) := (z7.cell 5).trans rfl
                  have f6 : w''.cell? ⟨q7, 6, none⟩ = some (.int .i64 a6) := (z7.cell 6).trans rfl
                  have f7 : w''.cell? ⟨q7, 7, none⟩ = some (.int .i64 a7) := (z7.cell 7).trans rfl
                  have f8 : w''.cell? ⟨q8, 0, none⟩ = some (.int .i64 0) := (z8.cell 0).trans rfl
                  simp [Leaves, settle, results, Tryd.results34, go_sem, e0, e1, e2, e3, e4, f0, f1, f2, f3, f4, f5, f6, f7, f8]
                  obtain ⟨h1, h2, hk4, hM4, hh4, hlo, hg6, -⟩ := HZ.out
                  obtain ⟨hg5, hb6, hg7', hg8', hg9⟩ := HG.out
                  obtain ⟨hst, hbw3, hs3, hin, hout, hgq⟩ := HH.out
                  obtain ⟨he, hf⟩ := hin (by rw [← hst, ← hM4]; exact_mod_cast h1)
                  have k3 : Below w3.heap.size w3 w3 := Below.refl _ _
                  have hb5 : Below w.heap.size w4 w5 := below_of_grown hg5 (by have := hk4.size; omega) (by omega)
                  have hb7 : Below w.heap.size w6 w7 := below_of_grown hg7' (by have := hk4.size; have := hg5.size; have := hb6.size; omega) (by omega)
                  have hb8 : Below w.heap.size w7 w8 := below_of_grown hg8' (by have := hk4.size; have := hg5.size; have := hb6.size; have := hg7'.size; omega) (by omega)
                  have hb9 : Below w.heap.size w8 w'' := below_of_grown hg9 (by have := hk4.size; have := hg5.size; have := hb6.size; have := hg7'.size; have := hg8'.size; omega) (by omega)
                  have hws := hbw3.size
                  have hb4 : Below w.heap.size w3 w4 := hk4.below (by omega) (fun i hi => by have := HB.out.1.size; omega)
                  have hb6' : Below w.heap.size w5 w6 := hb6.mono (by have := hk4.size; have := hg5.size; omega)
                  refine ⟨tcells k9 c9 t9 l9 A9 n9 p9, ?_, ?_, hbw3.trans (hb4.trans (hb5.trans (hb6'.trans (hb7.trans (hb8.trans hb9)))))⟩
                  · rw [he, hf, ← hst, ← hM4, hh4]
                    rfl
                  · rw [Un.term_of.2 he]
                    have hs34 := hk4.size
                    have s5 := hg5.size
                    have d4 : KN w3.heap.size w5 _ (Ks.of (Un.go p [b0, b1, b2, b3, b4, b5, b6, b7]).1) := h2.grown hg5 (by omega)
                    have d6 := d4.below hb6
                    have d7 := d6.grown hg7' (by omega)
                    have d8 := d7.grown hg8' (by omega)
                    have d9 := d8.grown hg9 (by omega)
                    exact d9.low (by omega)
            · have f0 : w6.cell? ⟨g, 0, none⟩ = some (.int .i64 a0) := (bl5a.cell 0).trans rfl
              have f1 : w6.cell? ⟨g, 1, none⟩ = some (.int .i64 a1) := (bl5a.cell 1).trans rfl
              have f2 : w6.cell? ⟨g, 2, none⟩ = some (.int .i64 a2) := (bl5a.cell 2).trans rfl
              have f3 : w6.cell? ⟨g, 3, none⟩ = some (.int .i64 a3) := (bl5a.cell 3).trans rfl
              have f4 : w6.cell? ⟨g, 4, none⟩ = some (.int .i64 a4) := (bl5a.cell 4).trans rfl
              have f5 : w6.cell? ⟨g, 5, none⟩ = some (.int .i64 a5) := (bl5a.cell 5).trans rfl
              have f6 : w6.cell? ⟨g, 6, none⟩ = some (.int .i64 a6) := (bl5a.cell 6).trans rfl
              have f7 : w6.cell? ⟨g, 7, none⟩ = some (.int .i64 a7) := (bl5a.cell 7).trans rfl
              go_simp
              refine hK _ _ ?_
              clear hK K
              clear f0 f1 f2 f3 f4 f5 f6 f7
              refine wpAny_ready (rs := [0]) (by kernel_rfl) (by simp) ?_
              refine AllReady.cons rfl (fun K hK => ?_) AllReady.nil
              · have e0 : w6.cell? ⟨q6, 0, none⟩ = some (.int .i64 k9) := (z5a.cell 0).trans rfl
                have e1 : w6.cell? ⟨q6, 1, none⟩ = some (.int .i64 c9) := (z5a.cell 1).trans rfl
                have e2 : w6.cell? ⟨q6, 2, none⟩ = some (.bool t9) := (z5a.cell 2).trans rfl
                have e3 : w6.cell? ⟨q6, 3, none⟩ = some (.int .i64 l9) := (z5a.cell 3).trans rfl
                have e4 : w6.cell? ⟨q6, 4, none⟩ = some (.slice A9 n9 p9) := (z5a.cell 4).trans rfl
                go_simp
                refine hK _ _ ?_
                clear hK K
                clear e0 e1 e2 e3 e4
                refine wpAny_ready (rs := [5]) (by kernel_rfl) (by simp) ?_
                refine AllReady.cons rfl (fun K hK => ?_) AllReady.nil
                · rw [if_pos (by rfl)]
                  refine wp_put_blk z5a [.int .i64 k9, .int .i64 c9, .bool t9, .int .i64 l9, .slice A9 n9 p9] (by kernel_rfl) rfl (by intro v hv; simp at hv; rcases hv with rfl | rfl | rfl | rfl | rfl <;> rfl) rfl rfl rfl ?_
                  intro w7 hB67 hg7'
                  refine hK _ _ ?_
                  clear hK K
                  have bl7a := bl5a.grown hg7' (by intro e; injection e with e; exact hg6 e.symm)
                  refine wpAny_ready (rs := [6]) (by kernel_rfl) (by simp) (AllReady.cons rfl (fun K hK => ?_) AllReady.nil)
                  rw [if_pos (by rfl)]
                  refine wp_put_blk (B75a.grown hg7' (by intro e; injection e with e; exact n67 e.symm)) [.int .i64 a0, .int .i64 a1, .int .i64 a2, .int .i64 a3, .int .i64 a4, .int .i64 a5, .int .i64 a6, .int .i64 a7] (by kernel_rfl) rfl (by intro v hv; simp at hv; rcases hv with rfl | rfl | rfl | rfl | rfl | rfl | rfl | rfl <;> rfl) rfl rfl rfl ?_
                  intro w8 hB78 hg8'
                  refine hK _ _ ?_
                  clear hK K
                  refine wpAny_ready (rs := [7]) (by kernel_rfl) (by simp) (AllReady.cons rfl (fun K hK => ?_) AllReady.nil)
                  rw [if_pos (by rfl)]
                  refine wp_set_blk1 ((B85a.grown hg7' (by intro e; injection e with e; exact n68 e.symm)).grown hg8' (by intro e; injection e with e; exact n78 e.symm)) 0 (.int .i64 0) (by kernel_rfl) (by simp) rfl rfl rfl rfl rfl ?_
                  intro w9 hB89 hg9
                  refine hK _ _ ?_
                  clear hK K
                  have z6 := (hB67.grown hg8' (by intro e; injection e with e; exact n67 e)).grown hg9 (by intro e; injection e with e; exact n68 e)
                  have z7 := hB78.grown hg9 (by intro e; injection e with e; exact n78 e)
                  have z8 : Blk w9 q8 51 [.int .i64 0] := hB89
                  have HG := Lib.hid (And.intro hg5 (And.intro hb6 (And.intro hg7' (And.intro hg8' hg9))))
                  refine wpAny_done (by kernel_rfl) ?_ _
                  go_wp2
                  refine leaves_cons (f := 77) (args := #[.pointer (some ⟨q6, 0, none⟩), .pointer (some ⟨q7, 0, none⟩), .pointer (some ⟨q8, 0, none⟩)]) (by simp) (by simp [go_sem]) ?_
                  refine (ucatch_idle ⟨q6, 0, none⟩ ⟨q7, 0, none⟩ ⟨q8, 0, none⟩ _).mono ?_
                  rintro e u' w'' ⟨rfl, rfl, rfl⟩
                  have e0 : w''.cell? ⟨q6, 0, none⟩ = some (.int .i64 k9) := (z6.cell 0).trans rfl
                  have e1 : w''.cell? ⟨q6, 1, none⟩ = some (.int .i64 c9) := (z6.cell 1).trans rfl
                  have e2 : w''.cell? ⟨q6, 2, none⟩ = some (.bool t9) := (z6.cell 2).trans rfl
                  have e3 : w''.cell? ⟨q6, 3, none⟩ = some (.int .i64 l9) := (z6.cell 3).trans rfl
                  have e4 : w''.cell? ⟨q6, 4, none⟩ = some (.slice A9 n9 p9) := (z6.cell 4).trans rfl
                  have f0 : w''.cell? ⟨q7, 0, none⟩ = some (.int .i64 a0) := (z7.cell 0).trans rfl
                  have f1 : w''.cell? ⟨q7, 1, none⟩ = some (.int .i64 a1) := (z7.cell 1).trans rfl
                  have f2 : w''.cell? ⟨q7, 2, none⟩ = some (.int .i64 a2) := (z7.cell 2).trans rfl
                  have f3 : w''.cell? ⟨q7, 3, none⟩ = some (.int .i64 a3) := (z7.cell 3).trans rfl
                  have f4 : w''.cell? ⟨q7, 4, none⟩ = some (.int .i64 a4) := (z7.cell 4).trans rfl
                  have f5 : w''.cell? ⟨q7, 5, none⟩ = some (.int .i64 a5) := (z7.cell 5).trans rfl
                  have f6 : w''.cell? ⟨q7, 6, none⟩ = some (.int .i64 a6) := (z7.cell 6).trans rfl
                  have f7 : w''.cell? ⟨q7, 7, none⟩ = some (.int .i64 a7) := (z7.cell 7).trans rfl
                  have f8 : w''.cell? ⟨q8, 0, none⟩ = some (.int .i64 0) := (z8.cell 0).trans rfl
                  simp [Leaves, settle, results, Tryd.results34, go_sem, e0, e1, e2, e3, e4, f0, f1, f2, f3, f4, f5, f6, f7, f8]
                  obtain ⟨h1, h2, hk4, hM4, hh4, hlo, hg6, -⟩ := HZ.out
                  obtain ⟨hg5, hb6, hg7', hg8', hg9⟩ := HG.out
                  obtain ⟨hst, hbw3, hs3, hin, hout, hgq⟩ := HH.out
                  obtain ⟨he, hf⟩ := hin (by rw [← hst, ← hM4]; exact_mod_cast h1)
                  have k3 : Below w3.heap.size w3 w3 := Below.refl _ _
                  have hb5 : Below w.heap.size w4 w5 := below_of_grown hg5 (by have := hk4.size; omega) (by omega)
                  have hb7 : Below w.heap.size w6 w7 := below_of_grown hg7' (by have := hk4.size; have := hg5.size; have := hb6.size; omega) (by omega)
                  have hb8 : Below w.heap.size w7 w8 := below_of_grown hg8' (by have := hk4.size; have := hg5.size; have := hb6.size; have := hg7'.size; omega) (by omega)
                  have hb9 : Below w.heap.size w8 w'' := below_of_grown hg9 (by have := hk4.size; have := hg5.size; have := hb6.size; have := hg7'.size; have := hg8'.size; omega) (by omega)
                  have hws := hbw3.size
                  have hb4 : Below w.heap.size w3 w4 := hk4.below (by omega) (fun i hi => by have := HB.out.1.size; omega)
                  have hb6' : Below w.heap.size w5 w6 := hb6.mono (by have := hk4.size; have := hg5.size; omega)
                  refine ⟨tcells k9 c9 t9 l9 A9 n9 p9, ?_, ?_, hbw3.trans (hb4.trans (hb5.trans (hb6'.trans (hb7.trans (hb8.trans hb9)))))⟩
                  · rw [he, hf, ← hst, ← hM4, hh4]
                    rfl
                  · rw [Un.term_of.2 he]
                    have hs34 := hk4.size
                    have s5 := hg5.size
                    have d4 : KN w3.heap.size w5 _ (Ks.of (Un.go p [b0, b1, b2, b3, b4, b5, b6, b7]).1) := h2.grown hg5 (by omega)
                    have d6 := d4.below hb6
                    have d7 := d6.grown hg7' (by omega)
                    have d8 := d7.grown hg8' (by omega)
                    have d9 := d8.grown hg9 (by omega)
                    exact d9.low (by omega)
      -- END1
    · have B6 := Y1.keeps hk4 hg6
      have B7 := Y2.keeps hk4 hg7
      have B8 := Y3.keeps hk4 hg8
      clear hblk Y1 Y2 Y3
      go_wp2
      refine leaves_cons (f := 77) (args := #[.pointer (some ⟨q6, 0, none⟩), .pointer (some ⟨q7, 0, none⟩), .pointer (some ⟨q8, 0, none⟩)]) (by simp) (by simp [go_sem]) ?_
      refine (ucatch_spent q6 q7 q8 _ _ _ _ B6 B7 B8 rfl rfl n67 n68 n78).mono ?_
      rintro e u' w5 ⟨rfl, rfl, z6, z7, z8, k5⟩
      unfold zterm at z6
      unfold zheap at z7
      have e0 : w5.cell? ⟨q6, 0, none⟩ = some (.int .i64 0) := (z6.cell 0).trans rfl
      have e1 : w5.cell? ⟨q6, 1, none⟩ = some (.int .i64 0) := (z6.cell 1).trans rfl
      have e2 : w5.cell? ⟨q6, 2, none⟩ = some (.bool false) := (z6.cell 2).trans rfl
      have e3 : w5.cell? ⟨q6, 3, none⟩ = some (.int .i64 0) := (z6.cell 3).trans rfl
      have e4 : w5.cell? ⟨q6, 4, none⟩ = some (.slice none 0 0) := (z6.cell 4).trans rfl
      have f0 : w5.cell? ⟨q7, 0, none⟩ = some (.int .i64 0) := (z7.cell 0).trans rfl
      have f1 : w5.cell? ⟨q7, 1, none⟩ = some (.int .i64 0) := (z7.cell 1).trans rfl
      have f2 : w5.cell? ⟨q7, 2, none⟩ = some (.int .i64 0) := (z7.cell 2).trans rfl
      have f3 : w5.cell? ⟨q7, 3, none⟩ = some (.int .i64 0) := (z7.cell 3).trans rfl
      have f4 : w5.cell? ⟨q7, 4, none⟩ = some (.int .i64 0) := (z7.cell 4).trans rfl
      have f5 : w5.cell? ⟨q7, 5, none⟩ = some (.int .i64 0) := (z7.cell 5).trans rfl
      have f6 : w5.cell? ⟨q7, 6, none⟩ = some (.int .i64 0) := (z7.cell 6).trans rfl
      have f7 : w5.cell? ⟨q7, 7, none⟩ = some (.int .i64 0) := (z7.cell 7).trans rfl
      have f8 : w5.cell? ⟨q8, 0, none⟩ = some (.int .i64 5) := (z8.cell 0).trans rfl
      unfold spentU'
      simp [Leaves, settle, results, Tryd.results34, go_sem, e0, e1, e2, e3, e4, f0, f1, f2, f3, f4, f5, f6, f7, f8]
      obtain ⟨hst, hbw3, hs3, hin, hout, hgq⟩ := HH.out
      obtain ⟨he, hf⟩ := hout (by rw [← hst]; exact_mod_cast h1)
      have hs34 := hk4.size
      have hws := hbw3.size
      have hb4 : Below w.heap.size w3 w4 := hk4.below (by omega) (fun i hi => by have := HB.out.1.size; omega)
      have hb5 : Below w.heap.size w4 w5 := k5.below (by omega) (fun i hi => by have := HQ.out; omega)
      refine ⟨zterm, by rw [he, hf]; rfl, ?_, hbw3.trans (hb4.trans hb5)⟩
      rw [Un.term_of.1 (by rw [he]; decide)]
      exact KN.zero _ _
  · have hne : (E0 != 0) = true := by simpa using h0
    go_wp2_with fail
    refine wp_region_any (by kernel_rfl) ?_
    change wpAny _ _ _ _ _ _ _ (World.drew _)
    have hb6 : Below w1.heap.size w1 w1.drew := below_drew (Below.refl _ _)
    have z5a := X1.drew
    have B75a := X2.drew
    have B85a := X3.drew
    generalize w1.drew = w6 at hb6 z5a B75a B85a ⊢
    -- ORDERS2
    refine wpAny_ready (rs := [0, 1, 2]) (by kernel_rfl) (by simp) ?_
    refine AllReady.cons rfl (fun K hK => ?_) (AllReady.cons rfl (fun K hK => ?_) (AllReady.cons rfl (fun K hK => ?_) AllReady.nil))
    · have e0 : w6.cell? ⟨q6, 0, none⟩ = some (.int .i64 0) := (z5a.cell 0).trans rfl
      have e1 : w6.cell? ⟨q6, 1, none⟩ = some (.int .i64 0) := (z5a.cell 1).trans rfl
      have e2 : w6.cell? ⟨q6, 2, none⟩ = some (.bool false) := (z5a.cell 2).trans rfl
      have e3 : w6.cell? ⟨q6, 3, none⟩ = some (.int .i64 0) := (z5a.cell 3).trans rfl
      have e4 : w6.cell? ⟨q6, 4, none⟩ = some (.slice none 0 0) := (z5a.cell 4).trans rfl
      go_simp
      refine hK _ _ ?_
      clear hK K
      clear e0 e1 e2 e3 e4
      refine wpAny_ready (rs := [1, 2, 3]) (by kernel_rfl) (by simp) ?_
      refine AllReady.cons rfl (fun K hK => ?_) (AllReady.cons rfl (fun K hK => ?_) (AllReady.cons rfl (fun K hK => ?_) AllReady.nil))
      · have f0 : w6.cell? ⟨q7, 0, none⟩ = some (.int .i64 0) := (B75a.cell 0).trans rfl
        have f1 : w6.cell? ⟨q7, 1, none⟩ = some (.int .i64 0) := (B75a.cell 1).trans rfl
        have f2 : w6.cell? ⟨q7, 2, none⟩ = some (.int .i64 0) := (B75a.cell 2).trans rfl
        have f3 : w6.cell? ⟨q7, 3, none⟩ = some (.int .i64 0) := (B75a.cell 3).trans rfl
        have f4 : w6.cell? ⟨q7, 4, none⟩ = some (.int .i64 0) := (B75a.cell 4).trans rfl
        have f5 : w6.cell? ⟨q7, 5, none⟩ = some (.int .i64 0) := (B75a.cell 5).trans rfl
        have f6 : w6.cell? ⟨q7, 6, none⟩ = some (.int .i64 0) := (B75a.cell 6).trans rfl
        have f7 : w6.cell? ⟨q7, 7, none⟩ = some (.int .i64 0) := (B75a.cell 7).trans rfl
        go_simp
        refine hK _ _ ?_
        clear hK K
        clear f0 f1 f2 f3 f4 f5 f6 f7
        refine wpAny_ready (rs := [2, 3]) (by kernel_rfl) (by simp) ?_
        refine AllReady.cons rfl (fun K hK => ?_) (AllReady.cons rfl (fun K hK => ?_) AllReady.nil)
        · go_simp
          refine hK _ _ ?_
          clear hK K
          refine wpAny_ready (rs := [3]) (by kernel_rfl) (by simp) ?_
          refine AllReady.cons rfl (fun K hK => ?_) AllReady.nil
          · rw [if_pos (by rfl)]
            refine wp_put_blk z5a [.int .i64 0, .int .i64 0, .bool false, .int .i64 0, .slice none 0 0] (by kernel_rfl) rfl (by intro v hv; simp at hv; rcases hv with rfl | rfl | rfl | rfl <;> rfl) rfl rfl rfl ?_
            intro w7 hB67 hg7'
            refine hK _ _ ?_
            clear hK K
            have B75b := B75a.grown hg7' (by intro e; injection e with e; exact n67 e.symm)
            refine wpAny_ready (rs := [4]) (by kernel_rfl) (by simp) ?_
            refine AllReady.cons rfl (fun K hK => ?_) AllReady.nil
            · rw [if_pos (by rfl)]
              refine wp_put_blk (B75a.grown hg7' (by intro e; injection e with e; exact n67 e.symm)) [.int .i64 0, .int .i64 0, .int .i64 0, .int .i64 0, .int .i64 0, .int .i64 0, .int .i64 0, .int .i64 0] (by kernel_rfl) rfl (by intro v hv; simp at hv; subst hv; rfl) rfl rfl rfl ?_
              intro w8 hB78 hg8'
              refine hK _ _ ?_
              clear hK K
              refine wpAny_ready (rs := [5]) (by kernel_rfl) (by simp) (AllReady.cons rfl (fun K hK => ?_) AllReady.nil)
              rw [if_pos (by rfl)]
              refine wp_set_blk1 ((B85a.grown hg7' (by intro e; injection e with e; exact n68 e.symm)).grown hg8' (by intro e; injection e with e; exact n78 e.symm)) 0 (.int .i64 E0) (by kernel_rfl) (by simp) rfl rfl rfl rfl rfl ?_
              intro w9 hB89 hg9
              refine hK _ _ ?_
              clear hK K
              have z6 := (hB67.grown hg8' (by intro e; injection e with e; exact n67 e)).grown hg9 (by intro e; injection e with e; exact n68 e)
              have z7 := hB78.grown hg9 (by intro e; injection e with e; exact n78 e)
              have z8 : Blk w9 q8 51 [.int .i64 E0] := hB89
              have HG := Lib.hid (And.intro hb6 (And.intro hg7' (And.intro hg8' hg9)))
              refine wpAny_done (by kernel_rfl) ?_ _
              go_wp2
              have e0 : w9.cell? ⟨q6, 0, none⟩ = some (.int .i64 0) := (z6.cell 0).trans rfl
              have e1 : w9.cell? ⟨q6, 1, none⟩ = some (.int .i64 0) := (z6.cell 1).trans rfl
              have e2 : w9.cell? ⟨q6, 2, none⟩ = some (.bool false) := (z6.cell 2).trans rfl
              have e3 : w9.cell? ⟨q6, 3, none⟩ = some (.int .i64 0) := (z6.cell 3).trans rfl
              have e4 : w9.cell? ⟨q6, 4, none⟩ = some (.slice none 0 0) := (z6.cell 4).trans rfl
              have f0 : w9.cell? ⟨q7, 0, none⟩ = some (.int .i64 0) := (z7.cell 0).trans rfl
              have f1 : w9.cell? ⟨q7, 1, none⟩ = some (.int .i64 0) := (z7.cell 1).trans rfl
              have f2 : w9.cell? ⟨q7, 2, none⟩ = some (.int .i64 0) := (z7.cell 2).trans rfl
              have f3 : w9.cell? ⟨q7, 3, none⟩ = some (.int .i64 0) := (z7.cell 3).trans rfl
              have f4 : w9.cell? ⟨q7, 4, none⟩ = some (.int .i64 0) := (z7.cell 4).trans rfl
              have f5 : w9.cell? ⟨q7, 5, none⟩ = some (.int .i64 0) := (z7.cell 5).trans rfl
              have f6 : w9.cell? ⟨q7, 6, none⟩ = some (.int .i64 0) := (z7.cell 6).trans rfl
              have f7 : w9.cell? ⟨q7, 7, none⟩ = some (.int .i64 0) := (z7.cell 7).trans rfl
              have f8 : w9.cell? ⟨q8, 0, none⟩ = some (.int .i64 E0) := (z8.cell 0).trans rfl
              simp [bodyPostD, Leaves, settle, results, Tryd.results34, go_sem, e0, e1, e2, e3, e4, f0, f1, f2, f3, f4, f5, f6, f7, f8]
              obtain ⟨hb6, hg7', hg8', hg9⟩ := HG.out
              have hlo : w.heap.size ≤ q6 ∧ w.heap.size ≤ q7 ∧ w.heap.size ≤ q8 := by have := HQ.out; omega
              have hbw6 := below_next hb6 HB.out.1
              have hb7 : Below w.heap.size w6 w7 := below_of_grown hg7' hbw6.size (by omega)
              have hbw7 := hbw6.trans hb7
              have hb8 : Below w.heap.size w7 w8 := below_of_grown hg8' hbw7.size (by omega)
              have hbw8 := hbw7.trans hb8
              have hb9 : Below w.heap.size w8 w9 := below_of_grown hg9 hbw8.size (by omega)
              obtain ⟨he, hf⟩ := (Sr.err_of hE.out).1 h0
              refine ⟨zterm, by rw [he, hf]; rfl, ?_, hbw8.trans hb9⟩
              rw [Un.term_of.1 (by rw [he]; exact h0)]
              exact KN.zero _ _
        · rw [if_pos (by rfl)]
          refine wp_put_blk z5a [.int .i64 0, .int .i64 0, .bool false, .int .i64 0, .slice none 0 0] (by kernel_rfl) rfl (by intro v hv; simp at hv; rcases hv with rfl | rfl | rfl | rfl <;> rfl) rfl rfl rfl ?_
          intro w7 hB67 hg7'
          refine hK _ _ ?_
          clear hK K
          have B75b := B75a.grown hg7' (by intro e; injection e with e; exact n67 e.symm)
          refine wpAny_ready (rs := [2, 4]) (by kernel_rfl) (by simp) ?_
          refine AllReady.cons rfl (fun K hK => ?_) (AllReady.cons rfl (fun K hK => ?_) AllReady.nil)
          · go_simp
            refine hK _ _ ?_
            clear hK K
            refine wpAny_ready (rs := [4]) (by kernel_rfl) (by simp) ?_
            refine AllReady.cons rfl (fun K hK => ?_) AllReady.nil
            · rw [if_pos (by rfl)]
              refine wp_put_blk (B75a.grown hg7' (by intro e; injection e with e; exact n67 e.symm)) [.int .i64 0, .int .i64 0, .int .i64 0, .int .i64 0, .int .i64 0, .int .i64 0, .int .i64 0, .int .i64 0] (by kernel_rfl) rfl (by intro v hv; simp at hv; subst hv; rfl) rfl rfl rfl ?_
              intro w8 hB78 hg8'
              refine hK _ _ ?_
              clear hK K
              refine wpAny_ready (rs := [5]) (by kernel_rfl) (by simp) (AllReady.cons rfl (fun K hK => ?_) AllReady.nil)
              rw [if_pos (by rfl)]
              refine wp_set_blk1 ((B85a.grown hg7' (by intro e; injection e with e; exact n68 e.symm)).grown hg8' (by intro e; injection e with e; exact n78 e.symm)) 0 (.int .i64 E0) (by kernel_rfl) (by simp) rfl rfl rfl rfl rfl ?_
              intro w9 hB89 hg9
              refine hK _ _ ?_
              clear hK K
              have z6 := (hB67.grown hg8' (by intro e; injection e with e; exact n67 e)).grown hg9 (by intro e; injection e with e; exact n68 e)
              have z7 := hB78.grown hg9 (by intro e; injection e with e; exact n78 e)
              have z8 : Blk w9 q8 51 [.int .i64 E0] := hB89
              have HG := Lib.hid (And.intro hb6 (And.intro hg7' (And.intro hg8' hg9)))
              refine wpAny_done (by kernel_rfl) ?_ _
              go_wp2
              have e0 : w9.cell? ⟨q6, 0, none⟩ = some (.int .i64 0) := (z6.cell 0).trans rfl
              have e1 : w9.cell? ⟨q6, 1, none⟩ = some (.int .i64 0) := (z6.cell 1).trans rfl
              have e2 : w9.cell? ⟨q6, 2, none⟩ = some (.bool false) := (z6.cell 2).trans rfl
              have e3 : w9.cell? ⟨q6, 3, none⟩ = some (.int .i64 0) := (z6.cell 3).trans rfl
              have e4 : w9.cell? ⟨q6, 4, none⟩ = some (.slice none 0 0) := (z6.cell 4).trans rfl
              have f0 : w9.cell? ⟨q7, 0, none⟩ = some (.int .i64 0) := (z7.cell 0).trans rfl
              have f1 : w9.cell? ⟨q7, 1, none⟩ = some (.int .i64 0) := (z7.cell 1).trans rfl
              have f2 : w9.cell? ⟨q7, 2, none⟩ = some (.int .i64 0) := (z7.cell 2).trans rfl
              have f3 : w9.cell? ⟨q7, 3, none⟩ = some (.int .i64 0) := (z7.cell 3).trans rfl
              have f4 : w9.cell? ⟨q7, 4, none⟩ = some (.int .i64 0) := (z7.cell 4).trans rfl
              have f5 : w9.cell? ⟨q7, 5, none⟩ = some (.int .i64 0) := (z7.cell 5).trans rfl
              have f6 : w9.cell? ⟨q7, 6, none⟩ = some (.int .i64 0) := (z7.cell 6).trans rfl
              have f7 : w9.cell? ⟨q7, 7, none⟩ = some (.int .i64 0) := (z7.cell 7).trans rfl
              have f8 : w9.cell? ⟨q8, 0, none⟩ = some (.int .i64 E0) := (z8.cell 0).trans rfl
              simp [bodyPostD, Leaves, settle, results, Tryd.results34, go_sem, e0, e1, e2, e3, e4, f0, f1, f2, f3, f4, f5, f6, f7, f8]
              obtain ⟨hb6, hg7', hg8', hg9⟩ := HG.out
              have hlo : w.heap.size ≤ q6 ∧ w.heap.size ≤ q7 ∧ w.heap.size ≤ q8 := by have := HQ.out; omega
              have hbw6 := below_next hb6 HB.out.1
              have hb7 : Below w.heap.size w6 w7 := below_of_grown hg7' hbw6.size (by omega)
              have hbw7 := hbw6.trans hb7
              have hb8 : Below w.heap.size w7 w8 := below_of_grown hg8' hbw7.size (by omega)
              have hbw8 := hbw7.trans hb8
              have hb9 : Below w.heap.size w8 w9 := below_of_grown hg9 hbw8.size (by omega)
              obtain ⟨he, hf⟩ := (Sr.err_of hE.out).1 h0
              refine ⟨zterm, by rw [he, hf]; rfl, ?_, hbw8.trans hb9⟩
              rw [Un.term_of.1 (by rw [he]; exact h0)]
              exact KN.zero _ _
          · rw [if_pos (by rfl)]
            refine wp_put_blk (B75a.grown hg7' (by intro e; injection e with e; exact n67 e.symm)) [.int .i64 0, .int .i64 0, .int .i64 0, .int .i64 0, .int .i64 0, .int .i64 0, .int .i64 0, .int .i64 0] (by kernel_rfl) rfl (by intro v hv; simp at hv; subst hv; rfl) rfl rfl rfl ?_
            intro w8 hB78 hg8'
            refine hK _ _ ?_
            clear hK K
            refine wpAny_ready (rs := [2]) (by kernel_rfl) (by simp) ?_
            refine AllReady.cons rfl (fun K hK => ?_) AllReady.nil
            · go_simp
              refine hK _ _ ?_
              clear hK K
              refine wpAny_ready (rs := [5]) (by kernel_rfl) (by simp) (AllReady.cons rfl (fun K hK => ?_) AllReady.nil)
              rw [if_pos (by rfl)]
              refine wp_set_blk1 ((B85a.grown hg7' (by intro e; injection e with e; exact n68 e.symm)).grown hg8' (by intro e; injection e with e; exact n78 e.symm)) 0 (.int .i64 E0) (by kernel_rfl) (by simp) rfl rfl rfl rfl rfl ?_
              intro w9 hB89 hg9
              refine hK _ _ ?_
              clear hK K
              have z6 := (hB67.grown hg8' (by intro e; injection e with e; exact n67 e)).grown hg9 (by intro e; injection e with e; exact n68 e)
              have z7 := hB78.grown hg9 (by intro e; injection e with e; exact n78 e)
              have z8 : Blk w9 q8 51 [.int .i64 E0] := hB89
              have HG := Lib.hid (And.intro hb6 (And.intro hg7' (And.intro hg8' hg9)))
              refine wpAny_done (by kernel_rfl) ?_ _
              go_wp2
              have e0 : w9.cell? ⟨q6, 0, none⟩ = some (.int .i64 0) := (z6.cell 0).trans rfl
              have e1 : w9.cell? ⟨q6, 1, none⟩ = some (.int .i64 0) := (z6.cell 1).trans rfl
              have e2 : w9.cell? ⟨q6, 2, none⟩ = some (.bool false) := (z6.cell 2).trans rfl
              have e3 : w9.cell? ⟨q6, 3, none⟩ = some (.int .i64 0) := (z6.cell 3).trans rfl
              have e4 : w9.cell? ⟨q6, 4, none⟩ = some (.slice none 0 0) := (z6.cell 4).trans rfl
              have f0 : w9.cell? ⟨q7, 0, none⟩ = some (.int .i64 0) := (z7.cell 0).trans rfl
              have f1 : w9.cell? ⟨q7, 1, none⟩ = some (.int .i64 0) := (z7.cell 1).trans rfl
              have f2 : w9.cell? ⟨q7, 2, none⟩ = some (.int .i64 0) := (z7.cell 2).trans rfl
              have f3 : w9.cell? ⟨q7, 3, none⟩ = some (.int .i64 0) := (z7.cell 3).trans rfl
              have f4 : w9.cell? ⟨q7, 4, none⟩ = some (.int .i64 0) := (z7.cell 4).trans rfl
              have f5 : w9.cell? ⟨q7, 5, none⟩ = some (.int .i64 0) := (z7.cell 5).trans rfl
              have f6 : w9.cell? ⟨q7, 6, none⟩ = some (.int .i64 0) := (z7.cell 6).trans rfl
              have f7 : w9.cell? ⟨q7, 7, none⟩ = some (.int .i64 0) := (z7.cell 7).trans rfl
              have f8 : w9.cell? ⟨q8, 0, none⟩ = some (.int .i64 E0) := (z8.cell 0).trans rfl
              simp [bodyPostD, Leaves, settle, results, Tryd.results34, go_sem, e0, e1, e2, e3, e4, f0, f1, f2, f3, f4, f5, f6, f7, f8]
              obtain ⟨hb6, hg7', hg8', hg9⟩ := HG.out
              have hlo : w.heap.size ≤ q6 ∧ w.heap.size ≤ q7 ∧ w.heap.size ≤ q8 := by have := HQ.out; omega
              have hbw6 := below_next hb6 HB.out.1
              have hb7 : Below w.heap.size w6 w7 := below_of_grown hg7' hbw6.size (by omega)
              have hbw7 := hbw6.trans hb7
              have hb8 : Below w.heap.size w7 w8 := below_of_grown hg8' hbw7.size (by omega)
              have hbw8 := hbw7.trans hb8
              have hb9 : Below w.heap.size w8 w9 := below_of_grown hg9 hbw8.size (by omega)
              obtain ⟨he, hf⟩ := (Sr.err_of hE.out).1 h0
              refine ⟨zterm, by rw [he, hf]; rfl, ?_, hbw8.trans hb9⟩
              rw [Un.term_of.1 (by rw [he]; exact h0)]
              exact KN.zero _ _
      · go_simp
        refine hK _ _ ?_
        clear hK K
        refine wpAny_ready (rs := [1, 3]) (by kernel_rfl) (by simp) ?_
        refine AllReady.cons rfl (fun K hK => ?_) (AllReady.cons rfl (fun K hK => ?_) AllReady.nil)
        · have f0 : w6.cell? ⟨q7, 0, none⟩ = some (.int .i64 0) := (B75a.cell 0).trans rfl
          have f1 : w6.cell? ⟨q7, 1, none⟩ = some (.int .i64 0) := (B75a.cell 1).trans rfl
          have f2 : w6.cell? ⟨q7, 2, none⟩ = some (.int .i64 0) := (B75a.cell 2).trans rfl
          have f3 : w6.cell? ⟨q7, 3, none⟩ = some (.int .i64 0) := (B75a.cell 3).trans rfl
          have f4 : w6.cell? ⟨q7, 4, none⟩ = some (.int .i64 0) := (B75a.cell 4).trans rfl
          have f5 : w6.cell? ⟨q7, 5, none⟩ = some (.int .i64 0) := (B75a.cell 5).trans rfl
          have f6 : w6.cell? ⟨q7, 6, none⟩ = some (.int .i64 0) := (B75a.cell 6).trans rfl
          have f7 : w6.cell? ⟨q7, 7, none⟩ = some (.int .i64 0) := (B75a.cell 7).trans rfl
          go_simp
          refine hK _ _ ?_
          clear hK K
          clear f0 f1 f2 f3 f4 f5 f6 f7
          refine wpAny_ready (rs := [3]) (by kernel_rfl) (by simp) ?_
          refine AllReady.cons rfl (fun K hK => ?_) AllReady.nil
          · rw [if_pos (by rfl)]
            refine wp_put_blk z5a [.int .i64 0, .int .i64 0, .bool false, .int .i64 0, .slice none 0 0] (by kernel_rfl) rfl (by intro v hv; simp at hv; rcases hv with rfl | rfl | rfl | rfl <;> rfl) rfl rfl rfl ?_
            intro w7 hB67 hg7'
            refine hK _ _ ?_
            clear hK K
            have B75b := B75a.grown hg7' (by intro e; injection e with e; exact n67 e.symm)
            refine wpAny_ready (rs := [4]) (by kernel_rfl) (by simp) ?_
            refine AllReady.cons rfl (fun K hK => ?_) AllReady.nil
            · rw [if_pos (by rfl)]
              refine wp_put_blk (B75a.grown hg7' (by intro e; injection e with e; exact n67 e.symm)) [.int .i64 0, .int .i64 0, .int .i64 0, .int .i64 0, .int .i64 0, .int .i64 0, .int .i64 0, .int .i64 0] (by kernel_rfl) rfl (by intro v hv; simp at hv; subst hv; rfl) rfl rfl rfl ?_
              intro w8 hB78 hg8'
              refine hK _ _ ?_
              clear hK K
              refine wpAny_ready (rs := [5]) (by kernel_rfl) (by simp) (AllReady.cons rfl (fun K hK => ?_) AllReady.nil)
              rw [if_pos (by rfl)]
              refine wp_set_blk1 ((B85a.grown hg7' (by intro e; injection e with e; exact n68 e.symm)).grown hg8' (by intro e; injection e with e; exact n78 e.symm)) 0 (.int .i64 E0) (by kernel_rfl) (by simp) rfl rfl rfl rfl rfl ?_
              intro w9 hB89 hg9
              refine hK _ _ ?_
              clear hK K
              have z6 := (hB67.grown hg8' (by intro e; injection e with e; exact n67 e)).grown hg9 (by intro e; injection e with e; exact n68 e)
              have z7 := hB78.grown hg9 (by intro e; injection e with e; exact n78 e)
              have z8 : Blk w9 q8 51 [.int .i64 E0] := hB89
              have HG := Lib.hid (And.intro hb6 (And.intro hg7' (And.intro hg8' hg9)))
              refine wpAny_done (by kernel_rfl) ?_ _
              go_wp2
              have e0 : w9.cell? ⟨q6, 0, none⟩ = some (.int .i64 0) := (z6.cell 0).trans rfl
              have e1 : w9.cell? ⟨q6, 1, none⟩ = some (.int .i64 0) := (z6.cell 1).trans rfl
              have e2 : w9.cell? ⟨q6, 2, none⟩ = some (.bool false) := (z6.cell 2).trans rfl
              have e3 : w9.cell? ⟨q6, 3, none⟩ = some (.int .i64 0) := (z6.cell 3).trans rfl
              have e4 : w9.cell? ⟨q6, 4, none⟩ = some (.slice none 0 0) := (z6.cell 4).trans rfl
              have f0 : w9.cell? ⟨q7, 0, none⟩ = some (.int .i64 0) := (z7.cell 0).trans rfl
              have f1 : w9.cell? ⟨q7, 1, none⟩ = some (.int .i64 0) := (z7.cell 1).trans rfl
              have f2 : w9.cell? ⟨q7, 2, none⟩ = some (.int .i64 0) := (z7.cell 2).trans rfl
              have f3 : w9.cell? ⟨q7, 3, none⟩ = some (.int .i64 0) := (z7.cell 3).trans rfl
              have f4 : w9.cell? ⟨q7, 4, none⟩ = some (.int .i64 0) := (z7.cell 4).trans rfl
              have f5 : w9.cell? ⟨q7, 5, none⟩ = some (.int .i64 0) := (z7.cell 5).trans rfl
              have f6 : w9.cell? ⟨q7, 6, none⟩ = some (.int .i64 0) := (z7.cell 6).trans rfl
              have f7 : w9.cell? ⟨q7, 7, none⟩ = some (.int .i64 0) := (z7.cell 7).trans rfl
              have f8 : w9.cell? ⟨q8, 0, none⟩ = some (.int .i64 E0) := (z8.cell 0).trans rfl
              simp [bodyPostD, Leaves, settle, results, Tryd.results34, go_sem, e0, e1, e2, e3, e4, f0, f1, f2, f3, f4, f5, f6, f7, f8]
              obtain ⟨hb6, hg7', hg8', hg9⟩ := HG.out
              have hlo : w.heap.size ≤ q6 ∧ w.heap.size ≤ q7 ∧ w.heap.size ≤ q8 := by have := HQ.out; omega
              have hbw6 := below_next hb6 HB.out.1
              have hb7 : Below w.heap.size w6 w7 := below_of_grown hg7' hbw6.size (by omega)
              have hbw7 := hbw6.trans hb7
              have hb8 : Below w.heap.size w7 w8 := below_of_grown hg8' hbw7.size (by omega)
              have hbw8 := hbw7.trans hb8
              have hb9 : Below w.heap.size w8 w9 := below_of_grown hg9 hbw8.size (by omega)
              obtain ⟨he, hf⟩ := (Sr.err_of hE.out).1 h0
              refine ⟨zterm, by rw [he, hf]; rfl, ?_, hbw8.trans hb9⟩
              rw [Un.term_of.1 (by rw [he]; exact h0)]
              exact KN.zero _ _
        · rw [if_pos (by rfl)]
          refine wp_put_blk z5a [.int .i64 0, .int .i64 0, .bool false, .int .i64 0, .slice none 0 0] (by kernel_rfl) rfl (by intro v hv; simp at hv; rcases hv with rfl | rfl | rfl | rfl <;> rfl) rfl rfl rfl ?_
          intro w7 hB67 hg7'
          refine hK _ _ ?_
          clear hK K
          have B75b := B75a.grown hg7' (by intro e; injection e with e; exact n67 e.symm)
          refine wpAny_ready (rs := [1]) (by kernel_rfl) (by simp) ?_
          refine AllReady.cons rfl (fun K hK => ?_) AllReady.nil
          · have f0 : w7.cell? ⟨q7, 0, none⟩ = some (.int .i64 0) := (B75b.cell 0).trans rfl
            have f1 : w7.cell? ⟨q7, 1, none⟩ = some (.int .i64 0) := (B75b.cell 1).trans rfl
            have f2 : w7.cell? ⟨q7, 2, none⟩ = some (.int .i64 0) := (B75b.cell 2).trans rfl
            have f3 : w7.cell? ⟨q7, 3, none⟩ = some (.int .i64 0) := (B75b.cell 3).trans rfl
            have f4 : w7.cell? ⟨q7, 4, none⟩ = some (.int .i64 0) := (B75b.cell 4).trans rfl
            have f5 : w7.cell? ⟨q7, 5, none⟩ = some (.int .i64 0) := (B75b.cell 5).trans rfl
            have f6 : w7.cell? ⟨q7, 6, none⟩ = some (.int .i64 0) := (B75b.cell 6).trans rfl
            have f7 : w7.cell? ⟨q7, 7, none⟩ = some (.int .i64 0) := (B75b.cell 7).trans rfl
            go_simp
            refine hK _ _ ?_
            clear hK K
            clear f0 f1 f2 f3 f4 f5 f6 f7
            refine wpAny_ready (rs := [4]) (by kernel_rfl) (by simp) ?_
            refine AllReady.cons rfl (fun K hK => ?_) AllReady.nil
            · rw [if_pos (by rfl)]
              refine wp_put_blk (B75a.grown hg7' (by intro e; injection e with e; exact n67 e.symm)) [.int .i64 0, .int .i64 0, .int .i64 0, .int .i64 0, .int .i64 0, .int .i64 0, .int .i64 0, .int .i64 0] (by kernel_rfl) rfl (by intro v hv; simp at hv; subst hv; rfl) rfl rfl rfl ?_
              intro w8 hB78 hg8'
              refine hK _ _ ?_
              clear hK K
              refine wpAny_ready (rs := [5]) (by kernel_rfl) (by simp) (AllReady.cons rfl (fun K hK => ?_) AllReady.nil)
              rw [if_pos (by rfl)]
              refine wp_set_blk1 ((B85a.grown hg7' (by intro e; injection e with e; exact n68 e.symm)).grown hg8' (by intro e; injection e with e; exact n78 e.symm)) 0 (.int .i64 E0) (by kernel_rfl) (by simp) rfl rfl rfl rfl rfl ?_
              intro w9 hB89 hg9
              refine hK _ _ ?_
              clear hK K
              have z6 := (hB67.grown hg8' (by intro e; injection e with e; exact n67 e)).grown hg9 (by intro e; injection e with e; exact n68 e)
              have z7 := hB78.grown hg9 (by intro e; injection e with e; exact n78 e)
              have z8 : Blk w9 q8 51 [.int .i64 E0] := hB89
              have HG := Lib.hid (And.intro hb6 (And.intro hg7' (And.intro hg8' hg9)))
              refine wpAny_done (by kernel_rfl) ?_ _
              go_wp2
              have e0 : w9.cell? ⟨q6, 0, none⟩ = some (.int .i64 0) := (z6.cell 0).trans rfl
              have e1 : w9.cell? ⟨q6, 1, none⟩ = some (.int .i64 0) := (z6.cell 1).trans rfl
              have e2 : w9.cell? ⟨q6, 2, none⟩ = some (.bool false) := (z6.cell 2).trans rfl
              have e3 : w9.cell? ⟨q6, 3, none⟩ = some (.int .i64 0) := (z6.cell 3).trans rfl
              have e4 : w9.cell? ⟨q6, 4, none⟩ = some (.slice none 0 0) := (z6.cell 4).trans rfl
              have f0 : w9.cell? ⟨q7, 0, none⟩ = some (.int .i64 0) := (z7.cell 0).trans rfl
              have f1 : w9.cell? ⟨q7, 1, none⟩ = some (.int .i64 0) := (z7.cell 1).trans rfl
              have f2 : w9.cell? ⟨q7, 2, none⟩ = some (.int .i64 0) := (z7.cell 2).trans rfl
              have f3 : w9.cell? ⟨q7, 3, none⟩ = some (.int .i64 0) := (z7.cell 3).trans rfl
              have f4 : w9.cell? ⟨q7, 4, none⟩ = some (.int .i64 0) := (z7.cell 4).trans rfl
              have f5 : w9.cell? ⟨q7, 5, none⟩ = some (.int .i64 0) := (z7.cell 5).trans rfl
              have f6 : w9.cell? ⟨q7, 6, none⟩ = some (.int .i64 0) := (z7.cell 6).trans rfl
              have f7 : w9.cell? ⟨q7, 7, none⟩ = some (.int .i64 0) := (z7.cell 7).trans rfl
              have f8 : w9.cell? ⟨q8, 0, none⟩ = some (.int .i64 E0) := (z8.cell 0).trans rfl
              simp [bodyPostD, Leaves, settle, results, Tryd.results34, go_sem, e0, e1, e2, e3, e4, f0, f1, f2, f3, f4, f5, f6, f7, f8]
              obtain ⟨hb6, hg7', hg8', hg9⟩ := HG.out
              have hlo : w.heap.size ≤ q6 ∧ w.heap.size ≤ q7 ∧ w.heap.size ≤ q8 := by have := HQ.out; omega
              have hbw6 := below_next hb6 HB.out.1
              have hb7 : Below w.heap.size w6 w7 := below_of_grown hg7' hbw6.size (by omega)
              have hbw7 := hbw6.trans hb7
              have hb8 : Below w.heap.size w7 w8 := below_of_grown hg8' hbw7.size (by omega)
              have hbw8 := hbw7.trans hb8
              have hb9 : Below w.heap.size w8 w9 := below_of_grown hg9 hbw8.size (by omega)
              obtain ⟨he, hf⟩ := (Sr.err_of hE.out).1 h0
              refine ⟨zterm, by rw [he, hf]; rfl, ?_, hbw8.trans hb9⟩
              rw [Un.term_of.1 (by rw [he]; exact h0)]
              exact KN.zero _ _
      · rw [if_pos (by rfl)]
        refine wp_put_blk z5a [.int .i64 0, .int .i64 0, .bool false, .int .i64 0, .slice none 0 0] (by kernel_rfl) rfl (by intro v hv; simp at hv; rcases hv with rfl | rfl | rfl | rfl <;> rfl) rfl rfl rfl ?_
        intro w7 hB67 hg7'
        refine hK _ _ ?_
        clear hK K
        have B75b := B75a.grown hg7' (by intro e; injection e with e; exact n67 e.symm)
        refine wpAny_ready (rs := [1, 2]) (by kernel_rfl) (by simp) ?_
        refine AllReady.cons rfl (fun K hK => ?_) (AllReady.cons rfl (fun K hK => ?_) AllReady.nil)
        · have f0 : w7.cell? ⟨q7, 0, none⟩ = some (.int .i64 0) := (B75b.cell 0).trans rfl
          have f1 : w7.cell? ⟨q7, 1, none⟩ = some (.int .i64 0) := (B75b.cell 1).trans rfl
          have f2 : w7.cell? ⟨q7, 2, none⟩ = some (.int .i64 0) := (B75b.cell 2).trans rfl
          have f3 : w7.cell? ⟨q7, 3, none⟩ = some (.int .i64 0) := (B75b.cell 3).trans rfl
          have f4 : w7.cell? ⟨q7, 4, none⟩ = some (.int .i64 0) := (B75b.cell 4).trans rfl
          have f5 : w7.cell? ⟨q7, 5, none⟩ = some (.int .i64 0) := (B75b.cell 5).trans rfl
          have f6 : w7.cell? ⟨q7, 6, none⟩ = some (.int .i64 0) := (B75b.cell 6).trans rfl
          have f7 : w7.cell? ⟨q7, 7, none⟩ = some (.int .i64 0) := (B75b.cell 7).trans rfl
          go_simp
          refine hK _ _ ?_
          clear hK K
          clear f0 f1 f2 f3 f4 f5 f6 f7
          refine wpAny_ready (rs := [2, 4]) (by kernel_rfl) (by simp) ?_
          refine AllReady.cons rfl (fun K hK => ?_) (AllReady.cons rfl (fun K hK => ?_) AllReady.nil)
          · go_simp
            refine hK _ _ ?_
            clear hK K
            refine wpAny_ready (rs := [4]) (by kernel_rfl) (by simp) ?_
            refine AllReady.cons rfl (fun K hK => ?_) AllReady.nil
            · rw [if_pos (by rfl)]
              refine wp_put_blk (B75a.grown hg7' (by intro e; injection e with e; exact n67 e.symm)) [.int .i64 0, .int .i64 0, .int .i64 0, .int .i64 0, .int .i64 0, .int .i64 0, .int .i64 0, .int .i64 0] (by kernel_rfl) rfl (by intro v hv; simp at hv; subst hv; rfl) rfl rfl rfl ?_
              intro w8 hB78 hg8'
              refine hK _ _ ?_
              clear hK K
              refine wpAny_ready (rs := [5]) (by kernel_rfl) (by simp) (AllReady.cons rfl (fun K hK => ?_) AllReady.nil)
              rw [if_pos (by rfl)]
              refine wp_set_blk1 ((B85a.grown hg7' (by intro e; injection e with e; exact n68 e.symm)).grown hg8' (by intro e; injection e with e; exact n78 e.symm)) 0 (.int .i64 E0) (by kernel_rfl) (by simp) rfl rfl rfl rfl rfl ?_
              intro w9 hB89 hg9
              refine hK _ _ ?_
              clear hK K
              have z6 := (hB67.grown hg8' (by intro e; injection e with e; exact n67 e)).grown hg9 (by intro e; injection e with e; exact n68 e)
              have z7 := hB78.grown hg9 (by intro e; injection e with e; exact n78 e)
              have z8 : Blk w9 q8 51 [.int .i64 E0] := hB89
              have HG := Lib.hid (And.intro hb6 (And.intro hg7' (And.intro hg8' hg9)))
              refine wpAny_done (by kernel_rfl) ?_ _
              go_wp2
              have e0 : w9.cell? ⟨q6, 0, none⟩ = some (.int .i64 0) := (z6.cell 0).trans rfl
              have e1 : w9.cell? ⟨q6, 1, none⟩ = some (.int .i64 0) := (z6.cell 1).trans rfl
              have e2 : w9.cell? ⟨q6, 2, none⟩ = some (.bool false) := (z6.cell 2).trans rfl
              have e3 : w9.cell? ⟨q6, 3, none⟩ = some (.int .i64 0) := (z6.cell 3).trans rfl
              have e4 : w9.cell? ⟨q6, 4, none⟩ = some (.slice none 0 0) := (z6.cell 4).trans rfl
              have f0 : w9.cell? ⟨q7, 0, none⟩ = some (.int .i64 0) := (z7.cell 0).trans rfl
              have f1 : w9.cell? ⟨q7, 1, none⟩ = some (.int .i64 0) := (z7.cell 1).trans rfl
              have f2 : w9.cell? ⟨q7, 2, none⟩ = some (.int .i64 0) := (z7.cell 2).trans rfl
              have f3 : w9.cell? ⟨q7, 3, none⟩ = some (.int .i64 0) := (z7.cell 3).trans rfl
              have f4 : w9.cell? ⟨q7, 4, none⟩ = some (.int .i64 0) := (z7.cell 4).trans rfl
              have f5 : w9.cell? ⟨q7, 5, none⟩ = some (.int .i64 0) := (z7.cell 5).trans rfl
              have f6 : w9.cell? ⟨q7, 6, none⟩ = some (.int .i64 0) := (z7.cell 6).trans rfl
              have f7 : w9.cell? ⟨q7, 7, none⟩ = some (.int .i64 0) := (z7.cell 7).trans rfl
              have f8 : w9.cell? ⟨q8, 0, none⟩ = some (.int .i64 E0) := (z8.cell 0).trans rfl
              simp [bodyPostD, Leaves, settle, results, Tryd.results34, go_sem, e0, e1, e2, e3, e4, f0, f1, f2, f3, f4, f5, f6, f7, f8]
              obtain ⟨hb6, hg7', hg8', hg9⟩ := HG.out
              have hlo : w.heap.size ≤ q6 ∧ w.heap.size ≤ q7 ∧ w.heap.size ≤ q8 := by have := HQ.out; omega
              have hbw6 := below_next hb6 HB.out.1
              have hb7 : Below w.heap.size w6 w7 := below_of_grown hg7' hbw6.size (by omega)
              have hbw7 := hbw6.trans hb7
              have hb8 : Below w.heap.size w7 w8 := below_of_grown hg8' hbw7.size (by omega)
              have hbw8 := hbw7.trans hb8
              have hb9 : Below w.heap.size w8 w9 := below_of_grown hg9 hbw8.size (by omega)
              obtain ⟨he, hf⟩ := (Sr.err_of hE.out).1 h0
              refine ⟨zterm, by rw [he, hf]; rfl, ?_, hbw8.trans hb9⟩
              rw [Un.term_of.1 (by rw [he]; exact h0)]
              exact KN.zero _ _
          · rw [if_pos (by rfl)]
            refine wp_put_blk (B75a.grown hg7' (by intro e; injection e with e; exact n67 e.symm)) [.int .i64 0, .int .i64 0, .int .i64 0, .int .i64 0, .int .i64 0, .int .i64 0, .int .i64 0, .int .i64 0] (by kernel_rfl) rfl (by intro v hv; simp at hv; subst hv; rfl) rfl rfl rfl ?_
            intro w8 hB78 hg8'
            refine hK _ _ ?_
            clear hK K
            refine wpAny_ready (rs := [2]) (by kernel_rfl) (by simp) ?_
            refine AllReady.cons rfl (fun K hK => ?_) AllReady.nil
            · go_simp
              refine hK _ _ ?_
              clear hK K
              refine wpAny_ready (rs := [5]) (by kernel_rfl) (by simp) (AllReady.cons rfl (fun K hK => ?_) AllReady.nil)
              rw [if_pos (by rfl)]
              refine wp_set_blk1 ((B85a.grown hg7' (by intro e; injection e with e; exact n68 e.symm)).grown hg8' (by intro e; injection e with e; exact n78 e.symm)) 0 (.int .i64 E0) (by kernel_rfl) (by simp) rfl rfl rfl rfl rfl ?_
              intro w9 hB89 hg9
              refine hK _ _ ?_
              clear hK K
              have z6 := (hB67.grown hg8' (by intro e; injection e with e; exact n67 e)).grown hg9 (by intro e; injection e with e; exact n68 e)
              have z7 := hB78.grown hg9 (by intro e; injection e with e; exact n78 e)
              have z8 : Blk w9 q8 51 [.int .i64 E0] := hB89
              have HG := Lib.hid (And.intro hb6 (And.intro hg7' (And.intro hg8' hg9)))
              refine wpAny_done (by kernel_rfl) ?_ _
              go_wp2
              have e0 : w9.cell? ⟨q6, 0, none⟩ = some (.int .i64 0) := (z6.cell 0).trans rfl
              have e1 : w9.cell? ⟨q6, 1, none⟩ = some (.int .i64 0) := (z6.cell 1).trans rfl
              have e2 : w9.cell? ⟨q6, 2, none⟩ = some (.bool false) := (z6.cell 2).trans rfl
              have e3 : w9.cell? ⟨q6, 3, none⟩ = some (.int .i64 0) := (z6.cell 3).trans rfl
              have e4 : w9.cell? ⟨q6, 4, none⟩ = some (.slice none 0 0) := (z6.cell 4).trans rfl
              have f0 : w9.cell? ⟨q7, 0, none⟩ = some (.int .i64 0) := (z7.cell 0).trans rfl
              have f1 : w9.cell? ⟨q7, 1, none⟩ = some (.int .i64 0) := (z7.cell 1).trans rfl
              have f2 : w9.cell? ⟨q7, 2, none⟩ = some (.int .i64 0) := (z7.cell 2).trans rfl
              have f3 : w9.cell? ⟨q7, 3, none⟩ = some (.int .i64 0) := (z7.cell 3).trans rfl
              have f4 : w9.cell? ⟨q7, 4, none⟩ = some (.int .i64 0) := (z7.cell 4).trans rfl
              have f5 : w9.cell? ⟨q7, 5, none⟩ = some (.int .i64 0) := (z7.cell 5).trans rfl
              have f6 : w9.cell? ⟨q7, 6, none⟩ = some (.int .i64 0) := (z7.cell 6).trans rfl
              have f7 : w9.cell? ⟨q7, 7, none⟩ = some (.int .i64 0) := (z7.cell 7).trans rfl
              have f8 : w9.cell? ⟨q8, 0, none⟩ = some (.int .i64 E0) := (z8.cell 0).trans rfl
              simp [bodyPostD, Leaves, settle, results, Tryd.results34, go_sem, e0, e1, e2, e3, e4, f0, f1, f2, f3, f4, f5, f6, f7, f8]
              obtain ⟨hb6, hg7', hg8', hg9⟩ := HG.out
              have hlo : w.heap.size ≤ q6 ∧ w.heap.size ≤ q7 ∧ w.heap.size ≤ q8 := by have := HQ.out; omega
              have hbw6 := below_next hb6 HB.out.1
              have hb7 : Below w.heap.size w6 w7 := below_of_grown hg7' hbw6.size (by omega)
              have hbw7 := hbw6.trans hb7
              have hb8 : Below w.heap.size w7 w8 := below_of_grown hg8' hbw7.size (by omega)
              have hbw8 := hbw7.trans hb8
              have hb9 : Below w.heap.size w8 w9 := below_of_grown hg9 hbw8.size (by omega)
              obtain ⟨he, hf⟩ := (Sr.err_of hE.out).1 h0
              refine ⟨zterm, by rw [he, hf]; rfl, ?_, hbw8.trans hb9⟩
              rw [Un.term_of.1 (by rw [he]; exact h0)]
              exact KN.zero _ _
        · go_simp
          refine hK _ _ ?_
          clear hK K
          refine wpAny_ready (rs := [1]) (by kernel_rfl) (by simp) ?_
          refine AllReady.cons rfl (fun K hK => ?_) AllReady.nil
          · have f0 : w7.cell? ⟨q7, 0, none⟩ = some (.int .i64 0) := (B75b.cell 0).trans rfl
            have f1 : w7.cell? ⟨q7, 1, none⟩ = some (.int .i64 0) := (B75b.cell 1).trans rfl
            have f2 : w7.cell? ⟨q7, 2, none⟩ = some (.int .i64 0) := (B75b.cell 2).trans rfl
            have f3 : w7.cell? ⟨q7, 3, none⟩ = some (.int .i64 0) := (B75b.cell 3).trans rfl
            have f4 : w7.cell? ⟨q7, 4, none⟩ = some (.int .i64 0) := (B75b.cell 4).trans rfl
            have f5 : w7.cell? ⟨q7, 5, none⟩ = some (.int .i64 0) := (B75b.cell 5).trans rfl
            have f6 : w7.cell? ⟨q7, 6, none⟩ = some (.int .i64 0) := (B75b.cell 6).trans rfl
            have f7 : w7.cell? ⟨q7, 7, none⟩ = some (.int .i64 0) := (B75b.cell 7).trans rfl
            go_simp
            refine hK _ _ ?_
            clear hK K
            clear f0 f1 f2 f3 f4 f5 f6 f7
            refine wpAny_ready (rs := [4]) (by kernel_rfl) (by simp) ?_
            refine AllReady.cons rfl (fun K hK => ?_) AllReady.nil
            · rw [if_pos (by rfl)]
              refine wp_put_blk (B75a.grown hg7' (by intro e; injection e with e; exact n67 e.symm)) [.int .i64 0, .int .i64 0, .int .i64 0, .int .i64 0, .int .i64 0, .int .i64 0, .int .i64 0, .int .i64 0] (by kernel_rfl) rfl (by intro v hv; simp at hv; subst hv; rfl) rfl rfl rfl ?_
              intro w8 hB78 hg8'
              refine hK _ _ ?_
              clear hK K
              refine wpAny_ready (rs := [5]) (by kernel_rfl) (by simp) (AllReady.cons rfl (fun K hK => ?_) AllReady.nil)
              rw [if_pos (by rfl)]
              refine wp_set_blk1 ((B85a.grown hg7' (by intro e; injection e with e; exact n68 e.symm)).grown hg8' (by intro e; injection e with e; exact n78 e.symm)) 0 (.int .i64 E0) (by kernel_rfl) (by simp) rfl rfl rfl rfl rfl ?_
              intro w9 hB89 hg9
              refine hK _ _ ?_
              clear hK K
              have z6 := (hB67.grown hg8' (by intro e; injection e with e; exact n67 e)).grown hg9 (by intro e; injection e with e; exact n68 e)
              have z7 := hB78.grown hg9 (by intro e; injection e with e; exact n78 e)
              have z8 : Blk w9 q8 51 [.int .i64 E0] := hB89
              have HG := Lib.hid (And.intro hb6 (And.intro hg7' (And.intro hg8' hg9)))
              refine wpAny_done (by kernel_rfl) ?_ _
              go_wp2
              have e0 : w9.cell? ⟨q6, 0, none⟩ = some (.int .i64 0) := (z6.cell 0).trans rfl
              have e1 : w9.cell? ⟨q6, 1, none⟩ = some (.int .i64 0) := (z6.cell 1).trans rfl
              have e2 : w9.cell? ⟨q6, 2, none⟩ = some (.bool false) := (z6.cell 2).trans rfl
              have e3 : w9.cell? ⟨q6, 3, none⟩ = some (.int .i64 0) := (z6.cell 3).trans rfl
              have e4 : w9.cell? ⟨q6, 4, none⟩ = some (.slice none 0 0) := (z6.cell 4).trans rfl
              have f0 : w9.cell? ⟨q7, 0, none⟩ = some (.int .i64 0) := (z7.cell 0).trans rfl
              have f1 : w9.cell? ⟨q7, 1, none⟩ = some (.int .i64 0) := (z7.cell 1).trans rfl
              have f2 : w9.cell? ⟨q7, 2, none⟩ = some (.int .i64 0) := (z7.cell 2).trans rfl
              have f3 : w9.cell? ⟨q7, 3, none⟩ = some (.int .i64 0) := (z7.cell 3).trans rfl
              have f4 : w9.cell? ⟨q7, 4, none⟩ = some (.int .i64 0) := (z7.cell 4).trans rfl
              have f5 : w9.cell? ⟨q7, 5, none⟩ = some (.int .i64 0) := (z7.cell 5).trans rfl
              have f6 : w9.cell? ⟨q7, 6, none⟩ = some (.int .i64 0) := (z7.cell 6).trans rfl
              have f7 : w9.cell? ⟨q7, 7, none⟩ = some (.int .i64 0) := (z7.cell 7).trans rfl
              have f8 : w9.cell? ⟨q8, 0, none⟩ = some (.int .i64 E0) := (z8.cell 0).trans rfl
              simp [bodyPostD, Leaves, settle, results, Tryd.results34, go_sem, e0, e1, e2, e3, e4, f0, f1, f2, f3, f4, f5, f6, f7, f8]
              obtain ⟨hb6, hg7', hg8', hg9⟩ := HG.out
              have hlo : w.heap.size ≤ q6 ∧ w.heap.size ≤ q7 ∧ w.heap.size ≤ q8 := by have := HQ.out; omega
              have hbw6 := below_next hb6 HB.out.1
              have hb7 : Below w.heap.size w6 w7 := below_of_grown hg7' hbw6.size (by omega)
              have hbw7 := hbw6.trans hb7
              have hb8 : Below w.heap.size w7 w8 := below_of_grown hg8' hbw7.size (by omega)
              have hbw8 := hbw7.trans hb8
              have hb9 : Below w.heap.size w8 w9 := below_of_grown hg9 hbw8.size (by omega)
              obtain ⟨he, hf⟩ := (Sr.err_of hE.out).1 h0
              refine ⟨zterm, by rw [he, hf]; rfl, ?_, hbw8.trans hb9⟩
              rw [Un.term_of.1 (by rw [he]; exact h0)]
              exact KN.zero _ _
    · have f0 : w6.cell? ⟨q7, 0, none⟩ = some (.int .i64 0) := (B75a.cell 0).trans rfl
      have f1 : w6.cell? ⟨q7, 1, none⟩ = some (.int .i64 0) := (B75a.cell 1).trans rfl
      have f2 : w6.cell? ⟨q7, 2, none⟩ = some (.int .i64 0) := (B75a.cell 2).trans rfl
      have f3 : w6.cell? ⟨q7, 3, none⟩ = some (.int .i64 0) := (B75a.cell 3).trans rfl
      have f4 : w6.cell? ⟨q7, 4, none⟩ = some (.int .i64 0) := (B75a.cell 4).trans rfl
      have f5 : w6.cell? ⟨q7, 5, none⟩ = some (.int .i64 0) := (B75a.cell 5).trans rfl
      have f6 : w6.cell? ⟨q7, 6, none⟩ = some (.int .i64 0) := (B75a.cell 6).trans rfl
      have f7 : w6.cell? ⟨q7, 7, none⟩ = some (.int .i64 0) := (B75a.cell 7).trans rfl
      go_simp
      refine hK _ _ ?_
      clear hK K
      clear f0 f1 f2 f3 f4 f5 f6 f7
      refine wpAny_ready (rs := [0, 2]) (by kernel_rfl) (by simp) ?_
      refine AllReady.cons rfl (fun K hK => ?_) (AllReady.cons rfl (fun K hK => ?_) AllReady.nil)
      · have e0 : w6.cell? ⟨q6, 0, none⟩ = some (.int .i64 0) := (z5a.cell 0).trans rfl
        have e1 : w6.cell? ⟨q6, 1, none⟩ = some (.int .i64 0) := (z5a.cell 1).trans rfl
        have e2 : w6.cell? ⟨q6, 2, none⟩ = some (.bool false) := (z5a.cell 2).trans rfl
        have e3 : w6.cell? ⟨q6, 3, none⟩ = some (.int .i64 0) := (z5a.cell 3).trans rfl
        have e4 : w6.cell? ⟨q6, 4, none⟩ = some (.slice none 0 0) := (z5a.cell 4).trans rfl
        go_simp
        refine hK _ _ ?_
        clear hK K
        clear e0 e1 e2 e3 e4
        refine wpAny_ready (rs := [2, 3]) (by kernel_rfl) (by simp) ?_
        refine AllReady.cons rfl (fun K hK => ?_) (AllReady.cons rfl (fun K hK => ?_) AllReady.nil)
        · go_simp
          refine hK _ _ ?_
          clear hK K
          refine wpAny_ready (rs := [3]) (by kernel_rfl) (by simp) ?_
          refine AllReady.cons rfl (fun K hK => ?_) AllReady.nil
          · rw [if_pos (by rfl)]
            refine wp_put_blk z5a [.int .i64 0, .int .i64 0, .bool false, .int .i64 0, .slice none 0 0] (by kernel_rfl) rfl (by intro v hv; simp at hv; rcases hv with rfl | rfl | rfl | rfl <;> rfl) rfl rfl rfl ?_
            intro w7 hB67 hg7'
            refine hK _ _ ?_
            clear hK K
            have B75b := B75a.grown hg7' (by intro e; injection e with e; exact n67 e.symm)
            refine wpAny_ready (rs := [4]) (by kernel_rfl) (by simp) ?_
            refine AllReady.cons rfl (fun K hK => ?_) AllReady.nil
            · rw [if_pos (by rfl)]
              refine wp_put_blk (B75a.grown hg7' (by intro e; injection e with e; exact n67 e.symm)) [.int .i64 0, .int .i64 0, .int .i64 0, .int .i64 0, .int .i64 0, .int .i64 0, .int .i64 0, .int .i64 0] (by kernel_rfl) rfl (by intro v hv; simp at hv; subst hv; rfl) rfl rfl rfl ?_
              intro w8 hB78 hg8'
              refine hK _ _ ?_
              clear hK K
              refine wpAny_ready (rs := [5]) (by kernel_rfl) (by simp) (AllReady.cons rfl (fun K hK => ?_) AllReady.nil)
              rw [if_pos (by rfl)]
              refine wp_set_blk1 ((B85a.grown hg7' (by intro e; injection e with e; exact n68 e.symm)).grown hg8' (by intro e; injection e with e; exact n78 e.symm)) 0 (.int .i64 E0) (by kernel_rfl) (by simp) rfl rfl rfl rfl rfl ?_
              intro w9 hB89 hg9
              refine hK _ _ ?_
              clear hK K
              have z6 := (hB67.grown hg8' (by intro e; injection e with e; exact n67 e)).grown hg9 (by intro e; injection e with e; exact n68 e)
              have z7 := hB78.grown hg9 (by intro e; injection e with e; exact n78 e)
              have z8 : Blk w9 q8 51 [.int .i64 E0] := hB89
              have HG := Lib.hid (And.intro hb6 (And.intro hg7' (And.intro hg8' hg9)))
              refine wpAny_done (by kernel_rfl) ?_ _
              go_wp2
              have e0 : w9.cell? ⟨q6, 0, none⟩ = some (.int .i64 0) := (z6.cell 0).trans rfl
              have e1 : w9.cell? ⟨q6, 1, none⟩ = some (.int .i64 0) := (z6.cell 1).trans rfl
              have e2 : w9.cell? ⟨q6, 2, none⟩ = some (.bool false) := (z6.cell 2).trans rfl
              have e3 : w9.cell? ⟨q6, 3, none⟩ = some (.int .i64 0) := (z6.cell 3).trans rfl
              have e4 : w9.cell? ⟨q6, 4, none⟩ = some (.slice none 0 0) := (z6.cell 4).trans rfl
              have f0 : w9.cell? ⟨q7, 0, none⟩ = some (.int .i64 0) := (z7.cell 0).trans rfl
              have f1 : w9.cell? ⟨q7, 1, none⟩ = some (.int .i64 0) := (z7.cell 1).trans rfl
              have f2 : w9.cell? ⟨q7, 2, none⟩ = some (.int .i64 0) := (z7.cell 2).trans rfl
              have f3 : w9.cell? ⟨q7, 3, none⟩ = some (.int .i64 0) := (z7.cell 3).trans rfl
              have f4 : w9.cell? ⟨q7, 4, none⟩ = some (.int .i64 0) := (z7.cell 4).trans rfl
              have f5 : w9.cell? ⟨q7, 5, none⟩ = some (.int .i64 0) := (z7.cell 5).trans rfl
              have f6 : w9.cell? ⟨q7, 6, none⟩ = some (.int .i64 0) := (z7.cell 6).trans rfl
              have f7 : w9.cell? ⟨q7, 7, none⟩ = some (.int .i64 0) := (z7.cell 7).trans rfl
              have f8 : w9.cell? ⟨q8, 0, none⟩ = some (.int .i64 E0) := (z8.cell 0).trans rfl
              simp [bodyPostD, Leaves, settle, results, Tryd.results34, go_sem, e0, e1, e2, e3, e4, f0, f1, f2, f3, f4, f5, f6, f7, f8]
              obtain ⟨hb6, hg7', hg8', hg9⟩ := HG.out
              have hlo : w.heap.size ≤ q6 ∧ w.heap.size ≤ q7 ∧ w.heap.size ≤ q8 := by have := HQ.out; omega
              have hbw6 := below_next hb6 HB.out.1
              have hb7 : Below w.heap.size w6 w7 := below_of_grown hg7' hbw6.size (by omega)
              have hbw7 := hbw6.trans hb7
              have hb8 : Below w.heap.size w7 w8 := below_of_grown hg8' hbw7.size (by omega)
              have hbw8 := hbw7.trans hb8
              have hb9 : Below w.heap.size w8 w9 := below_of_grown hg9 hbw8.size (by omega)
              obtain ⟨he, hf⟩ := (Sr.err_of hE.out).1 h0
              refine ⟨zterm, by rw [he, hf]; rfl, ?_, hbw8.trans hb9⟩
              rw [Un.term_of.1 (by rw [he]; exact h0)]
              exact KN.zero _ _
        · rw [if_pos (by rfl)]
          refine wp_put_blk z5a [.int .i64 0, .int .i64 0, .bool false, .int .i64 0, .slice none 0 0] (by kernel_rfl) rfl (by intro v hv; simp at hv; rcases hv with rfl | rfl | rfl | rfl <;> rfl) rfl rfl rfl ?_
          intro w7 hB67 hg7'
          refine hK _ _ ?_
          clear hK K
          have B75b := B75a.grown hg7' (by intro e; injection e with e; exact n67 e.symm)
          refine wpAny_ready (rs := [2, 4]) (by kernel_rfl) (by simp) ?_
          refine AllReady.cons rfl (fun K hK => ?_) (AllReady.cons rfl (fun K hK => ?_) AllReady.nil)
          · go_simp
            refine hK _ _ ?_
            clear hK K
            refine wpAny_ready (rs := [4]) (by kernel_rfl) (by simp) ?_
            refine AllReady.cons rfl (fun K hK => ?_) AllReady.nil
            · rw [if_pos (by rfl)]
              refine wp_put_blk (B75a.grown hg7' (by intro e; injection e with e; exact n67 e.symm)) [.int .i64 0, .int .i64 0, .int .i64 0, .int .i64 0, .int .i64 0, .int .i64 0, .int .i64 0, .int .i64 0] (by kernel_rfl) rfl (by intro v hv; simp at hv; subst hv; rfl) rfl rfl rfl ?_
              intro w8 hB78 hg8'
              refine hK _ _ ?_
              clear hK K
              refine wpAny_ready (rs := [5]) (by kernel_rfl) (by simp) (AllReady.cons rfl (fun K hK => ?_) AllReady.nil)
              rw [if_pos (by rfl)]
              refine wp_set_blk1 ((B85a.grown hg7' (by intro e; injection e with e; exact n68 e.symm)).grown hg8' (by intro e; injection e with e; exact n78 e.symm)) 0 (.int .i64 E0) (by kernel_rfl) (by simp) rfl rfl rfl rfl rfl ?_
              intro w9 hB89 hg9
              refine hK _ _ ?_
              clear hK K
              have z6 := (hB67.grown hg8' (by intro e; injection e with e; exact n67 e)).grown hg9 (by intro e; injection e with e; exact n68 e)
              have z7 := hB78.grown hg9 (by intro e; injection e with e; exact n78 e)
              have z8 : Blk w9 q8 51 [.int .i64 E0] := hB89
              have HG := Lib.hid (And.intro hb6 (And.intro hg7' (And.intro hg8' hg9)))
              refine wpAny_done (by kernel_rfl) ?_ _
              go_wp2
              have e0 : w9.cell? ⟨q6, 0, none⟩ = some (.int .i64 0) := (z6.cell 0).trans rfl
              have e1 : w9.cell? ⟨q6, 1, none⟩ = some (.int .i64 0) := (z6.cell 1).trans rfl
              have e2 : w9.cell? ⟨q6, 2, none⟩ = some (.bool false) := (z6.cell 2).trans rfl
              have e3 : w9.cell? ⟨q6, 3, none⟩ = some (.int .i64 0) := (z6.cell 3).trans rfl
              have e4 : w9.cell? ⟨q6, 4, none⟩ = some (.slice none 0 0) := (z6.cell 4).trans rfl
              have f0 : w9.cell? ⟨q7, 0, none⟩ = some (.int .i64 0) := (z7.cell 0).trans rfl
              have f1 : w9.cell? ⟨q7, 1, none⟩ = some (.int .i64 0) := (z7.cell 1).trans rfl
              have f2 : w9.cell? ⟨q7, 2, none⟩ = some (.int .i64 0) := (z7.cell 2).trans rfl
              have f3 : w9.cell? ⟨q7, 3, none⟩ = some (.int .i64 0) := (z7.cell 3).trans rfl
              have f4 : w9.cell? ⟨q7, 4, none⟩ = some (.int .i64 0) := (z7.cell 4).trans rfl
              have f5 : w9.cell? ⟨q7, 5, none⟩ = some (.int .i64 0) := (z7.cell 5).trans rfl
              have f6 : w9.cell? ⟨q7, 6, none⟩ = some (.int .i64 0) := (z7.cell 6).trans rfl
              have f7 : w9.cell? ⟨q7, 7, none⟩ = some (.int .i64 0) := (z7.cell 7).trans rfl
              have f8 : w9.cell? ⟨q8, 0, none⟩ = some (.int .i64 E0) := (z8.cell 0).trans rfl
              simp [bodyPostD, Leaves, settle, results, Tryd.results34, go_sem, e0, e1, e2, e3, e4, f0, f1, f2, f3, f4, f5, f6, f7, f8]
              obtain ⟨hb6, hg7', hg8', hg9⟩ := HG.out
              have hlo : w.heap.size ≤ q6 ∧ w.heap.size ≤ q7 ∧ w.heap.size ≤ q8 := by have := HQ.out; omega
              have hbw6 := below_next hb6 HB.out.1
              have hb7 : Below w.heap.size w6 w7 := below_of_grown hg7' hbw6.size (by omega)
              have hbw7 := hbw6.trans hb7
              have hb8 : Below w.heap.size w7 w8 := below_of_grown hg8' hbw7.size (by omega)
              have hbw8 := hbw7.trans hb8
              have hb9 : Below w.heap.size w8 w9 := below_of_grown hg9 hbw8.size (by omega)
              obtain ⟨he, hf⟩ := (Sr.err_of hE.out).1 h0
              refine ⟨zterm, by rw [he, hf]; rfl, ?_, hbw8.trans hb9⟩
              rw [Un.term_of.1 (by rw [he]; exact h0)]
              exact KN.zero _ _
          · rw [if_pos (by rfl)]
            refine wp_put_blk (B75a.grown hg7' (by intro e; injection e with e; exact n67 e.symm)) [.int .i64 0, .int .i64 0, .int .i64 0, .int .i64 0, .int .i64 0, .int .i64 0, .int .i64 0, .int .i64 0] (by kernel_rfl) rfl (by intro v hv; simp at hv; subst hv; rfl) rfl rfl rfl ?_
            intro w8 hB78 hg8'
            refine hK _ _ ?_
            clear hK K
            refine wpAny_ready (rs := [2]) (by kernel_rfl) (by simp) ?_
            refine AllReady.cons rfl (fun K hK => ?_) AllReady.nil
            · go_simp
              refine hK _ _ ?_
              clear hK K
              refine wpAny_ready (rs := [5]) (by kernel_rfl) (by simp) (AllReady.cons rfl (fun K hK => ?_) AllReady.nil)
              rw [if_pos (by rfl)]
              refine wp_set_blk1 ((B85a.grown hg7' (by intro e; injection e with e; exact n68 e.symm)).grown hg8' (by intro e; injection e with e; exact n78 e.symm)) 0 (.int .i64 E0) (by kernel_rfl) (by simp) rfl rfl rfl rfl rfl ?_
              intro w9 hB89 hg9
              refine hK _ _ ?_
              clear hK K
              have z6 := (hB67.grown hg8' (by intro e; injection e with e; exact n67 e)).grown hg9 (by intro e; injection e with e; exact n68 e)
              have z7 := hB78.grown hg9 (by intro e; injection e with e; exact n78 e)
              have z8 : Blk w9 q8 51 [.int .i64 E0] := hB89
              have HG := Lib.hid (And.intro hb6 (And.intro hg7' (And.intro hg8' hg9)))
              refine wpAny_done (by kernel_rfl) ?_ _
              go_wp2
              have e0 : w9.cell? ⟨q6, 0, none⟩ = some (.int .i64 0) := (z6.cell 0).trans rfl
              have e1 : w9.cell? ⟨q6, 1, none⟩ = some (.int .i64 0) := (z6.cell 1).trans rfl
              have e2 : w9.cell? ⟨q6, 2, none⟩ = some (.bool false) := (z6.cell 2).trans rfl
              have e3 : w9.cell? ⟨q6, 3, none⟩ = some (.int .i64 0) := (z6.cell 3).trans rfl
              have e4 : w9.cell? ⟨q6, 4, none⟩ = some (.slice none 0 0) := (z6.cell 4).trans rfl
              have f0 : w9.cell? ⟨q7, 0, none⟩ = some (.int .i64 0) := (z7.cell 0).trans rfl
              have f1 : w9.cell? ⟨q7, 1, none⟩ = some (.int .i64 0) := (z7.cell 1).trans rfl
              have f2 : w9.cell? ⟨q7, 2, none⟩ = some (.int .i64 0) := (z7.cell 2).trans rfl
              have f3 : w9.cell? ⟨q7, 3, none⟩ = some (.int .i64 0) := (z7.cell 3).trans rfl
              have f4 : w9.cell? ⟨q7, 4, none⟩ = some (.int .i64 0) := (z7.cell 4).trans rfl
              have f5 : w9.cell? ⟨q7, 5, none⟩ = some (.int .i64 0) := (z7.cell 5).trans rfl
              have f6 : w9.cell? ⟨q7, 6, none⟩ = some (.int .i64 0) := (z7.cell 6).trans rfl
              have f7 : w9.cell? ⟨q7, 7, none⟩ = some (.int .i64 0) := (z7.cell 7).trans rfl
              have f8 : w9.cell? ⟨q8, 0, none⟩ = some (.int .i64 E0) := (z8.cell 0).trans rfl
              simp [bodyPostD, Leaves, settle, results, Tryd.results34, go_sem, e0, e1, e2, e3, e4, f0, f1, f2, f3, f4, f5, f6, f7, f8]
              obtain ⟨hb6, hg7', hg8', hg9⟩ := HG.out
              have hlo : w.heap.size ≤ q6 ∧ w.heap.size ≤ q7 ∧ w.heap.size ≤ q8 := by have := HQ.out; omega
              have hbw6 := below_next hb6 HB.out.1
              have hb7 : Below w.heap.size w6 w7 := below_of_grown hg7' hbw6.size (by omega)
              have hbw7 := hbw6.trans hb7
              have hb8 : Below w.heap.size w7 w8 := below_of_grown hg8' hbw7.size (by omega)
              have hbw8 := hbw7.trans hb8
              have hb9 : Below w.heap.size w8 w9 := below_of_grown hg9 hbw8.size (by omega)
              obtain ⟨he, hf⟩ := (Sr.err_of hE.out).1 h0
              refine ⟨zterm, by rw [he, hf]; rfl, ?_, hbw8.trans hb9⟩
              rw [Un.term_of.1 (by rw [he]; exact h0)]
              exact KN.zero _ _
      · go_simp
        refine hK _ _ ?_
        clear hK K
        refine wpAny_ready (rs := [0]) (by kernel_rfl) (by simp) ?_
        refine AllReady.cons rfl (fun K hK => ?_) AllReady.nil
        · have e0 : w6.cell? ⟨q6, 0, none⟩ = some (.int .i64 0) := (z5a.cell 0).trans rfl
          have e1 : w6.cell? ⟨q6, 1, none⟩ = some (.int .i64 0) := (z5a.cell 1).trans rfl
          have e2 : w6.cell? ⟨q6, 2, none⟩ = some (.bool false) := (z5a.cell 2).trans rfl
          have e3 : w6.cell? ⟨q6, 3, none⟩ = some (.int .i64 0) := (z5a.cell 3).trans rfl
          have e4 : w6.cell? ⟨q6, 4, none⟩ = some (.slice none 0 0) := (z5a.cell 4).trans rfl
          go_simp
          refine hK _ _ ?_
          clear hK K
          clear e0 e1 e2 e3 e4
          refine wpAny_ready (rs := [3]) (by kernel_rfl) (by simp) ?_
          refine AllReady.cons rfl (fun K hK => ?_) AllReady.nil
          · rw [if_pos (by rfl)]
            refine wp_put_blk z5a [.int .i64 0, .int .i64 0, .bool false, .int .i64 0, .slice none 0 0] (by kernel_rfl) rfl (by intro v hv; simp at hv; rcases hv with rfl | rfl | rfl | rfl <;> rfl) rfl rfl rfl ?_
            intro w7 hB67 hg7'
            refine hK _ _ ?_
            clear hK K
            have B75b := B75a.grown hg7' (by intro e; injection e with e; exact n67 e.symm)
            refine wpAny_ready (rs := [4]) (by kernel_rfl) (by simp) ?_
            refine AllReady.cons rfl (fun K hK => ?_) AllReady.nil
            · rw [if_pos (by rfl)]
              refine wp_put_blk (B75a.grown hg7' (by intro e; injection e with e; exact n67 e.symm)) [.int .i64 0, .int .i64 0, .int .i64 0, .int .i64 0, .int .i64 0, .int .i64 0, .int .i64 0, .int .i64 0] (by kernel_rfl) rfl (by intro v hv; simp at hv; subst hv; rfl) rfl rfl rfl ?_
              intro w8 hB78 hg8'
              refine hK _ _ ?_
              clear hK K
              refine wpAny_ready (rs := [5]) (by kernel_rfl) (by simp) (AllReady.cons rfl (fun K hK => ?_) AllReady.nil)
              rw [if_pos (by rfl)]
              refine wp_set_blk1 ((B85a.grown hg7' (by intro e; injection e with e; exact n68 e.symm)).grown hg8' (by intro e; injection e with e; exact n78 e.symm)) 0 (.int .i64 E0) (by kernel_rfl) (by simp) rfl rfl rfl rfl rfl ?_
              intro w9 hB89 hg9
              refine hK _ _ ?_
              clear hK K
              have z6 := (hB67.grown hg8' (by intro e; injection e with e; exact n67 e)).grown hg9 (by intro e; injection e with e; exact n68 e)
              have z7 := hB78.grown hg9 (by intro e; injection e with e; exact n78 e)
              have z8 : Blk w9 q8 51 [.int .i64 E0] := hB89
              have HG := Lib.hid (And.intro hb6 (And.intro hg7' (And.intro hg8' hg9)))
              refine wpAny_done (by kernel_rfl) ?_ _
              go_wp2
              have e0 : w9.cell? ⟨q6, 0, none⟩ = some (.int .i64 0) := (z6.cell 0).trans rfl
              have e1 : w9.cell? ⟨q6, 1, none⟩ = some (.int .i64 0) := (z6.cell 1).trans rfl
              have e2 : w9.cell? ⟨q6, 2, none⟩ = some (.bool false) := (z6.cell 2).trans rfl
              have e3 : w9.cell? ⟨q6, 3, none⟩ = some (.int .i64 0) := (z6.cell 3).trans rfl
              have e4 : w9.cell? ⟨q6, 4, none⟩ = some (.slice none 0 0) := (z6.cell 4).trans rfl
              have f0 : w9.cell? ⟨q7, 0, none⟩ = some (.int .i64 0) := (z7.cell 0).trans rfl
              have f1 : w9.cell? ⟨q7, 1, none⟩ = some (.int .i64 0) := (z7.cell 1).trans rfl
              have f2 : w9.cell? ⟨q7, 2, none⟩ = some (.int .i64 0) := (z7.cell 2).trans rfl
              have f3 : w9.cell? ⟨q7, 3, none⟩ = some (.int .i64 0) := (z7.cell 3).trans rfl
              have f4 : w9.cell? ⟨q7, 4, none⟩ = some (.int .i64 0) := (z7.cell 4).trans rfl
              have f5 : w9.cell? ⟨q7, 5, none⟩ = some (.int .i64 0) := (z7.cell 5).trans rfl
              have f6 : w9.cell? ⟨q7, 6, none⟩ = some (.int .i64 0) := (z7.cell 6).trans rfl
              have f7 : w9.cell? ⟨q7, 7, none⟩ = some (.int .i64 0) := (z7.cell 7).trans rfl
              have f8 : w9.cell? ⟨q8, 0, none⟩ = some (.int .i64 E0) := (z8.cell 0).trans rfl
              simp [bodyPostD, Leaves, settle, results, Tryd.results34, go_sem, e0, e1, e2, e3, e4, f0, f1, f2, f3, f4, f5, f6, f7, f8]
              obtain ⟨hb6, hg7', hg8', hg9⟩ := HG.out
              have hlo : w.heap.size ≤ q6 ∧ w.heap.size ≤ q7 ∧ w.heap.size ≤ q8 := by have := HQ.out; omega
              have hbw6 := below_next hb6 HB.out.1
              have hb7 : Below w.heap.size w6 w7 := below_of_grown hg7' hbw6.size (by omega)
              have hbw7 := hbw6.trans hb7
              have hb8 : Below w.heap.size w7 w8 := below_of_grown hg8' hbw7.size (by omega)
              have hbw8 := hbw7.trans hb8
              have hb9 : Below w.heap.size w8 w9 := below_of_grown hg9 hbw8.size (by omega)
              obtain ⟨he, hf⟩ := (Sr.err_of hE.out).1 h0
              refine ⟨zterm, by rw [he, hf]; rfl, ?_, hbw8.trans hb9⟩
              rw [Un.term_of.1 (by rw [he]; exact h0)]
              exact KN.zero _ _
    · go_simp
      refine hK _ _ ?_
      clear hK K
      refine wpAny_ready (rs := [0, 1]) (by kernel_rfl) (by simp) ?_
      refine AllReady.cons rfl (fun K hK => ?_) (AllReady.cons rfl (fun K hK => ?_) AllReady.nil)
      · have e0 : w6.cell? ⟨q6, 0, none⟩ = some (.int .i64 0) := (z5a.cell 0).trans rfl
        have e1 : w6.cell? ⟨q6, 1, none⟩ = some (.int .i64 0) := (z5a.cell 1).trans rfl
        have e2 : w6.cell? ⟨q6, 2, none⟩ = some (.bool false) := (z5a.cell 2).trans rfl
        have e3 : w6.cell? ⟨q6, 3, none⟩ = some (.int .i64 0) := (z5a.cell 3).trans rfl
        have e4 : w6.cell? ⟨q6, 4, none⟩ = some (.slice none 0 0) := (z5a.cell 4).trans rfl
        go_simp
        refine hK _ _ ?_
        clear hK K
        clear e0 e1 e2 e3 e4
        refine wpAny_ready (rs := [1, 3]) (by kernel_rfl) (by simp) ?_
        refine AllReady.cons rfl (fun K hK => ?_) (AllReady.cons rfl (fun K hK => ?_) AllReady.nil)
        · have f0 : w6.cell? ⟨q7, 0, none⟩ = some (.int .i64 0) := (B75a.cell 0).trans rfl
          have f1 : w6.cell? ⟨q7, 1, none⟩ = some (.int .i64 0) := (B75a.cell 1).trans rfl
          have f2 : w6.cell? ⟨q7, 2, none⟩ = some (.int .i64 0) := (B75a.cell 2).trans rfl
          have f3 : w6.cell? ⟨q7, 3, none⟩ = some (.int .i64 0) := (B75a.cell 3).trans rfl
          have f4 : w6.cell? ⟨q7, 4, none⟩ = some (.int .i64 0) := (B75a.cell 4).trans rfl
          have f5 : w6.cell? ⟨q7, 5, none⟩ = some (.int .i64 0) := (B75a.cell 5).trans rfl
          have f6 : w6.cell? ⟨q7, 6, none⟩ = some (.int .i64 0) := (B75a.cell 6).trans rfl
          have f7 : w6.cell? ⟨q7, 7, none⟩ = some (.int .i64 0) := (B75a.cell 7).trans rfl
          go_simp
          refine hK _ _ ?_
          clear hK K
          clear f0 f1 f2 f3 f4 f5 f6 f7
          refine wpAny_ready (rs := [3]) (by kernel_rfl) (by simp) ?_
          refine AllReady.cons rfl (fun K hK => ?_) AllReady.nil
          · rw [if_pos (by rfl)]
            refine wp_put_blk z5a [.int .i64 0, .int .i64 0, .bool false, .int .i64 0, .slice none 0 0] (by kernel_rfl) rfl (by intro v hv; simp at hv; rcases hv with rfl | rfl | rfl | rfl <;> rfl) rfl rfl rfl ?_
            intro w7 hB67 hg7'
            refine hK _ _ ?_
            clear hK K
            have B75b := B75a.grown hg7' (by intro e; injection e with e; exact n67 e.symm)
            refine wpAny_ready (rs := [4]) (by kernel_rfl) (by simp) ?_
            refine AllReady.cons rfl (fun K hK => ?_) AllReady.nil
            · rw [if_pos (by rfl)]
              refine wp_put_blk (B75a.grown hg7' (by intro e; injection e with e; exact n67 e.symm)) [.int .i64 0, .int .i64 0, .int .i64 0, .int .i64 0, .int .i64 0, .int .i64 0, .int .i64 0, .int .i64 0] (by kernel_rfl) rfl (by intro v hv; simp at hv; subst hv; rfl) rfl rfl rfl ?_
              intro w8 hB78 hg8'
              refine hK _ _ ?_
              clear hK K
              refine wpAny_ready (rs := [5]) (by kernel_rfl) (by simp) (AllReady.cons rfl (fun K hK => ?_) AllReady.nil)
              rw [if_pos (by rfl)]
              refine wp_set_blk1 ((B85a.grown hg7' (by intro e; injection e with e; exact n68 e.symm)).grown hg8' (by intro e; injection e with e; exact n78 e.symm)) 0 (.int .i64 E0) (by kernel_rfl) (by simp) rfl rfl rfl rfl rfl ?_
              intro w9 hB89 hg9
              refine hK _ _ ?_
              clear hK K
              have z6 := (hB67.grown hg8' (by intro e; injection e with e; exact n67 e)).grown hg9 (by intro e; injection e with e; exact n68 e)
              have z7 := hB78.grown hg9 (by intro e; injection e with e; exact n78 e)
              have z8 : Blk w9 q8 51 [.int .i64 E0] := hB89
              have HG := Lib.hid (And.intro hb6 (And.intro hg7' (And.intro hg8' hg9)))
              refine wpAny_done (by kernel_rfl) ?_ _
              go_wp2
              have e0 : w9.cell? ⟨q6, 0, none⟩ = some (.int .i64 0) := (z6.cell 0).trans rfl
              have e1 : w9.cell? ⟨q6, 1, none⟩ = some (.int .i64 0) := (z6.cell 1).trans rfl
              have e2 : w9.cell? ⟨q6, 2, none⟩ = some (.bool false) := (z6.cell 2).trans rfl
              have e3 : w9.cell? ⟨q6, 3, none⟩ = some (.int .i64 0) := (z6.cell 3).trans rfl
              have e4 : w9.cell? ⟨q6, 4, none⟩ = some (.slice none 0 0) := (z6.cell 4).trans rfl
              have f0 : w9.cell? ⟨q7, 0, none⟩ = some (.int .i64 0) := (z7.cell 0).trans rfl
              have f1 : w9.cell? ⟨q7, 1, none⟩ = some (.int .i64 0) := (z7.cell 1).trans rfl
              have f2 : w9.cell? ⟨q7, 2, none⟩ = some (.int .i64 0) := (z7.cell 2).trans rfl
              have f3 : w9.cell? ⟨q7, 3, none⟩ = some (.int .i64 0) := (z7.cell 3).trans rfl
              have f4 : w9.cell? ⟨q7, 4, none⟩ = some (.int .i64 0) := (z7.cell 4).trans rfl
              have f5 : w9.cell? ⟨q7, 5, none⟩ = some (.int .i64 0) := (z7.cell 5).trans rfl
              have f6 : w9.cell? ⟨q7, 6, none⟩ = some (.int .i64 0) := (z7.cell 6).trans rfl
              have f7 : w9.cell? ⟨q7, 7, none⟩ = some (.int .i64 0) := (z7.cell 7).trans rfl
              have f8 : w9.cell? ⟨q8, 0, none⟩ = some (.int .i64 E0) := (z8.cell 0).trans rfl
              simp [bodyPostD, Leaves, settle, results, Tryd.results34, go_sem, e0, e1, e2, e3, e4, f0, f1, f2, f3, f4, f5, f6, f7, f8]
              obtain ⟨hb6, hg7', hg8', hg9⟩ := HG.out
              have hlo : w.heap.size ≤ q6 ∧ w.heap.size ≤ q7 ∧ w.heap.size ≤ q8 := by have := HQ.out; omega
              have hbw6 := below_next hb6 HB.out.1
              have hb7 : Below w.heap.size w6 w7 := below_of_grown hg7' hbw6.size (by omega)
              have hbw7 := hbw6.trans hb7
              have hb8 : Below w.heap.size w7 w8 := below_of_grown hg8' hbw7.size (by omega)
              have hbw8 := hbw7.trans hb8
              have hb9 : Below w.heap.size w8 w9 := below_of_grown hg9 hbw8.size (by omega)
              obtain ⟨he, hf⟩ := (Sr.err_of hE.out).1 h0
              refine ⟨zterm, by rw [he, hf]; rfl, ?_, hbw8.trans hb9⟩
              rw [Un.term_of.1 (by rw [he]; exact h0)]
              exact KN.zero _ _
        · rw [if_pos (by rfl)]
          refine wp_put_blk z5a [.int .i64 0, .int .i64 0, .bool false, .int .i64 0, .slice none 0 0] (by kernel_rfl) rfl (by intro v hv; simp at hv; rcases hv with rfl | rfl | rfl | rfl <;> rfl) rfl rfl rfl ?_
          intro w7 hB67 hg7'
          refine hK _ _ ?_
          clear hK K
          have B75b := B75a.grown hg7' (by intro e; injection e with e; exact n67 e.symm)
          refine wpAny_ready (rs := [1]) (by kernel_rfl) (by simp) ?_
          refine AllReady.cons rfl (fun K hK => ?_) AllReady.nil
          · have f0 : w7.cell? ⟨q7, 0, none⟩ = some (.int .i64 0) := (B75b.cell 0).trans rfl
            have f1 : w7.cell? ⟨q7, 1, none⟩ = some (.int .i64 0) := (B75b.cell 1).trans rfl
            have f2 : w7.cell? ⟨q7, 2, none⟩ = some (.int .i64 0) := (B75b.cell 2).trans rfl
            have f3 : w7.cell? ⟨q7, 3, none⟩ = some (.int .i64 0) := (B75b.cell 3).trans rfl
            have f4 : w7.cell? ⟨q7, 4, none⟩ = some (.int .i64 0) := (B75b.cell 4).trans rfl
            have f5 : w7.cell? ⟨q7, 5, none⟩ = some (.int .i64 0) := (B75b.cell 5).trans rfl
            have f6 : w7.cell? ⟨q7, 6, none⟩ = some (.int .i64 0) := (B75b.cell 6).trans rfl
            have f7 : w7.cell? ⟨q7, 7, none⟩ = some (.int .i64 0) := (B75b.cell 7).trans rfl
            go_simp
            refine hK _ _ ?_
            clear hK K
            clear f0 f1 f2 f3 f4 f5 f6 f7
            refine wpAny_ready (rs := [4]) (by kernel_rfl) (by simp) ?_
            refine AllReady.cons rfl (fun K hK => ?_) AllReady.nil
            · rw [if_pos (by rfl)]
              refine wp_put_blk (B75a.grown hg7' (by intro e; injection e with e; exact n67 e.symm)) [.int .i64 0, .int .i64 0, .int .i64 0, .int .i64 0, .int .i64 0, .int .i64 0, .int .i64 0, .int .i64 0] (by kernel_rfl) rfl (by intro v hv; simp at hv; subst hv; rfl) rfl rfl rfl ?_
              intro w8 hB78 hg8'
              refine hK _ _ ?_
              clear hK K
              refine wpAny_ready (rs := [5]) (by kernel_rfl) (by simp) (AllReady.cons rfl (fun K hK => ?_) AllReady.nil)
              rw [if_pos (by rfl)]
              refine wp_set_blk1 ((B85a.grown hg7' (by intro e; injection e with e; exact n68 e.symm)).grown hg8' (by intro e; injection e with e; exact n78 e.symm)) 0 (.int .i64 E0) (by kernel_rfl) (by simp) rfl rfl rfl rfl rfl ?_
              intro w9 hB89 hg9
              refine hK _ _ ?_
              clear hK K
              have z6 := (hB67.grown hg8' (by intro e; injection e with e; exact n67 e)).grown hg9 (by intro e; injection e with e; exact n68 e)
              have z7 := hB78.grown hg9 (by intro e; injection e with e; exact n78 e)
              have z8 : Blk w9 q8 51 [.int .i64 E0] := hB89
              have HG := Lib.hid (And.intro hb6 (And.intro hg7' (And.intro hg8' hg9)))
              refine wpAny_done (by kernel_rfl) ?_ _
              go_wp2
              have e0 : w9.cell? ⟨q6, 0, none⟩ = some (.int .i64 0) := (z6.cell 0).trans rfl
              have e1 : w9.cell? ⟨q6, 1, none⟩ = some (.int .i64 0) := (z6.cell 1).trans rfl
              have e2 : w9.cell? ⟨q6, 2, none⟩ = some (.bool false) := (z6.cell 2).trans rfl
              have e3 : w9.cell? ⟨q6, 3, none⟩ = some (.int .i64 0) := (z6.cell 3).trans rfl
              have e4 : w9.cell? ⟨q6, 4, none⟩ = some (.slice none 0 0) := (z6.cell 4).trans rfl
              have f0 : w9.cell? ⟨q7, 0, none⟩ = some (.int .i64 0) := (z7.cell 0).trans rfl
              have f1 : w9.cell? ⟨q7, 1, none⟩ = some (.int .i64 0) := (z7.cell 1).trans rfl
              have f2 : w9.cell? ⟨q7, 2, none⟩ = some (.int .i64 0) := (z7.cell 2).trans rfl
              have f3 : w9.cell? ⟨q7, 3, none⟩ = some (.int .i64 0) := (z7.cell 3).trans rfl
              have f4 : w9.cell? ⟨q7, 4, none⟩ = some (.int .i64 0) := (z7.cell 4).trans rfl
              have f5 : w9.cell? ⟨q7, 5, none⟩ = some (.int .i64 0) := (z7.cell 5).trans rfl
              have f6 : w9.cell? ⟨q7, 6, none⟩ = some (.int .i64 0) := (z7.cell 6).trans rfl
              have f7 : w9.cell? ⟨q7, 7, none⟩ = some (.int .i64 0) := (z7.cell 7).trans rfl
              have f8 : w9.cell? ⟨q8, 0, none⟩ = some (.int .i64 E0) := (z8.cell 0).trans rfl
              simp [bodyPostD, Leaves, settle, results, Tryd.results34, go_sem, e0, e1, e2, e3, e4, f0, f1, f2, f3, f4, f5, f6, f7, f8]
              obtain ⟨hb6, hg7', hg8', hg9⟩ := HG.out
              have hlo : w.heap.size ≤ q6 ∧ w.heap.size ≤ q7 ∧ w.heap.size ≤ q8 := by have := HQ.out; omega
              have hbw6 := below_next hb6 HB.out.1
              have hb7 : Below w.heap.size w6 w7 := below_of_grown hg7' hbw6.size (by omega)
              have hbw7 := hbw6.trans hb7
              have hb8 : Below w.heap.size w7 w8 := below_of_grown hg8' hbw7.size (by omega)
              have hbw8 := hbw7.trans hb8
              have hb9 : Below w.heap.size w8 w9 := below_of_grown hg9 hbw8.size (by omega)
              obtain ⟨he, hf⟩ := (Sr.err_of hE.out).1 h0
              refine ⟨zterm, by rw [he, hf]; rfl, ?_, hbw8.trans hb9⟩
              rw [Un.term_of.1 (by rw [he]; exact h0)]
              exact KN.zero _ _
      · have f0 : w6.cell? ⟨q7, 0, none⟩ = some (.int .i64 0) := (B75a.cell 0).trans rfl
        have f1 : w6.cell? ⟨q7, 1, none⟩ = some (.int .i64 0) := (B75a.cell 1).trans rfl
        have f2 : w6.cell? ⟨q7, 2, none⟩ = some (.int .i64 0) := (B75a.cell 2).trans rfl
        have f3 : w6.cell? ⟨q7, 3, none⟩ = some (.int .i64 0) := (B75a.cell 3).trans rfl
        have f4 : w6.cell? ⟨q7, 4, none⟩ = some (.int .i64 0) := (B75a.cell 4).trans rfl
        have f5 : w6.cell? ⟨q7, 5, none⟩ = some (.int .i64 0) := (B75a.cell 5).trans rfl
        have f6 : w6.cell? ⟨q7, 6, none⟩ = some (.int .i64 0) := (B75a.cell 6).trans rfl
        have f7 : w6.cell? ⟨q7, 7, none⟩ = some (.int .i64 0) := (B75a.cell 7).trans rfl
        go_simp
        refine hK _ _ ?_
        clear hK K
        clear f0 f1 f2 f3 f4 f5 f6 f7
        refine wpAny_ready (rs := [0]) (by kernel_rfl) (by simp) ?_
        refine AllReady.cons rfl (fun K hK => ?_) AllReady.nil
        · have e0 : w6.cell? ⟨q6, 0, none⟩ = some (.int .i64 0) := (z5a.cell 0).trans rfl
          have e1 : w6.cell? ⟨q6, 1, none⟩ = some (.int .i64 0) := (z5a.cell 1).trans rfl
          have e2 : w6.cell? ⟨q6, 2, none⟩ = some (.bool false) := (z5a.cell 2).trans rfl
          have e3 : w6.cell? ⟨q6, 3, none⟩ = some (.int .i64 0) := (z5a.cell 3).trans rfl
          have e4 : w6.cell? ⟨q6, 4, none⟩ = some (.slice none 0 0) := (z5a.cell 4).trans rfl
          go_simp
          refine hK _ _ ?_
          clear hK K
          clear e0 e1 e2 e3 e4
          refine wpAny_ready (rs := [3]) (by kernel_rfl) (by simp) ?_
          refine AllReady.cons rfl (fun K hK => ?_) AllReady.nil
          · rw [if_pos (by rfl)]
            refine wp_put_blk z5a [.int .i64 0, .int .i64 0, .bool false, .int .i64 0, .slice none 0 0] (by kernel_rfl) rfl (by intro v hv; simp at hv; rcases hv with rfl | rfl | rfl | rfl <;> rfl) rfl rfl rfl ?_
            intro w7 hB67 hg7'
            refine hK _ _ ?_
            clear hK K
            have B75b := B75a.grown hg7' (by intro e; injection e with e; exact n67 e.symm)
            refine wpAny_ready (rs := [4]) (by kernel_rfl) (by simp) ?_
            refine AllReady.cons rfl (fun K hK => ?_) AllReady.nil
            · rw [if_pos (by rfl)]
              refine wp_put_blk (B75a.grown hg7' (by intro e; injection e with e; exact n67 e.symm)) [.int .i64 0, .int .i64 0, .int .i64 0, .int .i64 0, .int .i64 0, .int .i64 0, .int .i64 0, .int .i64 0] (by kernel_rfl) rfl (by intro v hv; simp at hv; subst hv; rfl) rfl rfl rfl ?_
              intro w8 hB78 hg8'
              refine hK _ _ ?_
              clear hK K
              refine wpAny_ready (rs := [5]) (by kernel_rfl) (by simp) (AllReady.cons rfl (fun K hK => ?_) AllReady.nil)
              rw [if_pos (by rfl)]
              refine wp_set_blk1 ((B85a.grown hg7' (by intro e; injection e with e; exact n68 e.symm)).grown hg8' (by intro e; injection e with e; exact n78 e.symm)) 0 (.int .i64 E0) (by kernel_rfl) (by simp) rfl rfl rfl rfl rfl ?_
              intro w9 hB89 hg9
              refine hK _ _ ?_
              clear hK K
              have z6 := (hB67.grown hg8' (by intro e; injection e with e; exact n67 e)).grown hg9 (by intro e; injection e with e; exact n68 e)
              have z7 := hB78.grown hg9 (by intro e; injection e with e; exact n78 e)
              have z8 : Blk w9 q8 51 [.int .i64 E0] := hB89
              have HG := Lib.hid (And.intro hb6 (And.intro hg7' (And.intro hg8' hg9)))
              refine wpAny_done (by kernel_rfl) ?_ _
              go_wp2
              have e0 : w9.cell? ⟨q6, 0, none⟩ = some (.int .i64 0) := (z6.cell 0).trans rfl
              have e1 : w9.cell? ⟨q6, 1, none⟩ = some (.int .i64 0) := (z6.cell 1).trans rfl
              have e2 : w9.cell? ⟨q6, 2, none⟩ = some (.bool false) := (z6.cell 2).trans rfl
              have e3 : w9.cell? ⟨q6, 3, none⟩ = some (.int .i64 0) := (z6.cell 3).trans rfl
              have e4 : w9.cell? ⟨q6, 4, none⟩ = some (.slice none 0 0) := (z6.cell 4).trans rfl
              have f0 : w9.cell? ⟨q7, 0, none⟩ = some (.int .i64 0) := (z7.cell 0).trans rfl
              have f1 : w9.cell? ⟨q7, 1, none⟩ = some (.int .i64 0) := (z7.cell 1).trans rfl
              have f2 : w9.cell? ⟨q7, 2, none⟩ = some (.int .i64 0) := (z7.cell 2).trans rfl
              have f3 : w9.cell? ⟨q7, 3, none⟩ = some (.int .i64 0) := (z7.cell 3).trans rfl
              have f4 : w9.cell? ⟨q7, 4, none⟩ = some (.int .i64 0) := (z7.cell 4).trans rfl
              have f5 : w9.cell? ⟨q7, 5, none⟩ = some (.int .i64 0) := (z7.cell 5).trans rfl
              have f6 : w9.cell? ⟨q7, 6, none⟩ = some (.int .i64 0) := (z7.cell 6).trans rfl
              have f7 : w9.cell? ⟨q7, 7, none⟩ = some (.int .i64 0) := (z7.cell 7).trans rfl
              have f8 : w9.cell? ⟨q8, 0, none⟩ = some (.int .i64 E0) := (z8.cell 0).trans rfl
              simp [bodyPostD, Leaves, settle, results, Tryd.results34, go_sem, e0, e1, e2, e3, e4, f0, f1, f2, f3, f4, f5, f6, f7, f8]
              obtain ⟨hb6, hg7', hg8', hg9⟩ := HG.out
              have hlo : w.heap.size ≤ q6 ∧ w.heap.size ≤ q7 ∧ w.heap.size ≤ q8 := by have := HQ.out; omega
              have hbw6 := below_next hb6 HB.out.1
              have hb7 : Below w.heap.size w6 w7 := below_of_grown hg7' hbw6.size (by omega)
              have hbw7 := hbw6.trans hb7
              have hb8 : Below w.heap.size w7 w8 := below_of_grown hg8' hbw7.size (by omega)
              have hbw8 := hbw7.trans hb8
              have hb9 : Below w.heap.size w8 w9 := below_of_grown hg9 hbw8.size (by omega)
              obtain ⟨he, hf⟩ := (Sr.err_of hE.out).1 h0
              refine ⟨zterm, by rw [he, hf]; rfl, ?_, hbw8.trans hb9⟩
              rw [Un.term_of.1 (by rw [he]; exact h0)]
              exact KN.zero _ _
    -- END2
end Go.Proofs.YtkjmddgnfgbioaaDoor
