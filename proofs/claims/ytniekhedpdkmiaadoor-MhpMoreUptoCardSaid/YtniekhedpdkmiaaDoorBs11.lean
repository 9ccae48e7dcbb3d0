/-
  alive1, walked.
-/
import Derived.Test.YtniekhedpdkmiaaDoorBs10
namespace Go.Proofs.YtniekhedpdkmiaaDoor
set_option linter.unusedVariables false
set_option linter.unusedSimpArgs false
open Go.RowKit

theorem SlU.alloc {w : World} {v : Value} {xs : List Nat} (h : SlU w v xs) (o : Obj) : SlU (w.alloc o) v xs := ⟨h.1.alloc o, h.2⟩
theorem Tab.alloc {w : World} (h : Tab w) (o : Obj) : Tab (w.alloc o) := h.step (below_alloc (Below.refl _ _) _)
theorem len_of {w : World} {sz n : Nat} {v : Value} {vs : List Value} (h : SlV w sz v n vs) : ∃ A c, v = .slice A n c := by
  obtain ⟨A, c, rfl, -⟩ := h
  exact ⟨A, c, rfl⟩

set_option maxHeartbeats 2000000 in
theorem alive1_any (w : World) (hT : Tab w) : Calls Tryd.prog 9 #[] w fun e w' => e = .returned (.bool true) ∧ Below w.heap.size w w' := by
  go_enter Tryd.func9, Tryd.ntmps9
  have hbw : Below w.heap.size w w := Below.refl _ _
  go_wp2_with fail
  refine (of_any _ _ [3, 70, 3, -1] (SlV.lit w (ints .i64 [3, 70, 3, -1]) _ 1 4 rfl (by decide))).mono ?_
  rintro e w1 ⟨u1, rfl, hs, hb1⟩
  rw [Bs.ex_s] at hs
  obtain ⟨U1, c1, rfl⟩ := slU_form hs
  replace hT := (hT.alloc _).step hb1
  replace hbw := below_next hb1 (below_alloc hbw _)
  clear hb1
  go_wp2_with fail
  refine (of_any _ _ [3] (SlV.lit _ (ints .i64 [3]) _ 1 1 rfl (by decide))).mono ?_
  rintro e w2 ⟨u2, rfl, ht, hb2⟩
  rw [Bs.ex_t] at ht
  obtain ⟨U2, c2, rfl⟩ := slU_form ht
  replace hs := (hs.alloc _).below hb2
  replace hT := (hT.alloc _).step hb2
  replace hbw := below_next hb2 (below_alloc hbw _)
  clear hb2
  go_wp2_with fail
  refine (list_any _ _ _ hs hT (by decide)).mono ?_
  rintro e w3 ⟨u3, rfl, hl, hb3⟩
  rw [Bs.ex_ls] at hl
  obtain ⟨U3, c3, rfl⟩ := len_of hl
  replace hs := hs.below hb3
  replace ht := ht.below hb3
  replace hT := hT.step hb3
  replace hbw := below_next hb3 hbw
  clear hb3
  go_wp2_with fail
  refine (equal_i64_call _ _ [3, 70] [3, 70] true rfl _ (hl.alloc _) (SlV.lit _ (ints .i64 [3, 70]) _ 1 2 rfl (by decide))).mono ?_
  rintro e w4 ⟨rfl, hb4⟩
  replace hs := (hs.alloc _).below hb4
  replace ht := (ht.alloc _).below hb4
  replace hl := (hl.alloc _).below hb4
  replace hT := (hT.alloc _).step hb4
  replace hbw := below_next hb4 (below_alloc hbw _)
  clear hb4
  clear hl
  go_wp2_with fail
  refine (size_any _ _ _ hs (by decide)).mono ?_
  rintro e w5 ⟨rfl, rfl⟩
  rw [Bs.ex_more.1]
  go_wp2_with fail
  refine (within_any _ _ _ _ _ ht hs (by decide) (by decide) true (by rw [Bs.ex_more.2.1]; rfl)).mono ?_
  rintro e w6 ⟨rfl, hb6⟩
  replace hs := hs.below hb6
  replace ht := ht.below hb6
  replace hT := hT.step hb6
  replace hbw := below_next hb6 hbw
  clear hb6
  go_wp2_with fail
  refine (within_any _ _ _ _ _ hs ht (by decide) (by decide) false (by rw [Bs.ex_more.2.2.1]; rfl)).mono ?_
  rintro e w7 ⟨rfl, hb7⟩
  replace hs := hs.below hb7
  replace ht := ht.below hb7
  replace hT := hT.step hb7
  replace hbw := below_next hb7 hbw
  clear hb7
  go_wp2_with fail
  refine (and_any _ _ _ _ _ hs ht (by decide) (by decide)).mono ?_
  rintro e w8 ⟨u8, rfl, ha, hb8⟩
  rw [Bs.ex_more.2.2.2.1] at ha
  obtain ⟨U8, c8, rfl⟩ := slU_form ha
  replace hs := hs.below hb8
  replace ht := ht.below hb8
  replace hT := hT.step hb8
  replace hbw := below_next hb8 hbw
  clear hb8
  clear ha
  go_wp2_with fail
  refine (less_any _ _ _ _ _ ht hs (by decide) (by decide)).mono ?_
  rintro e w9 ⟨u9, rfl, ha, hb9⟩
  rw [Bs.ex_more.2.1] at ha
  obtain ⟨U9, c9, rfl⟩ := slU_form ha
  replace hs := hs.below hb9
  replace ht := ht.below hb9
  replace hT := hT.step hb9
  replace hbw := below_next hb9 hbw
  clear hb9
  clear ha
  go_wp2_with fail
  refine (or_any _ _ _ _ _ hs ht (by decide) (by decide)).mono ?_
  rintro e w10 ⟨u10, rfl, ha, hb10⟩
  rw [Bs.ex_more.2.2.2.2] at ha
  obtain ⟨U10, c10, rfl⟩ := slU_form ha
  replace hs := hs.below hb10
  replace ht := ht.below hb10
  replace hT := hT.step hb10
  replace hbw := below_next hb10 hbw
  clear hb10
  clear hs ht ha hT
  go_wp2
  go_ret
  exact ⟨rfl, hbw⟩
end Go.Proofs.YtniekhedpdkmiaaDoor
