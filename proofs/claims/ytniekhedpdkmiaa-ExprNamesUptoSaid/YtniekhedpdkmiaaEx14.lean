/-
  expr.Put, walked: its third function.
-/
import Derived.Test.YtniekhedpdkmiaaEx13
namespace Go.Proofs.Ytniekhedpdkmiaa
set_option linter.unusedVariables false
set_option linter.unusedSimpArgs false
open Go.RowKit

theorem put3_num (w : World) (q4 q8 : Nat) (n : Int) (hr : Ex.rng n) :
    Calls Try.prog 40 #[.agg (xcells 1 n ⟨#[]⟩ none 0 0).toArray, .pointer (some ⟨q4, 0, none⟩), .pointer (some ⟨q8, 0, none⟩)] w fun r w' => ∃ v, r = .returned v ∧ IsX (.num n) v w' ∧ Below w.heap.size w w' := by
  obtain ⟨p0, p1, hz, hbw⟩ := allocs2 w (xcells 1 n ⟨#[]⟩ none 0 0) Ex.zeros 38 38
  unfold xcells Ex.zeros at p0 p1 hz hbw
  have hB := hbw.size
  unfold xcells
  go_enter Try.func40, Try.ntmps40
  go_wp2_with (refine wpl_put_blk p1 [.int .i64 1, .int .i64 n, .string ⟨#[]⟩, .slice none 0 0] (by kernel_rfl) rfl (xcells_one 1 n ⟨#[]⟩ none 0 0) rfl rfl rfl rfl ?_; intro w3 hB3 hg3)
  exact ret_blk hB3 rfl rfl Try.underlying38 rfl (by kernel_rfl) rfl ⟨_, rfl, ⟨_, rfl, .num n ⟨#[]⟩ none 0 0 (Nat.le_refl _) (Nat.zero_le _) hr⟩, hbw.trans (below_of_grown hg3 hB (by omega))⟩

theorem put3_other (w : World) (q4 q8 : Nat) (s t : ByteArray) (h4 : w.cell? ⟨q4, 0, none⟩ = some (.string t)) (hl : q4 < w.heap.size) (hne : (s.toList == t.toList) = false) :
    Calls Try.prog 40 #[.agg (xcells 2 0 s none 0 0).toArray, .pointer (some ⟨q4, 0, none⟩), .pointer (some ⟨q8, 0, none⟩)] w fun r w' => ∃ v, r = .returned v ∧ IsX (.name s.data.toList) v w' ∧ Below w.heap.size w w' := by
  obtain ⟨p0, p1, hz, hbw⟩ := allocs2 w (xcells 2 0 s none 0 0) Ex.zeros 38 38
  unfold xcells Ex.zeros at p0 p1 hz hbw
  have hB := hbw.size
  have x4 := (hbw.cell (p := ⟨q4, 0, none⟩) hl).trans h4
  clear h4
  unfold xcells
  go_enter Try.func40, Try.ntmps40
  go_wp2_with (refine wpl_put_blk p1 [.int .i64 2, .int .i64 0, .string s, .slice none 0 0] (by kernel_rfl) rfl (xcells_one 2 0 s none 0 0) rfl rfl rfl rfl ?_; intro w3 hB3 hg3)
  exact ret_blk hB3 rfl rfl Try.underlying38 rfl (by kernel_rfl) rfl ⟨_, rfl, ⟨_, rfl, .name 0 s none 0 0 (Nat.le_refl _) (Nat.zero_le _)⟩, hbw.trans (below_of_grown hg3 hB (by omega))⟩

theorem put3_same (w : World) (q4 q5 q7 q8 : Nat) (s t : ByteArray) (cs : List Value) (e : Ex.X) (h4 : w.cell? ⟨q4, 0, none⟩ = some (.string t)) (hl : q4 < w.heap.size) (heq : (s.toList == t.toList) = true)
    (h8 : Blk w q8 75 [.func (.func 39) #[] #[.pointer (some ⟨q5, 0, none⟩), .pointer (some ⟨q7, 0, none⟩)]])
    (h5 : Blk w q5 38 cs) (hx : XR w.heap.size w cs e) (h7 : Blk w q7 40 [.func (.func 38) #[] #[]]) :
    Calls Try.prog 40 #[.agg (xcells 2 0 s none 0 0).toArray, .pointer (some ⟨q4, 0, none⟩), .pointer (some ⟨q8, 0, none⟩)] w fun r w' => ∃ v, r = .returned v ∧ IsX (Ex.copy e) v w' ∧ Below w.heap.size w w' := by
  obtain ⟨p0, p1, hz, hbw⟩ := allocs2 w (xcells 2 0 s none 0 0) Ex.zeros 38 38
  have re := put2_any _ q5 q7 cs e (h5.below hbw) ((hx.later hbw).up hbw.size) (h7.below hbw)
  have g8 := h8.below hbw
  unfold xcells Ex.zeros at p0 p1 hz hbw re g8
  have hB := hbw.size
  have x4 := (hbw.cell (p := ⟨q4, 0, none⟩) hl).trans h4
  have x8 := (g8.cell 0).trans rfl
  simp only [List.getElem?_cons_zero] at x8
  clear h4 h5 h7 h8 g8 hx
  unfold xcells
  go_enter Try.func40, Try.ntmps40
  go_wp2_with fail
  refine re.mono ?_
  rintro r w1 ⟨v, rfl, ⟨cs, rfl, hx⟩, hb1⟩
  have p5 := p1.below hb1
  have hb2 := below_next hb1 hbw
  clear re
  obtain ⟨c0, c1, c2, C3, c4, c5, rfl, -, -⟩ := hx.form
  unfold xcells at hx ⊢
  go_wp2_with (refine wpl_put_blk p5 [.int .i64 c0, .int .i64 c1, .string c2, .slice C3 c4 c5] (by kernel_rfl) rfl (xcells_one c0 c1 c2 C3 c4 c5) rfl rfl rfl rfl ?_; intro w3 hB3 hg3)
  exact ret_blk hB3 rfl rfl Try.underlying38 rfl (by kernel_rfl) rfl ⟨_, rfl, ⟨_, rfl, hx.put p5 hg3⟩, hb2.trans (below_of_grown hg3 hb2.size (by omega))⟩
end Go.Proofs.Ytniekhedpdkmiaa
