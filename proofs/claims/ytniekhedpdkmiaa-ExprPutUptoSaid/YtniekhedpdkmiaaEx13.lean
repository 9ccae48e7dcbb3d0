/-
  expr.Put, walked: the functions in it.
-/
import Derived.Test.YtniekhedpdkmiaaEx12
namespace Go.Proofs.Ytniekhedpdkmiaa
set_option linter.unusedVariables false
set_option linter.unusedSimpArgs false
open Go.RowKit

theorem put1_any (cs : List Value) (e : Ex.X) (w : World) (h : XN w.heap.size w cs e) : Calls Try.prog 38 #[.agg cs.toArray] w fun r w' => ∃ v, r = .returned v ∧ IsX e v w' ∧ Below w.heap.size w w' := by
  obtain ⟨a0, a1, a2, A3, a4, a5, rfl, -, -⟩ := h.form
  obtain ⟨p0, p1, hz, hbw⟩ := allocs2 w (xcells a0 a1 a2 A3 a4 a5) (xcells a0 a1 a2 A3 a4 a5) 38 38
  have hx := (h.later hbw).up hbw.size
  unfold xcells at p0 p1 hz hbw hx ⊢
  have HX := Lib.hid (And.intro p1 (And.intro hx hbw))
  clear hz h p0 p1 hx hbw
  go_enter Try.func38, Try.ntmps38
  go_wp2
  obtain ⟨h1, h2, h3⟩ := HX.out
  exact ret_blk h1 rfl rfl Try.underlying38 rfl (by kernel_rfl) rfl ⟨_, rfl, ⟨_, rfl, h2⟩, h3⟩
theorem leafs_same (S : World → Prop) : Leafs S 38 #[] (fun x => x) where
  ent := enters_of Try.func38 (by kernel_rfl) rfl
  num := fun w n _ hr => put1_any _ _ w (.num n ⟨#[]⟩ none 0 0 (Nat.le_refl _) (Nat.zero_le _) hr)
  name := fun w s _ => put1_any _ _ w (.name 0 s none 0 0 (Nat.le_refl _) (Nat.zero_le _))
theorem combs_with (S : World → Prop) : Combs S 34 #[] .two where
  ent := enters_of Try.func34 (by kernel_rfl) rfl
  two := fun w k va vb ea eb _ hk3 hk9 ha hb => by
    obtain ⟨ca, rfl, ha⟩ := ha
    obtain ⟨cb, rfl, hb⟩ := hb
    exact (with_any k ca cb ea eb w ha hb hk3 hk9).mono fun r w' ⟨cs, h1, h2, h3⟩ => ⟨_, h1, ⟨cs, rfl, h2⟩, h3⟩

/-- a copy -/
def Ex.copy : Ex.X → Ex.X := Ex.reb (fun x => x) .two
theorem put2_any (w : World) (q5 q7 : Nat) (cs : List Value) (e : Ex.X) (h5 : Blk w q5 38 cs) (hx : XR w.heap.size w cs e) (h7 : Blk w q7 40 [.func (.func 38) #[] #[]]) :
    Calls Try.prog 39 #[.pointer (some ⟨q5, 0, none⟩), .pointer (some ⟨q7, 0, none⟩)] w fun r w' => ∃ v, r = .returned v ∧ IsX (Ex.copy e) v w' ∧ Below w.heap.size w w' := by
  obtain ⟨a0, a1, a2, A3, a4, a5, rfl, -, -⟩ := hx.form
  have p1 := Blk.new w 38 Ex.zeros
  have hbw : Below w.heap.size w (w.alloc (.cells Ex.zeros.toArray 38)) := below_alloc (Below.refl _ _) _
  have re := reb_ok (fun _ => True) (fun _ _ _ _ => trivial) _ _ _ _ _ _ (leafs_same _) (combs_with _) e _ _ trivial ((hx.later hbw).up hbw.size)
  have g5 := h5.below hbw
  have g7 := h7.below hbw
  unfold xcells Ex.zeros at p1 hbw re g5 g7
  have x0 := (g5.cell 0).trans rfl
  have x1 := (g5.cell 1).trans rfl
  have x2 := (g5.cell 2).trans rfl
  have x3 := (g5.cell 3).trans rfl
  have x7 := (g7.cell 0).trans rfl
  simp only [List.getElem?_cons_zero, List.getElem?_cons_succ] at x0 x1 x2 x3 x7
  have hB := hbw.size
  clear hx g5 g7 h5 h7
  go_enter Try.func39, Try.ntmps39
  go_wp2_with fail
  refine re.mono ?_
  rintro r w1 ⟨v, rfl, ⟨cs, rfl, hx⟩, hb1⟩
  have p5 := p1.below hb1
  have hb2 := below_next hb1 hbw
  clear re
  obtain ⟨c0, c1, c2, C3, c4, c5, rfl, -, -⟩ := hx.form
  unfold xcells at hx ⊢
  go_wp2_with (refine wpl_put_blk p5 [.int .i64 c0, .int .i64 c1, .string c2, .slice C3 c4 c5] (by kernel_rfl) rfl (xcells_one c0 c1 c2 C3 c4 c5) rfl rfl rfl rfl ?_; intro w3 hB3 hg3)
  exact ret_blk hB3 rfl rfl Try.underlying38 rfl (by kernel_rfl) rfl ⟨_, rfl, ⟨_, rfl, hx.put p5 hg3⟩, hb2.trans (below_of_grown hg3 hb2.size (by omega))⟩
end Go.Proofs.Ytniekhedpdkmiaa
