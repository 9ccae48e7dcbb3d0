/-
  expr.Fold, walked.
-/
import Derived.Test.YtniekhedpdkmiaaEx11
namespace Go.Proofs.Ytniekhedpdkmiaa
set_option linter.unusedVariables false
set_option linter.unusedSimpArgs false
open Go.RowKit

theorem combs_fold : Combs (fun _ => True) 32 #[] Ex.fcb where
  ent := enters_of Try.func32 (by kernel_rfl) rfl
  two := fun w k va vb ea eb _ hk3 hk9 ha hb => by
    obtain ⟨ca, rfl, ha⟩ := ha
    obtain ⟨cb, rfl, hb⟩ := hb
    obtain ⟨a0, a1, a2, A3, a4, a5, rfl, -, -⟩ := ha.form
    obtain ⟨b0, b1, b2, B3, b4, b5, rfl, -, -⟩ := hb.form
    have no : ∀ x y : Ex.X, ((∀ n, x ≠ .num n) ∨ (∀ n, y ≠ .num n)) → Ex.fcb k x y = .two k x y := fun x y h => by
      unfold Ex.fcb
      split
      · rcases h with h | h
        · exact absurd rfl (h _)
        · exact absurd rfl (h _)
      · rfl
    rcases ha.kind with ⟨rfl, rfl, r1⟩ | ⟨h1, h1'⟩
    · rcases hb.kind with ⟨rfl, rfl, r2⟩ | ⟨h2, h2'⟩
      · exact fold2_num k a1 b1 a2 b2 A3 B3 a4 a5 b4 b5 w r1 r2
      · rw [no _ _ (.inr h2')]
        exact fold2_yes k _ a1 a2 A3 a4 a5 b0 b1 b2 B3 b4 b5 _ _ w ha hb hk3 hk9 rfl (by simpa using h2)
    · rw [no _ _ (.inl h1')]
      exact fold2_no k _ a1 a2 A3 a4 a5 b0 b1 b2 B3 b4 b5 _ _ w ha hb hk3 hk9 (by simpa using h1)

/-- **expr.Fold** -/
theorem fold_ok (e : Ex.X) (w : World) (cs : List Value) (h : XR w.heap.size w cs e) : Calls Try.prog 13 #[.agg cs.toArray] w fun r w' => ∃ v, r = .returned v ∧ IsX (Ex.reb (fun x => x) Ex.fcb e) v w' ∧ Below w.heap.size w w' := by
  obtain ⟨a0, a1, a2, A3, a4, a5, rfl, -, -⟩ := h.form
  obtain ⟨p0, p1, hz, hbw⟩ := allocs2 w (xcells a0 a1 a2 A3 a4 a5) Ex.zeros 38 38
  have re := reb_ok (fun _ => True) (fun _ _ _ _ => trivial) _ _ _ _ _ _ leafs_fold combs_fold e _ _ trivial ((h.later hbw).up hbw.size)
  unfold xcells Ex.zeros at p0 p1 hz hbw re
  have hB := hbw.size
  clear h
  unfold xcells
  go_enter Try.func13, Try.ntmps13
  go_wp2_with fail
  refine re.mono ?_
  rintro r w1 ⟨v, rfl, ⟨cs, rfl, hx⟩, hb1⟩
  have p5 := p1.below hb1
  have hb2 := below_next hb1 hbw
  clear re
  obtain ⟨c0, c1, c2, C3, c4, c5, rfl, -, -⟩ := hx.form
  unfold xcells at hx ⊢
  go_wp2_with (refine wpl_put_blk p5 [.int .i64 c0, .int .i64 c1, .string c2, .slice C3 c4 c5] (by kernel_rfl) rfl (xcells_one c0 c1 c2 C3 c4 c5) rfl rfl rfl rfl ?_; intro w3 hB3 hg3)
  exact ret_blk hB3 rfl rfl Try.underlying38 rfl (by kernel_rfl) rfl ⟨_, rfl, ⟨_, rfl, hx.put p5 hg3⟩, hb2.trans (below_of_grown hg3 hb2.size (by omega))⟩
end Go.Proofs.Ytniekhedpdkmiaa
