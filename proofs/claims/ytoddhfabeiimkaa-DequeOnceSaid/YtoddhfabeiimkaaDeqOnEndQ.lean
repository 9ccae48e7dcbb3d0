/-
  Every pushed element is taken once or left, whatever is done, with no condition.
-/
import Derived.Test.YtoddhfabeiimkaaDqP1

namespace Go.Proofs.Ytoddhfabeiimkaa
set_option linter.unusedVariables false
set_option linter.unusedSimpArgs false
set_option maxRecDepth 100000
open Go.ChangeShapes Go.WideShapes Go.ChangeAt Go.RowKit
set_option linter.unusedVariables false

theorem Dq.rows_ops (rs : List (List Int)) (h : ∀ r ∈ rs, r.length = 2 ∧ Wfs .i64 r) : ∃ ops : List Deq.Op, rs.flatMap irow = Dq.opcs ops ∧ ops.length = rs.length := by
  refine ⟨rs.map fun r => ⟨r.getD 0 0, r.getD 1 0⟩, ?_, by simp⟩
  induction rs with
  | nil => rfl
  | cons r rs ih =>
    have hr := (h r (by simp)).1
    rw [List.flatMap_cons, ih (fun x hx => h x (by simp [hx]))]
    match r, hr with
    | [a, b], _ => rfl

theorem Dq.bytes_op : Try.prog.bytesOf 30 = 16 := by kernel_rfl

set_option maxRecDepth 100000 in
theorem dequeOnce_lifted (os : Os) (started : os.Started) (H : Type) (enc : TypeId × Value → H) :
    ReturnsInHanded {} Try.checked os 3 .any (Rows.dequeOnceSpec.pre6 enc Try.prog Try.f3 Rows.dequeOnceRow.domain false) (Rows.dequeOnceSpec.post enc Try.prog Try.f3 false true false false) := by
  refine returnsInHanded_of_change_sized (C := Try.checked) own started (by kernel_rfl) Try.func3
    (ChangeSpec.witness6 (enc := enc) (C := Try.checked) false ⟨#[], #[.slice none 0 0], []⟩ 8 (by kernel_rfl) (by kernel_rfl) (by kernel_rfl) (by kernel_rfl)) ?_
  intro W base args ds gs before hval0 hW _ hsz0 _
  have hsz : (DataW.weightsEach Try.prog (Try.f3.params.toList ++ Rows.dequeOnceSpec.plain.varTypes Try.prog) (ds ++ gs)).all (· ≤ reachBytes) = true := hsz0
  have hval : ∀ (j : Nat) t v, Try.f3.params[j]? = some t → args[j]? = some v → Value.okWide Try.prog W .any base t v := hval0
  have hW' := hW
  have hlt := hW.lt
  obtain ⟨p, q, hA0, hV, rfl, hfz, hnd⟩ := hW
  have hA : DataW.TrodAll enc Try.prog W 0 (fun _ => true) true Try.f3.params.toList args.toList ds p := hA0
  rw [Try.params3] at hA hval hsz
  obtain ⟨v0, vs0, d0, ds0, p0, q0, hargs, rfl, rfl, h0, r0⟩ := trodAll_cons hA
  obtain ⟨rfl, rfl, rfl⟩ := trodAll_nil r0
  obtain rfl : args = #[v0] := by cases args; simp_all
  obtain ⟨rfl, rfl⟩ := trodVars_none hV
  obtain ⟨rs, hrs, sl, er⟩ := open_rows Try.underlying22 Try.underlying30 rfl (by decide) (by kernel_rfl) (by kernel_rfl) (okWide_slice Try.underlying22 (hval 0 _ v0 rfl rfl)) h0 (fun x hx => by simpa using hlt x (by simp [hx]))
  obtain ⟨ops, eo, el⟩ := Dq.rows_ops rs hrs
  have hreach := reach_rows hsz (j := 0) (n := rs.length) rfl rfl Try.underlying22 Dq.bytes_op (er.imp (fun h => ⟨h.1, by rw [h.2]; rfl⟩) id)
  rw [eo, ← el] at sl
  refine (dequeOnce_walk v0 ops W sl (by omega)).mono fun e W' ⟨he, hb⟩ => ?_
  subst he
  exact ⟨_, rfl, post_true laidOut (by kernel_rfl) Try.underlying4 (by decide +kernel) rfl rfl hW' hb⟩

theorem dequeOnce_holds : Rows.DequeOnceSaid :=
  OpenClaim.holds_of_wide 3 Try.f3 rfl rfl rfl rfl rfl rfl rfl ⟨rfl, rfl, rfl, rfl, rfl⟩ rfl rfl rfl rfl rfl (by kernel_rfl) Try.func3 (by kernel_rfl)
    (of_decide_eq_true (by kernel_rfl)) (by unfold Func.isWrapper; first | (rw [if_pos (by decide +kernel)]; kernel_rfl) | (rw [if_neg (by decide +kernel)]; exact ⟨rfl, rfl⟩))
    (fun os started H enc _ => dequeOnce_lifted os started H enc)
end Go.Proofs.Ytoddhfabeiimkaa
