/-
  From the top the oldest goes first, from the bottom the newest, on condition that what is read is of bulk at most 1048576.
-/
import Derived.Test.YtniekhedpdkmiaaLawEnd
import Derived.Test.YtniekhedpdkmiaaDeqEnds
namespace Go.Proofs.Ytniekhedpdkmiaa
set_option linter.unusedVariables false
set_option linter.unusedSimpArgs false
open Go.ChangeShapes Go.WideShapes Go.ChangeAt Go.RowKit
set_option linter.unusedVariables false

theorem cells_i64 : Try.prog.cellsOf 3 = 1 := by kernel_rfl
theorem bulk_pos {H : Type} (d : DataW H) : 1 ≤ Rows.uptoBulk d := by
  cases d with
  | lit x => cases x <;> simp [Rows.uptoBulk]
  | _ => simp [Rows.uptoBulk]
theorem bulk_len {H : Type} : ∀ l : List (DataW H), l.length ≤ Rows.uptoBulkAll l
  | [] => by simp
  | x :: l => by
    rw [Rows.uptoBulkAll, List.length_cons]
    have := bulk_pos x
    have := bulk_len l
    omega
theorem Dq.rows_ops (rs : List (List Int)) (h : ∀ r ∈ rs, r.length = 2 ∧ Wfs .i64 r) : ∃ ops : List Deq.Op, rs.flatMap irow = Dq.opcs ops ∧ ops.length = rs.length := by
  refine ⟨rs.map fun r => ⟨r.getD 0 0, r.getD 1 0⟩, ?_, by simp⟩
  induction rs with
  | nil => rfl
  | cons r rs ih =>
    have hr := (h r (by simp)).1
    rw [List.flatMap_cons, ih (fun x hx => h x (by simp [hx]))]
    match r, hr with
    | [a, b], _ => rfl

set_option maxRecDepth 100000 in
theorem dequeEnds_lifted (os : Os) (started : os.Started) (H : Type) (enc : TypeId × Value → H) (F : Stop.Interp) :
    ReturnsInHanded {} Try.checked os 3 .any ((Rows.OpenSpec.upto Rows.dequeEndsSpec).pre6 enc Try.prog Try.f3 Rows.dequeEndsUptoRow.domain false) (((Rows.OpenSpec.upto Rows.dequeEndsSpec).at F).post enc Try.prog Try.f3 false true false false) := by
  refine returnsInHanded_of_cond (C := Try.checked) (s := Rows.OpenSpec.upto Rows.dequeEndsSpec) (k := Rows.uptoSmall) rfl own started (by kernel_rfl) Try.func3
    (OpenSpec.witness (enc := enc) (C := Try.checked) (s := Rows.OpenSpec.upto Rows.dequeEndsSpec) (k := Rows.uptoSmall) rfl false ⟨#[], #[.slice none 0 0, .slice none 0 0], []⟩ 8 (by kernel_rfl) (by kernel_rfl) (by kernel_rfl)
      (x := ([.nil, .nil], [], [])) (by kernel_rfl) rfl (by kernel_rfl)) ?_
  intro W base args ds gs before hval0 hW _ hk _
  have hval : ∀ (j : Nat) t v, Try.f3.params[j]? = some t → args[j]? = some v → Value.okWide Try.prog W .any base t v := hval0
  have hW' := hW
  have hlt := hW.lt
  obtain ⟨p, q, hA0, hV, rfl, hfz, hnd⟩ := hW
  have hA : DataW.TrodAll enc Try.prog W 0 (fun _ => true) true Try.f3.params.toList args.toList ds p := hA0
  rw [Try.params3] at hA hval
  obtain ⟨v0, vs0, d0, ds0, p0, q0, hargs, rfl, rfl, h0, r0⟩ := trodAll_cons hA
  obtain ⟨v1, vs1, d1, ds1, p1, q1, rfl, rfl, rfl, h1, r1⟩ := trodAll_cons r0
  obtain ⟨rfl, rfl, rfl⟩ := trodAll_nil r1
  obtain rfl : args = #[v0, v1] := by cases args; simp_all
  obtain ⟨rfl, rfl⟩ := trodVars_none hV
  obtain ⟨xs1, s1, e1⟩ := open_sl Try.underlying23 Try.underlying3 cells_i64 (okWide_slice Try.underlying23 (hval 1 _ v1 rfl rfl)) h1 (fun x hx => by simpa using hlt x (by simp [hx]))
  obtain ⟨rs, hrs, sl, er⟩ := open_rows Try.underlying22 Try.underlying27 rfl (by decide) (by kernel_rfl) (by kernel_rfl) (okWide_slice Try.underlying22 (hval 0 _ v0 rfl rfl)) h0 (fun x hx => by simpa using hlt x (by simp [hx]))
  obtain ⟨ops, eo, el⟩ := Dq.rows_ops rs hrs
  have hk' := hk
  simp [Rows.uptoSmall, Rows.uptoBulkAll] at hk'
  have b0 : rs.length ≤ Rows.uptoBulk d0 := by
    rcases er with ⟨_, rfl⟩ | ⟨e, sp, rfl, he⟩
    · simp
    · have := bulk_len e
      rw [Rows.uptoBulk]
      omega
  have b1 : xs1.length ≤ Rows.uptoBulk d1 := by
    rcases e1 with ⟨_, rfl⟩ | ⟨sp, rfl⟩
    · simp
    · have := bulk_len (lits (H := H) .i64 xs1)
      rw [Rows.uptoBulk]
      rw [show (lits (H := H) .i64 xs1).length = xs1.length by simp [lits]] at this
      omega
  rw [eo, ← el] at sl
  refine (dequeEnds_walk v0 v1 ops xs1 W sl s1.1 (by omega)).mono fun e W' ⟨he, hb⟩ => ?_
  subst he
  exact ⟨_, rfl, post_true laidOut (by kernel_rfl) Try.underlying4 (by decide +kernel) rfl rfl hW' hb⟩

theorem dequeEnds_upto : Rows.DequeEndsUptoSaid :=
  OpenClaim.holds_of_cond 3 Try.f3 rfl rfl rfl rfl rfl rfl rfl ⟨rfl, rfl, rfl, rfl, rfl⟩ rfl rfl rfl rfl rfl (by kernel_rfl) Try.func3 (by kernel_rfl)
    (of_decide_eq_true (by kernel_rfl)) (by unfold Func.isWrapper; first | (rw [if_pos (by decide +kernel)]; kernel_rfl) | (rw [if_neg (by decide +kernel)]; exact ⟨rfl, rfl⟩))
    (fun os started H enc _ F => dequeEnds_lifted os started H enc F)
end Go.Proofs.Ytniekhedpdkmiaa
