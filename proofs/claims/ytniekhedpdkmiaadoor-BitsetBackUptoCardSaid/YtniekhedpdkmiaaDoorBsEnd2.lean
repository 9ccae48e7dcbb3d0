/-
  To be within is an order, of which both is the greatest below, and either the least above; a set is made of its list again: lists rise, and have each number once. On condition that what is read is of bulk at most 1048576; the table of math/bits is as its initialiser lays it (tied to the program's text).
-/
import Derived.Test.YtniekhedpdkmiaaDoorBsEnd
import Derived.Test.YtniekhedpdkmiaaDoorBs13
import Derived.Test.YtniekhedpdkmiaaDoorBs14
namespace Go.Proofs.YtniekhedpdkmiaaDoor
set_option linter.unusedVariables false
set_option linter.unusedSimpArgs false
open Go.ChangeShapes Go.WideShapes Go.ChangeAt Go.RowKit
set_option linter.unusedVariables false

theorem bitsetWithin_met (os : Os) : laidMet Tryd.prog Rows.bitsetWithinUptoRow.laid ((laidWorld os).forCall (fun _ _ => 0) ⟨#[], #[.slice none 0 0, .slice none 0 0, .slice none 0 0], []⟩).memory :=
  laidMet_of_run' 8 (by kernel_rfl) (by kernel_rfl)
theorem bitsetWithin_reads (os : Os) {H : Type} (enc : TypeId × Value → H) : ∃ places, DataW.whole enc Tryd.prog ((laidWorld os).forCall (fun _ _ => 0) ⟨#[], #[.slice none 0 0, .slice none 0 0, .slice none 0 0], []⟩).memory Tryd.f5.params.toList Rows.bitsetWithinSpec.vars false #[.slice none 0 0, .slice none 0 0, .slice none 0 0].toList 8 = some ([.nil, .nil, .nil], [], places) :=
  ⟨[], by kernel_rfl⟩
set_option maxRecDepth 100000 in
theorem bitsetWithin_lifted (os : Os) (started : os.Started) (H : Type) (enc : TypeId × Value → H) (F : Stop.Interp) :
    ReturnsInHanded {} Tryd.checked os 5 .any ((Rows.OpenSpec.upto Rows.bitsetWithinSpec).preRow enc Tryd.prog Tryd.f5 Rows.bitsetWithinUptoRow.domain false Rows.bitsetWithinUptoRow.laid) (((Rows.OpenSpec.upto Rows.bitsetWithinSpec).at F).post enc Tryd.prog Tryd.f5 false true false false) := by
  obtain ⟨places, hx⟩ := bitsetWithin_reads os enc
  refine returnsInHanded_of_row (C := Tryd.checked) (s := (Rows.OpenSpec.upto Rows.bitsetWithinSpec)) own started (by kernel_rfl) Tryd.func5
    (witness_row_at (enc := enc) (C := Tryd.checked) false (laidWorld os) #[.slice none 0 0, .slice none 0 0, .slice none 0 0] rfl (by kernel_rfl) (by kernel_rfl) (by kernel_rfl)
      (OpenSpec.preRow_of_cond 8 hx (by kernel_rfl) (fun k hk => by cases hk; kernel_rfl) (by kernel_rfl) (bitsetWithin_met os))) ?_
  intro W base args ds gs before hval0 hW _ hcond _ hL _ _
  have hk := hcond _ rfl
  have hT := tab_of_bitsetWithin hL
  have hval : ∀ (j : Nat) t v, Tryd.f5.params[j]? = some t → args[j]? = some v → Value.okWide Tryd.prog W .any base t v := hval0
  have hW' := hW
  have hlt := hW.lt
  obtain ⟨p, q, hA0, hV, rfl, hfz, hnd⟩ := hW
  have hA : DataW.TrodAll enc Tryd.prog W 0 (fun _ => true) true Tryd.f5.params.toList args.toList ds p := hA0
  rw [Tryd.params5] at hA hval
  obtain ⟨v0, vs0, d0, ds0, p0, q0, hargs, rfl, rfl, h0, r0⟩ := trodAll_cons hA
  obtain ⟨v1, vs1, d1, ds1, p1, q1, rfl, rfl, rfl, h1, r1⟩ := trodAll_cons r0
  obtain ⟨v2, vs2, d2, ds2, p2, q2, rfl, rfl, rfl, h2, r2⟩ := trodAll_cons r1
  obtain ⟨rfl, rfl, rfl⟩ := trodAll_nil r2
  obtain rfl : args = #[v0, v1, v2] := by cases args; simp_all
  obtain ⟨rfl, rfl⟩ := trodVars_none hV
  obtain ⟨xs0, s0, e0⟩ := open_sl Tryd.underlying22 Tryd.underlying25 cells_u64 (okWide_slice Tryd.underlying22 (hval 0 _ v0 rfl rfl)) h0 (fun x hx => by simpa using hlt x (by simp [hx]))
  obtain ⟨xs1, s1, e1⟩ := open_sl Tryd.underlying22 Tryd.underlying25 cells_u64 (okWide_slice Tryd.underlying22 (hval 1 _ v1 rfl rfl)) h1 (fun x hx => by simpa using hlt x (by simp [hx]))
  obtain ⟨xs2, s2, e2⟩ := open_sl Tryd.underlying22 Tryd.underlying25 cells_u64 (okWide_slice Tryd.underlying22 (hval 2 _ v2 rfl rfl)) h2 (fun x hx => by simpa using hlt x (by simp [hx]))
  have hk' : Rows.uptoBulkAll [d0, d1, d2] ≤ 1048576 := by simpa [Rows.uptoSmall] using hk
  rw [Rows.uptoBulkAll, Rows.uptoBulkAll, Rows.uptoBulkAll, Rows.uptoBulkAll] at hk'
  have l0 := Bs.bulk_words e0
  have l1 := Bs.bulk_words e1
  have l2 := Bs.bulk_words e2
  refine (bitsetWithin_walk W v0 v1 v2 _ _ _ hT (Bs.words s0) (Bs.words s1) (Bs.words s2) (by omega) (by omega) (by omega)).mono fun e W' ⟨he, hb⟩ => ?_
  subst he
  exact ⟨_, rfl, post_true laidOut (by kernel_rfl) Tryd.underlying4 (by decide +kernel) rfl rfl hW' hb⟩

theorem bitsetWithin_upto : Rows.BitsetWithinUptoSaid :=
  OpenClaim.holds_of_cond 5 Tryd.f5 rfl rfl rfl rfl rfl rfl rfl ⟨rfl, rfl, rfl, rfl, rfl⟩ rfl rfl rfl rfl rfl (by kernel_rfl) Tryd.func5 (by kernel_rfl)
    (of_decide_eq_true (by kernel_rfl)) (by unfold Func.isWrapper; first | (rw [if_pos (by decide +kernel)]; kernel_rfl) | (rw [if_neg (by decide +kernel)]; exact ⟨rfl, rfl⟩))
    (fun os started H enc _ F => by rw [OpenClaim.pre_eq_preRow]; exact bitsetWithin_lifted os started H enc F)
theorem bitsetWithin_plain (f : FuncId) (fn : Func) (hf : Tryd.pinned.checked.prog.funcNamed "forkwright/forkwrightkeep.BitsetWithin" = some f) (hfn : Tryd.pinned.checked.prog.funcs[f]? = some fn) :
    false = Tryd.pinned.checked.prog.looks [] ∧ ∀ (j : Nat) t, fn.params[j]? = some t → Tryd.pinned.checked.prog.wantsStandIn t = false := by
  obtain rfl : f = 5 := Option.some.inj ((show Tryd.prog.funcNamed "forkwright/forkwrightkeep.BitsetWithin" = some 5 by kernel_rfl).symm.trans hf) |>.symm
  obtain rfl : fn = Tryd.f5 := (Option.some.inj (Tryd.func5.symm.trans hfn)).symm
  refine ⟨by kernel_rfl, fun j t ht => ?_⟩
  rw [Tryd.params5] at ht
  have hm := Array.mem_of_getElem? ht
  obtain rfl : t = 22 := by simpa using hm
  exact (show Tryd.prog.wantsStandIn 22 = false by kernel_rfl)
theorem bitsetWithin_card : Rows.BitsetWithinUptoCardSaid :=
  Claim7.holds_tied_plain_at .later [] _ _ _ _ bitsetWithin_upto (fun _ h => by cases h) (by kernel_rfl) (fun _ h => by cases h) bitsetWithinUpto_row_tie rfl ⟨rfl, rfl⟩ (by kernel_rfl) rfl bitsetWithin_plain (by kernel_rfl)

theorem bitsetBack_met (os : Os) : laidMet Tryd.prog Rows.bitsetBackUptoRow.laid ((laidWorld os).forCall (fun _ _ => 0) ⟨#[], #[.slice none 0 0], []⟩).memory :=
  laidMet_of_run' 8 (by kernel_rfl) (by kernel_rfl)
theorem bitsetBack_reads (os : Os) {H : Type} (enc : TypeId × Value → H) : ∃ places, DataW.whole enc Tryd.prog ((laidWorld os).forCall (fun _ _ => 0) ⟨#[], #[.slice none 0 0], []⟩).memory Tryd.f6.params.toList Rows.bitsetBackSpec.vars false #[.slice none 0 0].toList 8 = some ([.nil], [], places) :=
  ⟨[], by kernel_rfl⟩
set_option maxRecDepth 100000 in
theorem bitsetBack_lifted (os : Os) (started : os.Started) (H : Type) (enc : TypeId × Value → H) (F : Stop.Interp) :
    ReturnsInHanded {} Tryd.checked os 6 .any ((Rows.OpenSpec.upto Rows.bitsetBackSpec).preRow enc Tryd.prog Tryd.f6 Rows.bitsetBackUptoRow.domain false Rows.bitsetBackUptoRow.laid) (((Rows.OpenSpec.upto Rows.bitsetBackSpec).at F).post enc Tryd.prog Tryd.f6 false true false false) := by
  obtain ⟨places, hx⟩ := bitsetBack_reads os enc
  refine returnsInHanded_of_row (C := Tryd.checked) (s := (Rows.OpenSpec.upto Rows.bitsetBackSpec)) own started (by kernel_rfl) Tryd.func6
    (witness_row_at (enc := enc) (C := Tryd.checked) false (laidWorld os) #[.slice none 0 0] rfl (by kernel_rfl) (by kernel_rfl) (by kernel_rfl)
      (OpenSpec.preRow_of_cond 8 hx (by kernel_rfl) (fun k hk => by cases hk; kernel_rfl) (by kernel_rfl) (bitsetBack_met os))) ?_
  intro W base args ds gs before hval0 hW _ hcond _ hL _ _
  have hk := hcond _ rfl
  have hT := tab_of_bitsetBack hL
  have hval : ∀ (j : Nat) t v, Tryd.f6.params[j]? = some t → args[j]? = some v → Value.okWide Tryd.prog W .any base t v := hval0
  have hW' := hW
  have hlt := hW.lt
  obtain ⟨p, q, hA0, hV, rfl, hfz, hnd⟩ := hW
  have hA : DataW.TrodAll enc Tryd.prog W 0 (fun _ => true) true Tryd.f6.params.toList args.toList ds p := hA0
  rw [Tryd.params6] at hA hval
  obtain ⟨v0, vs0, d0, ds0, p0, q0, hargs, rfl, rfl, h0, r0⟩ := trodAll_cons hA
  obtain ⟨rfl, rfl, rfl⟩ := trodAll_nil r0
  obtain rfl : args = #[v0] := by cases args; simp_all
  obtain ⟨rfl, rfl⟩ := trodVars_none hV
  obtain ⟨xs0, s0, e0⟩ := open_sl Tryd.underlying29 Tryd.underlying3 cells_i64 (okWide_slice Tryd.underlying29 (hval 0 _ v0 rfl rfl)) h0 (fun x hx => by simpa using hlt x (by simp [hx]))
  have hk' : Rows.uptoBulkAll [d0] ≤ 1048576 := by simpa [Rows.uptoSmall] using hk
  rw [Rows.uptoBulkAll, Rows.uptoBulkAll] at hk'
  have l0 := Bs.bulk_words e0
  rw [List.length_map] at l0
  refine (bitsetBack_walk W v0 xs0 hT s0.1 (by omega)).mono fun e W' ⟨he, hb⟩ => ?_
  subst he
  exact ⟨_, rfl, post_true laidOut (by kernel_rfl) Tryd.underlying4 (by decide +kernel) rfl rfl hW' hb⟩

theorem bitsetBack_upto : Rows.BitsetBackUptoSaid :=
  OpenClaim.holds_of_cond 6 Tryd.f6 rfl rfl rfl rfl rfl rfl rfl ⟨rfl, rfl, rfl, rfl, rfl⟩ rfl rfl rfl rfl rfl (by kernel_rfl) Tryd.func6 (by kernel_rfl)
    (of_decide_eq_true (by kernel_rfl)) (by unfold Func.isWrapper; first | (rw [if_pos (by decide +kernel)]; kernel_rfl) | (rw [if_neg (by decide +kernel)]; exact ⟨rfl, rfl⟩))
    (fun os started H enc _ F => by rw [OpenClaim.pre_eq_preRow]; exact bitsetBack_lifted os started H enc F)
theorem bitsetBack_plain (f : FuncId) (fn : Func) (hf : Tryd.pinned.checked.prog.funcNamed "forkwright/forkwrightkeep.BitsetBack" = some f) (hfn : Tryd.pinned.checked.prog.funcs[f]? = some fn) :
    false = Tryd.pinned.checked.prog.looks [] ∧ ∀ (j : Nat) t, fn.params[j]? = some t → Tryd.pinned.checked.prog.wantsStandIn t = false := by
  obtain rfl : f = 6 := Option.some.inj ((show Tryd.prog.funcNamed "forkwright/forkwrightkeep.BitsetBack" = some 6 by kernel_rfl).symm.trans hf) |>.symm
  obtain rfl : fn = Tryd.f6 := (Option.some.inj (Tryd.func6.symm.trans hfn)).symm
  refine ⟨by kernel_rfl, fun j t ht => ?_⟩
  rw [Tryd.params6] at ht
  have hm := Array.mem_of_getElem? ht
  obtain rfl : t = 29 := by simpa using hm
  exact (show Tryd.prog.wantsStandIn 29 = false by kernel_rfl)
theorem bitsetBack_card : Rows.BitsetBackUptoCardSaid :=
  Claim7.holds_tied_plain_at .later [] _ _ _ _ bitsetBack_upto (fun _ h => by cases h) (by kernel_rfl) (fun _ h => by cases h) bitsetBackUpto_row_tie rfl ⟨rfl, rfl⟩ (by kernel_rfl) rfl bitsetBack_plain (by kernel_rfl)
end Go.Proofs.YtniekhedpdkmiaaDoor
