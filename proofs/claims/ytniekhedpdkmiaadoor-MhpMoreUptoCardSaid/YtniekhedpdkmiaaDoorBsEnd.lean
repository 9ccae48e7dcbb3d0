/-
  And and or do not hang on the order, each goes over the other, what is in both with what is in one alone is all of it; the sizes of two sets are those of what is in either and of what is in both. On condition that what is read is of bulk at most 1048576; the table of math/bits is as its initialiser lays it (tied to the program's text).
-/
import Derived.Test.YtniekhedpdkmiaaDoorCards
import Derived.Test.YtniekhedpdkmiaaDoorTie
import Derived.Test.YtniekhedpdkmiaaDoorLawEnd
import Derived.Test.YtniekhedpdkmiaaDoorBs12
import Derived.WalkKit
import Derived.ProofKit
import Derived.OpenShut
import Derived.Deep.DeepHandedRow
import Derived.Lib.LaidTab
namespace Go.Proofs.YtniekhedpdkmiaaDoor
set_option linter.unusedVariables false
set_option linter.unusedSimpArgs false
open Go.ChangeShapes Go.WideShapes Go.ChangeAt Go.RowKit
set_option linter.unusedVariables false

theorem gTab : Tryd.prog.globalNamed "math/bits.deBruijn64tab" = some 0 := by kernel_rfl
theorem gTabType : (Tryd.prog.globals[0]?).map (·.type) = some 79 := by kernel_rfl
theorem cellsTab : Tryd.prog.cellsOf 79 = 64 := by kernel_rfl
theorem cellsByte : Tryd.prog.cellsOf 5 = 1 := by kernel_rfl
def tabInts : List Int := Lib.deBruijn64tab.map fun (x : Nat) => (x : Int)
theorem tab_is {W : World} (h : Lib.TabIs Tryd.prog W "math/bits.deBruijn64tab" .u8 tabInts) : Tab W := fun j hj => by
  have := h.cell gTab j (by unfold tabInts; rw [List.length_map]; exact hj)
  rw [this]
  unfold tabInts
  simp [List.getD, hj]
theorem tab_of_bitsetAlgebra {W : World} (h : laidMetH Tryd.prog Rows.bitsetAlgebraUptoRow.laid W) : Tab W :=
  tab_is (Lib.tabIs_of_head (rest := []) gTab gTabType Tryd.underlying79 Tryd.underlying5 cellsByte cellsTab h)
theorem tab_of_bitsetCount {W : World} (h : laidMetH Tryd.prog Rows.bitsetCountUptoRow.laid W) : Tab W := tab_of_bitsetAlgebra h
theorem tab_of_bitsetWithin {W : World} (h : laidMetH Tryd.prog Rows.bitsetWithinUptoRow.laid W) : Tab W := tab_of_bitsetAlgebra h
theorem tab_of_bitsetBack {W : World} (h : laidMetH Tryd.prog Rows.bitsetBackUptoRow.laid W) : Tab W := tab_of_bitsetAlgebra h
noncomputable def laidWorld (os : Os) : World :=
  { World.holding Tryd.prog os ⟨#[], #[], []⟩ with heap := (World.holding Tryd.prog os ⟨#[], #[], []⟩).heap.modify 0 fun
      | .cells _ t frozen => .cells (tabInts.map fun z => Value.int .u8 z).toArray t frozen
      | o => o }

theorem cells_u64 : Tryd.prog.cellsOf 25 = 1 := by kernel_rfl
theorem cells_i64 : Tryd.prog.cellsOf 3 = 1 := by kernel_rfl
theorem Bs.bulk_pos {H : Type} (d : DataW H) : 1 ≤ Rows.uptoBulk d := by
  cases d with
  | lit x => cases x <;> simp [Rows.uptoBulk]
  | _ => simp [Rows.uptoBulk]
theorem Bs.bulk_len {H : Type} : ∀ l : List (DataW H), l.length ≤ Rows.uptoBulkAll l
  | [] => by simp
  | x :: l => by
    rw [Rows.uptoBulkAll, List.length_cons]
    have := Bs.bulk_pos x
    have := Bs.bulk_len l
    omega
/-- words that came in -/
theorem Bs.words {W : World} {v : Value} {xs : List Int} (h : SlI .u64 W v xs) : SlU W v (xs.map Int.toNat) := by
  have hx : ∀ x ∈ xs, 0 ≤ x ∧ x ≤ 18446744073709551615 := fun x hm => wf_u64.1 (h.2 x hm)
  refine ⟨?_, fun y hy => ?_⟩
  · have e : nats (xs.map Int.toNat) = ints .u64 xs := by
      rw [nats_ints]
      congr 1
      rw [List.map_map]
      conv => rhs; rw [← List.map_id xs]
      exact List.map_congr_left fun x hm => by have := hx x hm; simp; omega
    rw [e, List.length_map]
    exact h.1
  · obtain ⟨x, hm, rfl⟩ := List.mem_map.1 hy
    have := hx x hm
    omega
theorem Bs.bulk_words {H : Type} {k : IntKind} {d : DataW H} {xs : List Int} (h : (d = .nil ∧ xs = []) ∨ ∃ sp : List (DataW H), d = .slice (lits k xs) sp) : (xs.map Int.toNat).length ≤ Rows.uptoBulk d := by
  rw [List.length_map]
  rcases h with ⟨_, rfl⟩ | ⟨sp, rfl⟩
  · simp
  · have := Bs.bulk_len (lits (H := H) k xs)
    rw [Rows.uptoBulk]
    rw [show (lits (H := H) k xs).length = xs.length by simp [lits]] at this
    omega

theorem bitsetAlgebra_met (os : Os) : laidMet Tryd.prog Rows.bitsetAlgebraUptoRow.laid ((laidWorld os).forCall (fun _ _ => 0) ⟨#[], #[.slice none 0 0, .slice none 0 0, .slice none 0 0], []⟩).memory :=
  laidMet_of_run' 8 (by kernel_rfl) (by kernel_rfl)
theorem bitsetAlgebra_reads (os : Os) {H : Type} (enc : TypeId × Value → H) : ∃ places, DataW.whole enc Tryd.prog ((laidWorld os).forCall (fun _ _ => 0) ⟨#[], #[.slice none 0 0, .slice none 0 0, .slice none 0 0], []⟩).memory Tryd.f3.params.toList Rows.bitsetAlgebraSpec.vars false #[.slice none 0 0, .slice none 0 0, .slice none 0 0].toList 8 = some ([.nil, .nil, .nil], [], places) :=
  ⟨[], by kernel_rfl⟩
set_option maxRecDepth 100000 in
theorem bitsetAlgebra_lifted (os : Os) (started : os.Started) (H : Type) (enc : TypeId × Value → H) (F : Stop.Interp) :
    ReturnsInHanded {} Tryd.checked os 3 .any ((Rows.OpenSpec.upto Rows.bitsetAlgebraSpec).preRow enc Tryd.prog Tryd.f3 Rows.bitsetAlgebraUptoRow.domain false Rows.bitsetAlgebraUptoRow.laid) (((Rows.OpenSpec.upto Rows.bitsetAlgebraSpec).at F).post enc Tryd.prog Tryd.f3 false true false false) := by
  obtain ⟨places, hx⟩ := bitsetAlgebra_reads os enc
  refine returnsInHanded_of_row (C := Tryd.checked) (s := (Rows.OpenSpec.upto Rows.bitsetAlgebraSpec)) own started (by kernel_rfl) Tryd.func3
    (witness_row_at (enc := enc) (C := Tryd.checked) false (laidWorld os) #[.slice none 0 0, .slice none 0 0, .slice none 0 0] rfl (by kernel_rfl) (by kernel_rfl) (by kernel_rfl)
      (OpenSpec.preRow_of_cond 8 hx (by kernel_rfl) (fun k hk => by cases hk; kernel_rfl) (by kernel_rfl) (bitsetAlgebra_met os))) ?_
  intro W base args ds gs before hval0 hW _ hcond _ hL _ _
  have hk := hcond _ rfl
  have hT := tab_of_bitsetAlgebra hL
  have hval : ∀ (j : Nat) t v, Tryd.f3.params[j]? = some t → args[j]? = some v → Value.okWide Tryd.prog W .any base t v := hval0
  have hW' := hW
  have hlt := hW.lt
  obtain ⟨p, q, hA0, hV, rfl, hfz, hnd⟩ := hW
  have hA : DataW.TrodAll enc Tryd.prog W 0 (fun _ => true) true Tryd.f3.params.toList args.toList ds p := hA0
  rw [Tryd.params3] at hA hval
  obtain ⟨v0, vs0, d0, ds0, p0, q0, hargs, rfl, rfl, h0, r0⟩ := trodAll_cons hA
  obtain ⟨v1, vs1, d1, ds1, p1, q1, rfl, rfl, rfl, h1, r1⟩ := trodAll_cons r0
  obtain ⟨v2, vs2, d2, ds2, p2, q2, rfl, rfl, rfl, h2, r2⟩ := trodAll_cons r1
  obtain ⟨rfl, rfl, rfl⟩ := trodAll_nil r2
  obtain rfl : args = #[v0, v1, v2] := by cases args; simp_all
  obtain ⟨rfl, rfl⟩ := trodVars_none hV
  obtain ⟨xs0, s0, e0⟩ := open_sl Tryd.underlying22 Tryd.underlying25 cells_u64 (okWide_slice Tryd.underlying22 (hval 0 _ v0 rfl rfl)) h0 (fun x hx => by simpa using hlt x (by simp [hx]))
  obtain ⟨xs1, s1, e1⟩ := open_sl Tryd.underlying22 Tryd.underlying25 cells_u64 (okWide_slice Tryd.underlying22 (hval 1 _ v1 rfl rfl)) h1 (fun x hx => by simpa using hlt x (by simp [hx]))
  obtain ⟨xs2, s2, e2⟩ := open_sl Tryd.underlying22 Tryd.underlying25 cells_u64 (okWide_slice Tryd.underlying22 (hval 2 _ v2 rfl rfl)) h2 (fun x hx => by simpa using hlt x (by simp [hx]))
  have hk' : Rows.uptoBulkAll [d0, d1, d2] ≤ 1048576 := by simpa [Rows.uptoSmall] using hk
  rw [Rows.uptoBulkAll, Rows.uptoBulkAll, Rows.uptoBulkAll, Rows.uptoBulkAll] at hk'
  have l0 := Bs.bulk_words e0
  have l1 := Bs.bulk_words e1
  have l2 := Bs.bulk_words e2
  refine (bitsetAlgebra_walk W v0 v1 v2 _ _ _ hT (Bs.words s0) (Bs.words s1) (Bs.words s2) (by omega) (by omega) (by omega)).mono fun e W' ⟨he, hb⟩ => ?_
  subst he
  exact ⟨_, rfl, post_true laidOut (by kernel_rfl) Tryd.underlying4 (by decide +kernel) rfl rfl hW' hb⟩

theorem bitsetAlgebra_upto : Rows.BitsetAlgebraUptoSaid :=
  OpenClaim.holds_of_cond 3 Tryd.f3 rfl rfl rfl rfl rfl rfl rfl ⟨rfl, rfl, rfl, rfl, rfl⟩ rfl rfl rfl rfl rfl (by kernel_rfl) Tryd.func3 (by kernel_rfl)
    (of_decide_eq_true (by kernel_rfl)) (by unfold Func.isWrapper; first | (rw [if_pos (by decide +kernel)]; kernel_rfl) | (rw [if_neg (by decide +kernel)]; exact ⟨rfl, rfl⟩))
    (fun os started H enc _ F => by rw [OpenClaim.pre_eq_preRow]; exact bitsetAlgebra_lifted os started H enc F)
theorem bitsetAlgebra_plain (f : FuncId) (fn : Func) (hf : Tryd.pinned.checked.prog.funcNamed "forkwright/forkwrightkeep.BitsetAlgebra" = some f) (hfn : Tryd.pinned.checked.prog.funcs[f]? = some fn) :
    false = Tryd.pinned.checked.prog.looks [] ∧ ∀ (j : Nat) t, fn.params[j]? = some t → Tryd.pinned.checked.prog.wantsStandIn t = false := by
  obtain rfl : f = 3 := Option.some.inj ((show Tryd.prog.funcNamed "forkwright/forkwrightkeep.BitsetAlgebra" = some 3 by kernel_rfl).symm.trans hf) |>.symm
  obtain rfl : fn = Tryd.f3 := (Option.some.inj (Tryd.func3.symm.trans hfn)).symm
  refine ⟨by kernel_rfl, fun j t ht => ?_⟩
  rw [Tryd.params3] at ht
  have hm := Array.mem_of_getElem? ht
  obtain rfl : t = 22 := by simpa using hm
  exact (show Tryd.prog.wantsStandIn 22 = false by kernel_rfl)
theorem bitsetAlgebra_card : Rows.BitsetAlgebraUptoCardSaid :=
  Claim7.holds_tied_plain_at .later [] _ _ _ _ bitsetAlgebra_upto (fun _ h => by cases h) (by kernel_rfl) (fun _ h => by cases h) bitsetAlgebraUpto_row_tie rfl ⟨rfl, rfl⟩ (by kernel_rfl) rfl bitsetAlgebra_plain (by kernel_rfl)

theorem bitsetCount_met (os : Os) : laidMet Tryd.prog Rows.bitsetCountUptoRow.laid ((laidWorld os).forCall (fun _ _ => 0) ⟨#[], #[.slice none 0 0, .slice none 0 0], []⟩).memory :=
  laidMet_of_run' 8 (by kernel_rfl) (by kernel_rfl)
theorem bitsetCount_reads (os : Os) {H : Type} (enc : TypeId × Value → H) : ∃ places, DataW.whole enc Tryd.prog ((laidWorld os).forCall (fun _ _ => 0) ⟨#[], #[.slice none 0 0, .slice none 0 0], []⟩).memory Tryd.f4.params.toList Rows.bitsetCountSpec.vars false #[.slice none 0 0, .slice none 0 0].toList 8 = some ([.nil, .nil], [], places) :=
  ⟨[], by kernel_rfl⟩
set_option maxRecDepth 100000 in
theorem bitsetCount_lifted (os : Os) (started : os.Started) (H : Type) (enc : TypeId × Value → H) (F : Stop.Interp) :
    ReturnsInHanded {} Tryd.checked os 4 .any ((Rows.OpenSpec.upto Rows.bitsetCountSpec).preRow enc Tryd.prog Tryd.f4 Rows.bitsetCountUptoRow.domain false Rows.bitsetCountUptoRow.laid) (((Rows.OpenSpec.upto Rows.bitsetCountSpec).at F).post enc Tryd.prog Tryd.f4 false true false false) := by
  obtain ⟨places, hx⟩ := bitsetCount_reads os enc
  refine returnsInHanded_of_row (C := Tryd.checked) (s := (Rows.OpenSpec.upto Rows.bitsetCountSpec)) own started (by kernel_rfl) Tryd.func4
    (witness_row_at (enc := enc) (C := Tryd.checked) false (laidWorld os) #[.slice none 0 0, .slice none 0 0] rfl (by kernel_rfl) (by kernel_rfl) (by kernel_rfl)
      (OpenSpec.preRow_of_cond 8 hx (by kernel_rfl) (fun k hk => by cases hk; kernel_rfl) (by kernel_rfl) (bitsetCount_met os))) ?_
  intro W base args ds gs before hval0 hW _ hcond _ hL _ _
  have hk := hcond _ rfl
  have hT := tab_of_bitsetCount hL
  have hval : ∀ (j : Nat) t v, Tryd.f4.params[j]? = some t → args[j]? = some v → Value.okWide Tryd.prog W .any base t v := hval0
  have hW' := hW
  have hlt := hW.lt
  obtain ⟨p, q, hA0, hV, rfl, hfz, hnd⟩ := hW
  have hA : DataW.TrodAll enc Tryd.prog W 0 (fun _ => true) true Tryd.f4.params.toList args.toList ds p := hA0
  rw [Tryd.params4] at hA hval
  obtain ⟨v0, vs0, d0, ds0, p0, q0, hargs, rfl, rfl, h0, r0⟩ := trodAll_cons hA
  obtain ⟨v1, vs1, d1, ds1, p1, q1, rfl, rfl, rfl, h1, r1⟩ := trodAll_cons r0
  obtain ⟨rfl, rfl, rfl⟩ := trodAll_nil r1
  obtain rfl : args = #[v0, v1] := by cases args; simp_all
  obtain ⟨rfl, rfl⟩ := trodVars_none hV
  obtain ⟨xs0, s0, e0⟩ := open_sl Tryd.underlying22 Tryd.underlying25 cells_u64 (okWide_slice Tryd.underlying22 (hval 0 _ v0 rfl rfl)) h0 (fun x hx => by simpa using hlt x (by simp [hx]))
  obtain ⟨xs1, s1, e1⟩ := open_sl Tryd.underlying22 Tryd.underlying25 cells_u64 (okWide_slice Tryd.underlying22 (hval 1 _ v1 rfl rfl)) h1 (fun x hx => by simpa using hlt x (by simp [hx]))
  have hk' : Rows.uptoBulkAll [d0, d1] ≤ 1048576 := by simpa [Rows.uptoSmall] using hk
  rw [Rows.uptoBulkAll, Rows.uptoBulkAll, Rows.uptoBulkAll] at hk'
  have l0 := Bs.bulk_words e0
  have l1 := Bs.bulk_words e1
  refine (bitsetCount_walk W v0 v1 _ _ hT (Bs.words s0) (Bs.words s1) (by omega) (by omega)).mono fun e W' ⟨he, hb⟩ => ?_
  subst he
  exact ⟨_, rfl, post_true laidOut (by kernel_rfl) Tryd.underlying4 (by decide +kernel) rfl rfl hW' hb⟩

theorem bitsetCount_upto : Rows.BitsetCountUptoSaid :=
  OpenClaim.holds_of_cond 4 Tryd.f4 rfl rfl rfl rfl rfl rfl rfl ⟨rfl, rfl, rfl, rfl, rfl⟩ rfl rfl rfl rfl rfl (by kernel_rfl) Tryd.func4 (by kernel_rfl)
    (of_decide_eq_true (by kernel_rfl)) (by unfold Func.isWrapper; first | (rw [if_pos (by decide +kernel)]; kernel_rfl) | (rw [if_neg (by decide +kernel)]; exact ⟨rfl, rfl⟩))
    (fun os started H enc _ F => by rw [OpenClaim.pre_eq_preRow]; exact bitsetCount_lifted os started H enc F)
theorem bitsetCount_plain (f : FuncId) (fn : Func) (hf : Tryd.pinned.checked.prog.funcNamed "forkwright/forkwrightkeep.BitsetCount" = some f) (hfn : Tryd.pinned.checked.prog.funcs[f]? = some fn) :
    false = Tryd.pinned.checked.prog.looks [] ∧ ∀ (j : Nat) t, fn.params[j]? = some t → Tryd.pinned.checked.prog.wantsStandIn t = false := by
  obtain rfl : f = 4 := Option.some.inj ((show Tryd.prog.funcNamed "forkwright/forkwrightkeep.BitsetCount" = some 4 by kernel_rfl).symm.trans hf) |>.symm
  obtain rfl : fn = Tryd.f4 := (Option.some.inj (Tryd.func4.symm.trans hfn)).symm
  refine ⟨by kernel_rfl, fun j t ht => ?_⟩
  rw [Tryd.params4] at ht
  have hm := Array.mem_of_getElem? ht
  obtain rfl : t = 22 := by simpa using hm
  exact (show Tryd.prog.wantsStandIn 22 = false by kernel_rfl)
theorem bitsetCount_card : Rows.BitsetCountUptoCardSaid :=
  Claim7.holds_tied_plain_at .later [] _ _ _ _ bitsetCount_upto (fun _ h => by cases h) (by kernel_rfl) (fun _ h => by cases h) bitsetCountUpto_row_tie rfl ⟨rfl, rfl⟩ (by kernel_rfl) rfl bitsetCount_plain (by kernel_rfl)
end Go.Proofs.YtniekhedpdkmiaaDoor
