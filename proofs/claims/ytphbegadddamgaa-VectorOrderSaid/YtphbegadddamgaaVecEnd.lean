/-
  Joins are least above, to be within is an order, a tick goes on by one hand alone: each for all clocks, with no condition.
-/
import Derived.Test.YtphbegadddamgaaRows
import Derived.Test.YtphbegadddamgaaVecLaws
namespace Go.Proofs.Ytphbegadddamgaa
open Go.ChangeShapes Go.WideShapes Go.ChangeAt Go.RowKit
set_option linter.unusedVariables false

theorem own : ownKnob Try.prog.godebug = none := by kernel_rfl
theorem laidOut : laidOutB Try.prog = true := by kernel_rfl
theorem cells_u64 : Try.prog.cellsOf 25 = 1 := by kernel_rfl
theorem bytes_u64 : Try.prog.bytesOf 25 = 8 := by kernel_rfl

theorem reach_u64 {H : Type} {ts : List TypeId} {ds : List (DataW H)} {xs : List Int} {d : DataW H} (hsz : (DataW.weightsEach Try.prog ts ds).all (· ≤ reachBytes) = true) {j : Nat} (ht : ts[j]? = some 22) (hd : ds[j]? = some d)
    (h : (d = .nil ∧ xs = []) ∨ ∃ sp : List (DataW H), d = .slice (lits .u64 xs) sp) : xs.length ≤ 17592186044415 := by
  rcases h with ⟨_, rfl⟩ | ⟨sp, rfl⟩
  · simp
  · have := sized_slice hsz ht hd Try.underlying22
    rw [bytes_u64] at this
    simp only [lits, List.length_map, reachBytes] at this
    omega

set_option maxRecDepth 100000 in
theorem vectorJoins_lifted (os : Os) (started : os.Started) (H : Type) (enc : TypeId × Value → H) :
    ReturnsInHanded {} Try.checked os 3 .any (Rows.vectorJoinsSpec.pre6 enc Try.prog Try.f3 Rows.vectorJoinsRow.domain false) (Rows.vectorJoinsSpec.post enc Try.prog Try.f3 false true false false) := by
  refine returnsInHanded_of_change_sized (C := Try.checked) own started (by kernel_rfl) Try.func3
    (ChangeSpec.witness6 (enc := enc) (C := Try.checked) false ⟨#[], #[.slice none 0 0, .slice none 0 0, .slice none 0 0], []⟩ 8 (by kernel_rfl) (by kernel_rfl) (by kernel_rfl) (by kernel_rfl)) ?_
  intro W base args ds gs before hval0 hW _ hsz0 _
  have hsz : (DataW.weightsEach Try.prog (Try.f3.params.toList ++ Rows.vectorJoinsSpec.plain.varTypes Try.prog) (ds ++ gs)).all (· ≤ reachBytes) = true := hsz0
  have hval : ∀ (j : Nat) t v, Try.f3.params[j]? = some t → args[j]? = some v → Value.okWide Try.prog W .any base t v := hval0
  have hW' := hW
  have hlt := hW.lt
  obtain ⟨p, q, hA0, hV, rfl, hfz, hnd⟩ := hW
  have hA : DataW.TrodAll enc Try.prog W 0 (fun _ => true) true Try.f3.params.toList args.toList ds p := hA0
  rw [Try.params3] at hA hval hsz
  obtain ⟨v0, vs0, d0, ds0, p0, q0, hargs, rfl, rfl, h0, r0⟩ := trodAll_cons hA
  obtain ⟨v1, vs1, d1, ds1, p1, q1, rfl, rfl, rfl, h1, r1⟩ := trodAll_cons r0
  obtain ⟨v2, vs2, d2, ds2, p2, q2, rfl, rfl, rfl, h2, r2⟩ := trodAll_cons r1
  obtain ⟨rfl, rfl, rfl⟩ := trodAll_nil r2
  obtain rfl : args = #[v0, v1, v2] := by cases args; simp_all
  obtain ⟨rfl, rfl⟩ := trodVars_none hV
  obtain ⟨xs0, s0, e0⟩ := open_sl Try.underlying22 Try.underlying25 cells_u64 (okWide_slice Try.underlying22 (hval 0 _ v0 rfl rfl)) h0 (fun x hx => by simpa using hlt x (by simp [hx]))
  obtain ⟨xs1, s1, e1⟩ := open_sl Try.underlying22 Try.underlying25 cells_u64 (okWide_slice Try.underlying22 (hval 1 _ v1 rfl rfl)) h1 (fun x hx => by simpa using hlt x (by simp [hx]))
  obtain ⟨xs2, s2, e2⟩ := open_sl Try.underlying22 Try.underlying25 cells_u64 (okWide_slice Try.underlying22 (hval 2 _ v2 rfl rfl)) h2 (fun x hx => by simpa using hlt x (by simp [hx]))
  refine (vectorJoins_walk v0 v1 v2 xs0 xs1 xs2 W s0 s1 s2 (reach_u64 hsz (j := 0) rfl rfl e0) (reach_u64 hsz (j := 1) rfl rfl e1) (reach_u64 hsz (j := 2) rfl rfl e2)).mono fun e W' ⟨he, hb⟩ => ?_
  subst he
  exact ⟨_, rfl, post_true laidOut (by kernel_rfl) Try.underlying4 (by decide +kernel) rfl rfl hW' hb⟩

theorem vectorJoins_holds : Rows.VectorJoinsSaid :=
  OpenClaim.holds_of_wide 3 Try.f3 rfl rfl rfl rfl rfl rfl rfl ⟨rfl, rfl, rfl, rfl, rfl⟩ rfl rfl rfl rfl rfl (by kernel_rfl) Try.func3 (by kernel_rfl)
    (of_decide_eq_true (by kernel_rfl)) (by unfold Func.isWrapper; first | (rw [if_pos (by decide +kernel)]; kernel_rfl) | (rw [if_neg (by decide +kernel)]; exact ⟨rfl, rfl⟩))
    (fun os started H enc _ => vectorJoins_lifted os started H enc)

set_option maxRecDepth 100000 in
theorem vectorOrder_lifted (os : Os) (started : os.Started) (H : Type) (enc : TypeId × Value → H) :
    ReturnsInHanded {} Try.checked os 4 .any (Rows.vectorOrderSpec.pre6 enc Try.prog Try.f4 Rows.vectorOrderRow.domain false) (Rows.vectorOrderSpec.post enc Try.prog Try.f4 false true false false) := by
  refine returnsInHanded_of_change_sized (C := Try.checked) own started (by kernel_rfl) Try.func4
    (ChangeSpec.witness6 (enc := enc) (C := Try.checked) false ⟨#[], #[.slice none 0 0, .slice none 0 0, .slice none 0 0], []⟩ 8 (by kernel_rfl) (by kernel_rfl) (by kernel_rfl) (by kernel_rfl)) ?_
  intro W base args ds gs before hval0 hW _ hsz0 _
  have hsz : (DataW.weightsEach Try.prog (Try.f4.params.toList ++ Rows.vectorOrderSpec.plain.varTypes Try.prog) (ds ++ gs)).all (· ≤ reachBytes) = true := hsz0
  have hval : ∀ (j : Nat) t v, Try.f4.params[j]? = some t → args[j]? = some v → Value.okWide Try.prog W .any base t v := hval0
  have hW' := hW
  have hlt := hW.lt
  obtain ⟨p, q, hA0, hV, rfl, hfz, hnd⟩ := hW
  have hA : DataW.TrodAll enc Try.prog W 0 (fun _ => true) true Try.f4.params.toList args.toList ds p := hA0
  rw [Try.params4] at hA hval hsz
  obtain ⟨v0, vs0, d0, ds0, p0, q0, hargs, rfl, rfl, h0, r0⟩ := trodAll_cons hA
  obtain ⟨v1, vs1, d1, ds1, p1, q1, rfl, rfl, rfl, h1, r1⟩ := trodAll_cons r0
  obtain ⟨v2, vs2, d2, ds2, p2, q2, rfl, rfl, rfl, h2, r2⟩ := trodAll_cons r1
  obtain ⟨rfl, rfl, rfl⟩ := trodAll_nil r2
  obtain rfl : args = #[v0, v1, v2] := by cases args; simp_all
  obtain ⟨rfl, rfl⟩ := trodVars_none hV
  obtain ⟨xs0, s0, e0⟩ := open_sl Try.underlying22 Try.underlying25 cells_u64 (okWide_slice Try.underlying22 (hval 0 _ v0 rfl rfl)) h0 (fun x hx => by simpa using hlt x (by simp [hx]))
  obtain ⟨xs1, s1, e1⟩ := open_sl Try.underlying22 Try.underlying25 cells_u64 (okWide_slice Try.underlying22 (hval 1 _ v1 rfl rfl)) h1 (fun x hx => by simpa using hlt x (by simp [hx]))
  obtain ⟨xs2, s2, e2⟩ := open_sl Try.underlying22 Try.underlying25 cells_u64 (okWide_slice Try.underlying22 (hval 2 _ v2 rfl rfl)) h2 (fun x hx => by simpa using hlt x (by simp [hx]))
  refine (vectorOrder_walk v0 v1 v2 xs0 xs1 xs2 W s0 s1 s2 (reach_u64 hsz (j := 0) rfl rfl e0) (reach_u64 hsz (j := 1) rfl rfl e1)).mono fun e W' ⟨he, hb⟩ => ?_
  subst he
  exact ⟨_, rfl, post_true laidOut (by kernel_rfl) Try.underlying4 (by decide +kernel) rfl rfl hW' hb⟩

theorem vectorOrder_holds : Rows.VectorOrderSaid :=
  OpenClaim.holds_of_wide 4 Try.f4 rfl rfl rfl rfl rfl rfl rfl ⟨rfl, rfl, rfl, rfl, rfl⟩ rfl rfl rfl rfl rfl (by kernel_rfl) Try.func4 (by kernel_rfl)
    (of_decide_eq_true (by kernel_rfl)) (by unfold Func.isWrapper; first | (rw [if_pos (by decide +kernel)]; kernel_rfl) | (rw [if_neg (by decide +kernel)]; exact ⟨rfl, rfl⟩))
    (fun os started H enc _ => vectorOrder_lifted os started H enc)

theorem vectorTicks_walk (v0 : Value) (us : List Int) (i j : Int) (w : World) (h0 : SlI .u64 w v0 us) (r0 : us.length ≤ 17592186044415) :
    Calls Try.prog 5 #[v0, .int .i64 i, .int .i64 j] w fun e w' => e = .returned (.bool true) ∧ Below w.heap.size w w' := by
  by_cases h : i < 0 ∨ j < 0 ∨ 60000 < i ∨ 60000 < j
  · exact vectorTicks_early v0 us i j w h0 h
  · obtain ⟨i, rfl⟩ := Int.eq_ofNat_of_zero_le (show 0 ≤ i by omega)
    obtain ⟨j, rfl⟩ := Int.eq_ofNat_of_zero_le (show 0 ≤ j by omega)
    have le : ∀ k : Nat, us.getD k 0 ≤ 18446744073709551615 := fun k => by
      by_cases hk : k < us.length
      · exact (wf_u64.1 (h0.2.get hk)).2
      · simp [List.getD, show us.length ≤ k by omega]
    have l1 := le i
    have l2 := le j
    by_cases h' : us.getD i 0 = 18446744073709551615 ∨ us.getD j 0 = 18446744073709551615
    · exact vectorTicks_full v0 us i j w h0 (by omega) (by omega) h'
    · exact vectorTicks_main v0 us i j w h0 (by omega) (by omega) (by omega) (by omega) r0

set_option maxRecDepth 100000 in
theorem vectorTicks_lifted (os : Os) (started : os.Started) (H : Type) (enc : TypeId × Value → H) :
    ReturnsInHanded {} Try.checked os 5 .any (Rows.vectorTicksSpec.pre6 enc Try.prog Try.f5 Rows.vectorTicksRow.domain false) (Rows.vectorTicksSpec.post enc Try.prog Try.f5 false true false false) := by
  refine returnsInHanded_of_change_sized (C := Try.checked) own started (by kernel_rfl) Try.func5
    (ChangeSpec.witness6 (enc := enc) (C := Try.checked) false ⟨#[], #[.slice none 0 0, .int .i64 0, .int .i64 0], []⟩ 8 (by kernel_rfl) (by kernel_rfl) (by kernel_rfl) (by kernel_rfl)) ?_
  intro W base args ds gs before hval0 hW _ hsz0 _
  have hsz : (DataW.weightsEach Try.prog (Try.f5.params.toList ++ Rows.vectorTicksSpec.plain.varTypes Try.prog) (ds ++ gs)).all (· ≤ reachBytes) = true := hsz0
  have hval : ∀ (j : Nat) t v, Try.f5.params[j]? = some t → args[j]? = some v → Value.okWide Try.prog W .any base t v := hval0
  have hW' := hW
  have hlt := hW.lt
  obtain ⟨p, q, hA0, hV, rfl, hfz, hnd⟩ := hW
  have hA : DataW.TrodAll enc Try.prog W 0 (fun _ => true) true Try.f5.params.toList args.toList ds p := hA0
  rw [Try.params5] at hA hval hsz
  obtain ⟨v0, vs0, d0, ds0, p0, q0, hargs, rfl, rfl, h0, r0⟩ := trodAll_cons hA
  obtain ⟨v1, vs1, d1, ds1, p1, q1, rfl, rfl, rfl, h1, r1⟩ := trodAll_cons r0
  obtain ⟨v2, vs2, d2, ds2, p2, q2, rfl, rfl, rfl, h2, r2⟩ := trodAll_cons r1
  obtain ⟨rfl, rfl, rfl⟩ := trodAll_nil r2
  obtain rfl : args = #[v0, v1, v2] := by cases args; simp_all
  obtain ⟨rfl, rfl⟩ := trodVars_none hV
  obtain ⟨xs0, s0, e0⟩ := open_sl Try.underlying22 Try.underlying25 cells_u64 (okWide_slice Try.underlying22 (hval 0 _ v0 rfl rfl)) h0 (fun x hx => by simpa using hlt x (by simp [hx]))
  obtain ⟨n1, rfl, rfl, rfl, wn1⟩ := open_int Try.underlying3 (hval 1 _ v1 rfl rfl) h1
  obtain ⟨n2, rfl, rfl, rfl, wn2⟩ := open_int Try.underlying3 (hval 2 _ v2 rfl rfl) h2
  refine (vectorTicks_walk v0 xs0 n1 n2 W s0 (reach_u64 hsz (j := 0) rfl rfl e0)).mono fun e W' ⟨he, hb⟩ => ?_
  subst he
  exact ⟨_, rfl, post_true laidOut (by kernel_rfl) Try.underlying4 (by decide +kernel) rfl rfl hW' hb⟩

theorem vectorTicks_holds : Rows.VectorTicksSaid :=
  OpenClaim.holds_of_wide 5 Try.f5 rfl rfl rfl rfl rfl rfl rfl ⟨rfl, rfl, rfl, rfl, rfl⟩ rfl rfl rfl rfl rfl (by kernel_rfl) Try.func5 (by kernel_rfl)
    (of_decide_eq_true (by kernel_rfl)) (by unfold Func.isWrapper; first | (rw [if_pos (by decide +kernel)]; kernel_rfl) | (rw [if_neg (by decide +kernel)]; exact ⟨rfl, rfl⟩))
    (fun os started H enc _ => vectorTicks_lifted os started H enc)
end Go.Proofs.Ytphbegadddamgaa
