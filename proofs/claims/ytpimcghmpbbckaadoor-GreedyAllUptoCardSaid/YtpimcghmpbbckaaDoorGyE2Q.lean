/-
  All is done, each once, nothing ahead of what it waits for. On condition that what is read is of bulk at most 1048576; the table of math/bits is as its initialiser lays it (tied to the program's text).
-/
import Derived.Test.YtpimcghmpbbckaaDoorGyP4

namespace Go.Proofs.YtpimcghmpbbckaaDoor
set_option linter.unusedVariables false
set_option linter.unusedSimpArgs false
set_option maxRecDepth 100000
open Go.ChangeShapes Go.WideShapes Go.ChangeAt Go.RowKit
set_option linter.unusedVariables false

set_option maxHeartbeats 4000000 in
theorem greedyAll_no (n : Int) (es : List Gr.Er) (k : Int) (w : World) (A : Option Addr) (c : Nat) (hA : SlV w 2 (.slice A es.length c) es.length (ercs es)) (hle : es.length ≤ 1099511627776) (hT : Tab w) (h0 : Gy.err n es k ≠ 0) :
    Calls Tryd.prog 3 #[.agg #[.int .i64 n, .slice A es.length c], .int .i64 k] w fun e w' => e = .returned (.bool true) ∧ Below w.heap.size w w' := by
  have hba : Below w.heap.size w (w.alloc (.cells #[.int .i64 n, .slice A es.length c] 24)) := below_alloc (Below.refl _ _) _
  have x0 := Blk.new w 24 [.int .i64 n, .slice A es.length c]
  have HT := Lib.hid hT
  clear hT
  go_enter Tryd.func3, Tryd.ntmps3
  go_upto_region 1 with (fail)
  generalize (w.alloc (.cells #[.int .i64 n, .slice A es.length c] 24)) = W0 at x0 hba ⊢
  go_wp2_with fail
  refine (alive6_any W0 (HT.out.later HT.out.lt hba)).mono ?_
  rintro _ w1 ⟨rfl, hb1⟩
  have x1 := x0.below hb1
  have c0 : w1.cell? ⟨w.heap.size, 0, none⟩ = some (.int .i64 n) := (x1.cell 0).trans rfl
  have c1 : w1.cell? ⟨w.heap.size, 1, none⟩ = some (.slice A es.length c) := (x1.cell 1).trans rfl
  have hb01 := below_next hb1 hba
  have hrd1 := rounds_any n es k w1 A c (hA.below hb01) hle (HT.out.later HT.out.lt hb01)
  have hres : Gy.res n es k = [] := by unfold Gy.res; rw [if_neg h0]
  rw [hres] at hrd1
  clear x0 hba hb1 hres
  go_wp2_with fail
  refine hrd1.mono ?_
  rintro _ w2 ⟨u, os, rfl, hrow, hR, hb2⟩
  have x2 := x1.below hb2
  have hb02 := below_next hb2 hb01
  have hos : os = [] := List.eq_nil_of_length_eq_zero (by rw [hR.1]; rfl)
  subst hos
  obtain ⟨Au, cu, rfl, -, -⟩ := own_slice hrow
  have hwr := wrong_any n es w2 A c (hA.below hb02) hle (HT.out.later HT.out.lt hb02)
  have d0 : w2.cell? ⟨w.heap.size, 0, none⟩ = some (.int .i64 n) := (x2.cell 0).trans rfl
  have d1 : w2.cell? ⟨w.heap.size, 1, none⟩ = some (.slice A es.length c) := (x2.cell 1).trans rfl
  obtain ⟨E, hE⟩ : ∃ E, E = Gy.err n es k := ⟨_, rfl⟩
  obtain ⟨R, hR'⟩ : ∃ R, R = Gr.wrong n es := ⟨_, rfl⟩
  have hER : E = if R ≠ 0 then R else if k < 1 ∨ 16 < k then 2 else 0 := by rw [hE, hR']; rfl
  rw [← hE] at h0 ⊢
  rw [← hR'] at hwr
  have g0 : (E != 0) = true := by simpa using h0
  have HB := Lib.hid hb02
  have HE := Lib.hid (And.intro hER h0)
  clear hrd1 x1 c0 c1 hb01 hb2 hR hrow hER hE hR' h0 hb02 hA x2
  go_wp2_with fail
  refine hwr.mono ?_
  rintro _ w3 ⟨rfl, hb3⟩
  have HB3 := Lib.hid (below_next hb3 HB.out)
  clear hwr hb3 d0 d1
  by_cases hR0 : R = 0
  · subst hR0
    have hk : k < 1 ∨ 16 < k := by
      refine Decidable.byContradiction fun h => HE.out.2 ?_
      rw [HE.out.1, if_neg (by simp), if_neg h]
    clear HE
    rcases k1 : decide (k < 1) with _ | _
    · have k2 : decide (16 < k) = true := decide_eq_true (hk.resolve_left (of_decide_eq_false k1))
      clear hk
      go_wp2_with fail
      go_ret
      exact ⟨rfl, HB3.out⟩
    · clear hk
      go_wp2_with fail
      go_ret
      exact ⟨rfl, HB3.out⟩
  · have g1 : (R != 0) = true := by simpa using hR0
    clear HE hR0
    go_wp2_with fail
    go_ret
    exact ⟨rfl, HB3.out⟩

theorem greedyAll_walk (w : World) (n : Int) (es : List Gr.Er) (A : Option Addr) (c : Nat) (k : Int) (hA : SlV w 2 (.slice A es.length c) es.length (ercs es)) (hle : es.length ≤ 1099511627776) (hT : Tab w) :
    Calls Tryd.prog 3 #[.agg #[.int .i64 n, .slice A es.length c], .int .i64 k] w fun e w' => e = .returned (.bool true) ∧ Below w.heap.size w w' := by
  by_cases h0 : Gy.err n es k = 0
  · obtain ⟨h1, k1, k2⟩ := Gy.err_zero.1 h0
    obtain ⟨N, rfl, hN, hes, hln, hcs, hfl⟩ := Gr.wrong_none h1
    obtain ⟨K, rfl⟩ := Int.eq_ofNat_of_zero_le (show 0 ≤ k by omega)
    have := greedyAll_yes N (Gr.nat es) K w A c hN hes hfl (by omega) (by omega) (by rw [hln, ← hcs]; exact hA) (by omega) hT (by
      intro w' hb
      have := rounds_any (N : Int) es (K : Int) w' A c (hA.below hb) hle (hT.later hT.lt hb)
      unfold Gy.res at this
      rw [h0, if_pos rfl] at this
      rw [hln]
      exact this)
    rw [hln] at this
    exact this
  · exact greedyAll_no n es k w A c hA hle hT h0

theorem tab_of_greedyAll {W : World} (h : laidMetH Tryd.prog Rows.greedyAllUptoRow.laid W) : Tab W :=
  tab_is (Lib.tabIs_of_head (rest := []) gTab gTabType Tryd.underlying129 Tryd.underlying5 cellsByte cellsTab h)
theorem greedyAll_met (os : Os) : laidMet Tryd.prog Rows.greedyAllUptoRow.laid ((laidWorld os).forCall (fun _ _ => 0) ⟨#[], #[.agg #[.int .i64 0, .slice none 0 0], .int .i64 0], []⟩).memory :=
  laidMet_of_run' 8 (by kernel_rfl) (by kernel_rfl)
theorem greedyAll_reads (os : Os) {H : Type} (enc : TypeId × Value → H) : ∃ places, DataW.whole enc Tryd.prog ((laidWorld os).forCall (fun _ _ => 0) ⟨#[], #[.agg #[.int .i64 0, .slice none 0 0], .int .i64 0], []⟩).memory Tryd.f3.params.toList Rows.greedyAllSpec.vars false #[.agg #[.int .i64 0, .slice none 0 0], .int .i64 0].toList 8 = some ([.agg [.lit (.int .i64 0), .nil], .lit (.int .i64 0)], [], places) :=
  ⟨[], by kernel_rfl⟩
set_option maxRecDepth 100000 in
theorem greedyAll_lifted (os : Os) (started : os.Started) (H : Type) (enc : TypeId × Value → H) (F : Stop.Interp) :
    ReturnsInHanded {} Tryd.checked os 3 .any ((Rows.OpenSpec.upto Rows.greedyAllSpec).preRow enc Tryd.prog Tryd.f3 Rows.greedyAllUptoRow.domain false Rows.greedyAllUptoRow.laid) (((Rows.OpenSpec.upto Rows.greedyAllSpec).at F).post enc Tryd.prog Tryd.f3 false true false false) := by
  obtain ⟨places, hx⟩ := greedyAll_reads os enc
  refine returnsInHanded_of_row (C := Tryd.checked) (s := (Rows.OpenSpec.upto Rows.greedyAllSpec)) own started (by kernel_rfl) Tryd.func3
    (witness_row_at (enc := enc) (C := Tryd.checked) false (laidWorld os) #[.agg #[.int .i64 0, .slice none 0 0], .int .i64 0] rfl (by kernel_rfl) (by kernel_rfl) (by kernel_rfl)
      (OpenSpec.preRow_of_cond 8 hx (by kernel_rfl) (fun k hk => by cases hk; kernel_rfl) (by kernel_rfl) (greedyAll_met os))) ?_
  intro W base args ds gs before hval0 hW _ hcond _ hL _ _
  have hk := hcond _ rfl
  have hT := tab_of_greedyAll hL
  have hval : ∀ (j : Nat) t v, Tryd.f3.params[j]? = some t → args[j]? = some v → Value.okWide Tryd.prog W .any base t v := hval0
  have hW' := hW
  have hlt := hW.lt
  obtain ⟨p, q, hA0, hV, rfl, hfz, hnd⟩ := hW
  have hA : DataW.TrodAll enc Tryd.prog W 0 (fun _ => true) true Tryd.f3.params.toList args.toList ds p := hA0
  rw [Tryd.params3] at hA hval
  obtain ⟨v0, vs0, d0, ds0, p0, q0, hargs, rfl, rfl, h0, r0⟩ := trodAll_cons hA
  obtain ⟨v1, vs1, d1, ds1, p1, q1, rfl, rfl, rfl, h1, r1⟩ := trodAll_cons r0
  obtain ⟨rfl, rfl, rfl⟩ := trodAll_nil r1
  obtain rfl : args = #[v0, v1] := by cases args; simp_all
  obtain ⟨rfl, rfl⟩ := trodVars_none hV
  obtain ⟨n0, es0, A0, c0, rfl, hg0, hs0⟩ := open_arg_graph (hval 0 _ v0 rfl rfl) h0 (fun x hx => by simpa using hlt x (by simp [hx]))
  obtain ⟨n1, rfl, rfl, rfl, wn1⟩ := open_int Tryd.underlying3 (hval 1 _ v1 rfl rfl) h1
  have hk' : Rows.uptoBulkAll (d0 :: _) ≤ 1048576 := of_decide_eq_true hk
  rw [Rows.uptoBulkAll] at hk'
  refine (greedyAll_walk W n0 es0 A0 c0 n1 hg0 (by omega) hT).mono fun e W' ⟨he, hb⟩ => ?_
  subst he
  exact ⟨_, rfl, post_true laidOut (by kernel_rfl) Tryd.underlying4 (by decide +kernel) rfl rfl hW' hb⟩

theorem greedyAll_upto : Rows.GreedyAllUptoSaid :=
  OpenClaim.holds_of_cond 3 Tryd.f3 rfl rfl rfl rfl rfl rfl rfl ⟨rfl, rfl, rfl, rfl, rfl⟩ rfl rfl rfl rfl rfl (by kernel_rfl) Tryd.func3 (by kernel_rfl)
    (of_decide_eq_true (by kernel_rfl)) (by unfold Func.isWrapper; first | (rw [if_pos (by decide +kernel)]; kernel_rfl) | (rw [if_neg (by decide +kernel)]; exact ⟨rfl, rfl⟩))
    (fun os started H enc _ F => by rw [OpenClaim.pre_eq_preRow]; exact greedyAll_lifted os started H enc F)
theorem greedyAll_plain (f : FuncId) (fn : Func) (hf : Tryd.pinned.checked.prog.funcNamed "forkwright/forkwrightkeep.GreedyAll" = some f) (hfn : Tryd.pinned.checked.prog.funcs[f]? = some fn) :
    false = Tryd.pinned.checked.prog.looks [] ∧ ∀ (j : Nat) t, fn.params[j]? = some t → Tryd.pinned.checked.prog.wantsStandIn t = false := by
  obtain rfl : f = 3 := Option.some.inj ((show Tryd.prog.funcNamed "forkwright/forkwrightkeep.GreedyAll" = some 3 by kernel_rfl).symm.trans hf) |>.symm
  obtain rfl : fn = Tryd.f3 := (Option.some.inj (Tryd.func3.symm.trans hfn)).symm
  refine ⟨by kernel_rfl, fun j t ht => ?_⟩
  rw [Tryd.params3] at ht
  have hm := Array.mem_of_getElem? ht
  have hm' : t ∈ [24, 3] := by simpa using hm
  have hall : ([24, 3].all fun u => !Tryd.prog.wantsStandIn u) = true := by kernel_rfl
  exact (show Tryd.prog.wantsStandIn t = false by simpa using List.all_eq_true.1 hall t hm')
theorem greedyAll_card : Rows.GreedyAllUptoCardSaid :=
  Claim7.holds_tied_plain_at .later [] _ _ _ _ greedyAll_upto (fun _ h => by cases h) (by kernel_rfl) (fun _ h => by cases h) greedyAllUpto_row_tie rfl ⟨rfl, rfl⟩ (by kernel_rfl) rfl greedyAll_plain (by kernel_rfl)
end Go.Proofs.YtpimcghmpbbckaaDoor
