/-
  Who is idle shortens the way: where a round has fewer than there are workers, the longest chain of what is left is shorter behind it. On condition that what is read is of bulk at most 1048576; the table of math/bits is as its initialiser lays it (tied to the program's text).
-/
import Derived.Test.YtpimcghmpbbckaaDoorGyU1
import Derived.Test.YtpimcghmpbbckaaDoorGyP4
import Derived.Test.YtpimcghmpbbckaaDoorGyR1

namespace Go.Proofs.YtpimcghmpbbckaaDoor
set_option linter.unusedVariables false
set_option linter.unusedSimpArgs false
set_option maxRecDepth 100000
open Go.ChangeShapes Go.WideShapes Go.ChangeAt Go.RowKit
set_option linter.unusedVariables false

theorem idle_lt {N W K : Nat} {es : List Gr.Ed} {a : List Nat} {h1 h0 : Nat} (hes : ∀ e ∈ es, e.1 < N ∧ e.2 < N) (hk : (Gr.all N es W)[K]? = some a) (ha : a.length < W)
    (H1 : LeftIs N es (((Gr.all N es W).take (K + 1)).flatten) h1) (H0 : LeftIs N es (((Gr.all N es W).take K).flatten) h0) : h1 < h0 := by
  have hfl : ((Gr.all N es W).take (K + 1)).flatten = ((Gr.all N es W).take K).flatten ++ a := flat_snoc hk
  obtain ⟨hnow, hne⟩ := Gr.rounds_at N [] K a hk
  rw [List.nil_append] at hnow
  have hnow : a = Gr.now N es W ((Gr.all N es W).take K).flatten := hnow
  have hg1 := Gr.all_good N es W (K + 1)
  have hl1 := hg1.length
  have hpos := List.length_pos_iff.2 hne
  rw [hfl] at H1 hl1 hg1
  have hl0 : ((Gr.all N es W).take K).flatten.length < N := by rw [List.length_append] at hl1; omega
  obtain ⟨L0, hL0, e0⟩ := H0.2.1 (by omega)
  have hv0 := hL0.lv (by omega)
  by_cases hz : (((Gr.all N es W).take K).flatten ++ a).length = N
  · rw [H1.1 hz, e0]
    obtain ⟨m, -, hm⟩ := hv0.hit
    omega
  · obtain ⟨L1, hL1, e1⟩ := H1.2.1 hz
    have hv1 := hL1.lv (by omega)
    rw [e1, e0]
    rw [hnow] at hv1 ha hg1 hz
    rw [hnow] at hl1
    exact Gr.idle_height (fun e he => (hes e he).1) ha hv0 hv1 hg1 (by omega)

def FLf (N : Nat) (es : List Gr.Ed) (D : List Nat) : Fact (fun w w' => Below w.heap.size w w') := ⟨fun v _ => ∃ h : Nat, v = .int .i64 (h : Int) ∧ LeftIs N es D h, fun _ _ _ h _ => h⟩


set_option maxHeartbeats 4000000 in
theorem greedyIdle_walk (w : World) (n : Int) (es : List Gr.Er) (A : Option Addr) (c : Nat) (z : Int) (k : Int) (hA : SlV w 2 (.slice A es.length c) es.length (ercs es)) (hle : es.length ≤ 1099511627) (hT : Tab w) :
    Calls Tryd.prog 6 #[.agg #[.int .i64 n, .slice A es.length c], .int .i64 z, .int .i64 k] w fun e w' => e = .returned (.bool true) ∧ Below w.heap.size w w' := by
  have hba : Below w.heap.size w (w.alloc (.cells #[.int .i64 n, .slice A es.length c] 24)) := below_alloc (Below.refl _ _) _
  have x0 := Blk.new w 24 [.int .i64 n, .slice A es.length c]
  have HT := Lib.hid hT
  clear hT
  go_enter Tryd.func6, Tryd.ntmps6
  go_upto_region 1 with (fail)
  generalize (w.alloc (.cells #[.int .i64 n, .slice A es.length c] 24)) = W0 at x0 hba ⊢
  go_wp2_with fail
  refine (alive6_any W0 (HT.out.later HT.out.lt hba)).mono ?_
  rintro _ w1 ⟨rfl, hb1⟩
  have x1 := x0.below hb1
  have c0 : w1.cell? ⟨w.heap.size, 0, none⟩ = some (.int .i64 n) := (x1.cell 0).trans rfl
  have c1 : w1.cell? ⟨w.heap.size, 1, none⟩ = some (.slice A es.length c) := (x1.cell 1).trans rfl
  have hb01 := below_next hb1 hba
  have hrd1 := rounds_any n es z w1 A c (hA.below hb01) (by omega) (HT.out.later HT.out.lt hb01)
  clear x0 hba hb1
  go_wp2_with fail
  refine hrd1.mono ?_
  rintro _ w2 ⟨u, os, rfl, hrow, hR, hb2⟩
  have x2 := x1.below hb2
  have hb02 := below_next hb2 hb01
  obtain ⟨Au, cu, rfl, hcu, hmu⟩ := own_slice hrow
  unfold maxLen at hmu
  have HB := Lib.hid hb02
  clear hrd1 x1 c0 c1 hb01 hb2 hb02
  by_cases h0 : Gy.err n es z = 0
  · unfold Gy.res at hR
    rw [if_pos h0] at hR
    obtain ⟨h1, k1, k2⟩ := Gy.err_zero.1 h0
    obtain ⟨N, rfl, hN, hes, hln, hcs, hful⟩ := Gr.wrong_none h1
    obtain ⟨W, rfl⟩ : ∃ W : Nat, z = (W : Int) := ⟨z.toNat, by omega⟩
    rw [Int.toNat_natCast, Int.toNat_natCast] at hR
    obtain ⟨E, hE⟩ : ∃ E, E = Gy.err (N : Int) es (W : Int) := ⟨_, rfl⟩
    rw [← hE] at h0 ⊢
    subst h0
    clear hE h1
    rcases hk0 : decide (k < 0) with _ | _
    · obtain ⟨K, rfl⟩ : ∃ K : Nat, k = (K : Int) := ⟨k.toNat, by have := of_decide_eq_false hk0; omega⟩
      clear hk0
      by_cases hKl : K < os.length
      · obtain ⟨v, hv⟩ : ∃ v, os[K]? = some v := ⟨_, List.getElem?_eq_getElem hKl⟩
        obtain ⟨a, ha⟩ : ∃ a, (Gr.all N (Gr.nat es) W)[K]? = some a := ⟨_, List.getElem?_eq_getElem (by rw [← hR.1]; exact hKl)⟩
        have hsl : SlN w2 v a := hR.2 (v, a) (List.mem_of_getElem? (List.getElem?_zip_eq_some.2 ⟨hv, ha⟩))
        obtain ⟨Av, cv, rfl, hcv, hmv⟩ := hsl.form
        unfold maxLen at hmv
        obtain ⟨gu, cu', e, -, -, -, -⟩ := own_addr hrow (by omega)
        injection e with e1 e2 e3
        subst e1 e3
        have cK := own_cell hrow hv
        have hRow := Lib.hid hrow
        clear hsl hrow hv
        by_cases haW : a.length < W
        · have hlt : ∀ a1 a0 : Nat, LeftIs N (Gr.nat es) (((Gr.all N (Gr.nat es) W).take (K + 1)).flatten) a1 → LeftIs N (Gr.nat es) (((Gr.all N (Gr.nat es) W).take K).flatten) a0 → decide (a1 < a0) = true := fun a1 a0 H1 H0 => decide_eq_true (idle_lt hes ha haW H1 H0)
          have hleft : ∀ j, j ≤ os.length → ∀ w', Below w2.heap.size w2 w' → Calls Tryd.prog 20 #[.slice (some ⟨gu, 0, none⟩) j cu, .pointer (some ⟨w.heap.size, 0, none⟩)] w' fun e w'' => ∃ h : Nat, e = .returned (.int .i64 (h : Int)) ∧ LeftIs N (Gr.nat es) (((Gr.all N (Gr.nat es) W).take j).flatten) h ∧ Below w'.heap.size w' w'' := fun j hj w' hb' => by
            have hS : SlV w' 1 (.slice (some ⟨gu, 0, none⟩) j cu) (os.take j).length (os.take j) := by
              have := ((SlV.of_own hRow.out).below hb').takeV j hj
              rw [Nat.mul_one] at this
              rw [List.length_take, Nat.min_eq_left hj]
              exact this
            have hG : Blk w' w.heap.size 24 [.int .i64 (N : Int), .slice A (Gr.nat es).length c] := by rw [hln]; exact x2.below hb'
            have hRj : Gy.Rs w' (os.take j) ((Gr.all N (Gr.nat es) W).take j) := ⟨by rw [List.length_take, List.length_take, hR.1], fun x hx => by
              refine (hR.2 x ?_).below hb'
              have e : (os.take j).zip ((Gr.all N (Gr.nat es) W).take j) = (os.zip (Gr.all N (Gr.nat es) W)).take j := by simp [List.zip, List.take_zipWith]
              rw [e] at hx
              exact List.mem_of_mem_take hx⟩
            have hfl := (Gr.all_good N (Gr.nat es) W j).length
            exact left_walk N (Gr.nat es) w' A c w.heap.size _ (os.take j) _ hN hes hful (by rw [hln, ← hcs]; exact hA.below (below_next hb' HB.out)) (by omega) (HT.out.later HT.out.lt (below_next hb' HB.out)) hG hS hRj hfl
          have h1 := hleft (K + 1) (by omega)
          have h2 := hleft K (by omega)
          have hol : os.length ≤ 200 := by rw [hR.1]; exact Nat.le_trans (Gr.all_short N _ W) hN
          obtain ⟨D1, hD1⟩ : ∃ D, D = ((Gr.all N (Gr.nat es) W).take (K + 1)).flatten := ⟨_, rfl⟩
          obtain ⟨D0, hD0⟩ : ∃ D, D = ((Gr.all N (Gr.nat es) W).take K).flatten := ⟨_, rfl⟩
          rw [← hD1] at h1 hlt
          rw [← hD0] at h2 hlt
          have HLT := Lib.hid hlt
          clear hlt hleft hD1 hD0 hR ha hful hes hcs hA x2
          have f1 : decide ((K : Int) < 0) = false := by simp
          have f2 : decide (os.length ≤ K) = false := by simp; omega
          have f3 : decide (W ≤ a.length) = false := by simp; omega
          have hw : IntKind.i64.wrap ((K : Int) + 1) = (K : Int) + 1 := IntWalk.i64_in _ (by omega)
          have sl1 : 0 ≤ (K : Int) + 1 ∧ (K : Int) + 1 ≤ (cu : Int) := by omega
          have tn : ((K : Int) + 1).toNat = K + 1 := by omega
          have sl0 : K ≤ cu := by omega
          go_wp2_with fail
          have hS0 : Below w2.heap.size w2 w2.drew := below_drew (Below.refl _ _)
          refine wp_walk (by kernel_rfl) (by kernel_rfl) (fun w w' => Below w.heap.size w w') (fun w' => Below w2.heap.size w2 w') hS0 ?_
          repeat (first | (refine settle_skip (fun _ => by rfl) ?_; (simp only [Act.put, List.setIfInBounds_toArray, List.set_cons_zero, List.set_cons_succ])) | (refine' settle_run (fun _ _ => Below.refl _ _) (fun _ => by rfl) ?_ ?_; rotate_left; (focus (intro ρ w hS hF; (try dsimp only at hS); go_split_ands; go_simp; try with_reducible rfl)); (simp only [Act.put, List.setIfInBounds_toArray, List.set_cons_zero, List.set_cons_succ])))
          (refine settle_known (FLf N (Gr.nat es) D1) (by rfl) (fun _ => by rfl)  ?_ ?_; (focus (intro ρ w hS hF K hK; (simp only [Act.put, List.setIfInBounds_toArray, List.set_cons_zero, List.set_cons_succ] at hK); go_simp; (refine (h1 _ hS).mono ?_; rintro e w' ⟨h, rfl, hL, hb'⟩; exact hK _ _ ⟨h, rfl, hL⟩ (below_next hb' hS) hb'))); (simp only [Act.put, List.setIfInBounds_toArray, List.set_cons_zero, List.set_cons_succ]))
          repeat (first | (refine settle_skip (fun _ => by rfl) ?_; (simp only [Act.put, List.setIfInBounds_toArray, List.set_cons_zero, List.set_cons_succ])) | (refine' settle_run (fun _ _ => Below.refl _ _) (fun _ => by rfl) ?_ ?_; rotate_left; (focus (intro ρ w hS hF; (try dsimp only at hS); go_split_ands; go_simp; try with_reducible rfl)); (simp only [Act.put, List.setIfInBounds_toArray, List.set_cons_zero, List.set_cons_succ])))
          (refine settle_known (FLf N (Gr.nat es) D0) (by rfl) (fun _ => by rfl)  ?_ ?_; (focus (intro ρ w hS hF K hK; (simp only [Act.put, List.setIfInBounds_toArray, List.set_cons_zero, List.set_cons_succ] at hK); go_simp; (refine (h2 _ hS).mono ?_; rintro e w' ⟨h, rfl, hL, hb'⟩; exact hK _ _ ⟨h, rfl, hL⟩ (below_next hb' hS) hb'))); (simp only [Act.put, List.setIfInBounds_toArray, List.set_cons_zero, List.set_cons_succ]))
          (refine' settle_step (fun _ => by rfl) ?_ ?_; rotate_left; (focus (intro ρ w hS hF K hK; (simp only [Act.put, List.setIfInBounds_toArray, List.set_cons_zero, List.set_cons_succ] at hK); go_simp; (obtain ⟨a0, e0, H0⟩ := hF.1 (by rfl); obtain ⟨a1, e1, H1⟩ := hF.2.1 (by rfl); have hd := HLT.out a1 a0 H1 H0; rw [e0, e1] at hK ⊢; go_simp; (try rw [hd]); have hS' := hS; have hE' := Below.refl w.heap.size w); exact hK _ hS' hE')); (simp only [Act.put, List.setIfInBounds_toArray, List.set_cons_zero, List.set_cons_succ]))
          repeat (first | (refine settle_skip (fun _ => by rfl) ?_; (simp only [Act.put, List.setIfInBounds_toArray, List.set_cons_zero, List.set_cons_succ])) | (refine' settle_run (fun _ _ => Below.refl _ _) (fun _ => by rfl) ?_ ?_; rotate_left; (focus (intro ρ w hS hF; (try dsimp only at hS); go_split_ands; go_simp; try with_reducible rfl)); (simp only [Act.put, List.setIfInBounds_toArray, List.set_cons_zero, List.set_cons_succ])))
          refine settle_nil ?_
          intro ρ w5 hS hF
          have HB5 := Lib.hid (below_next hS HB.out)
          clear hS hF hS0 h1 h2
          dsimp only
          go_wp2_with fail
          go_ret
          exact ⟨rfl, HB5.out⟩
        · have haW' : W ≤ a.length := by omega
          clear hR hRow ha hful hes hcs hA x2 haW
          go_wp2_with fail
          go_ret
          exact ⟨rfl, HB.out⟩
      · have hKl' : os.length ≤ K := by omega
        clear hR hrow hful hes hcs hA x2 hKl
        go_wp2_with fail
        go_ret
        exact ⟨rfl, HB.out⟩
    · clear hR hrow hful hes hcs hA x2
      go_wp2_with fail
      go_ret
      exact ⟨rfl, HB.out⟩
  · have g0 : (Gy.err n es z != 0) = true := by simpa using h0
    obtain ⟨E, hE⟩ : ∃ E, E = Gy.err n es z := ⟨_, rfl⟩
    rw [← hE] at g0 ⊢
    clear hE h0 hR hA x2 hrow
    go_wp2_with fail
    go_ret
    exact ⟨rfl, HB.out⟩

theorem tab_of_greedyIdle {W : World} (h : laidMetH Tryd.prog Rows.greedyIdleUptoRow.laid W) : Tab W :=
  tab_is (Lib.tabIs_of_head (rest := []) gTab gTabType Tryd.underlying129 Tryd.underlying5 cellsByte cellsTab h)
theorem greedyIdle_met (os : Os) : laidMet Tryd.prog Rows.greedyIdleUptoRow.laid ((laidWorld os).forCall (fun _ _ => 0) ⟨#[], #[.agg #[.int .i64 0, .slice none 0 0], .int .i64 0, .int .i64 0], []⟩).memory :=
  laidMet_of_run' 8 (by kernel_rfl) (by kernel_rfl)
theorem greedyIdle_reads (os : Os) {H : Type} (enc : TypeId × Value → H) : ∃ places, DataW.whole enc Tryd.prog ((laidWorld os).forCall (fun _ _ => 0) ⟨#[], #[.agg #[.int .i64 0, .slice none 0 0], .int .i64 0, .int .i64 0], []⟩).memory Tryd.f6.params.toList Rows.greedyIdleSpec.vars false #[.agg #[.int .i64 0, .slice none 0 0], .int .i64 0, .int .i64 0].toList 8 = some ([.agg [.lit (.int .i64 0), .nil], .lit (.int .i64 0), .lit (.int .i64 0)], [], places) :=
  ⟨[], by kernel_rfl⟩
set_option maxRecDepth 100000 in
theorem greedyIdle_lifted (os : Os) (started : os.Started) (H : Type) (enc : TypeId × Value → H) (F : Stop.Interp) :
    ReturnsInHanded {} Tryd.checked os 6 .any ((Rows.OpenSpec.upto Rows.greedyIdleSpec).preRow enc Tryd.prog Tryd.f6 Rows.greedyIdleUptoRow.domain false Rows.greedyIdleUptoRow.laid) (((Rows.OpenSpec.upto Rows.greedyIdleSpec).at F).post enc Tryd.prog Tryd.f6 false true false false) := by
  obtain ⟨places, hx⟩ := greedyIdle_reads os enc
  refine returnsInHanded_of_row (C := Tryd.checked) (s := (Rows.OpenSpec.upto Rows.greedyIdleSpec)) own started (by kernel_rfl) Tryd.func6
    (witness_row_at (enc := enc) (C := Tryd.checked) false (laidWorld os) #[.agg #[.int .i64 0, .slice none 0 0], .int .i64 0, .int .i64 0] rfl (by kernel_rfl) (by kernel_rfl) (by kernel_rfl)
      (OpenSpec.preRow_of_cond 8 hx (by kernel_rfl) (fun k hk => by cases hk; kernel_rfl) (by kernel_rfl) (greedyIdle_met os))) ?_
  intro W base args ds gs before hval0 hW _ hcond _ hL _ _
  have hk := hcond _ rfl
  have hT := tab_of_greedyIdle hL
  have hval : ∀ (j : Nat) t v, Tryd.f6.params[j]? = some t → args[j]? = some v → Value.okWide Tryd.prog W .any base t v := hval0
  have hW' := hW
  have hlt := hW.lt
  obtain ⟨p, q, hA0, hV, rfl, hfz, hnd⟩ := hW
  have hA : DataW.TrodAll enc Tryd.prog W 0 (fun _ => true) true Tryd.f6.params.toList args.toList ds p := hA0
  rw [Tryd.params6] at hA hval
  obtain ⟨v0, vs0, d0, ds0, p0, q0, hargs, rfl, rfl, h0, r0⟩ := trodAll_cons hA
  obtain ⟨v1, vs1, d1, ds1, p1, q1, rfl, rfl, rfl, h1, r1⟩ := trodAll_cons r0
  obtain ⟨v2, vs2, d2, ds2, p2, q2, rfl, rfl, rfl, h2, r2⟩ := trodAll_cons r1
  obtain ⟨rfl, rfl, rfl⟩ := trodAll_nil r2
  obtain rfl : args = #[v0, v1, v2] := by cases args; simp_all
  obtain ⟨rfl, rfl⟩ := trodVars_none hV
  obtain ⟨n0, es0, A0, c0, rfl, hg0, hs0⟩ := open_arg_graph (hval 0 _ v0 rfl rfl) h0 (fun x hx => by simpa using hlt x (by simp [hx]))
  obtain ⟨n1, rfl, rfl, rfl, wn1⟩ := open_int Tryd.underlying3 (hval 1 _ v1 rfl rfl) h1
  obtain ⟨n2, rfl, rfl, rfl, wn2⟩ := open_int Tryd.underlying3 (hval 2 _ v2 rfl rfl) h2
  have hk' : Rows.uptoBulkAll (d0 :: _) ≤ 1048576 := of_decide_eq_true hk
  rw [Rows.uptoBulkAll] at hk'
  refine (greedyIdle_walk W n0 es0 A0 c0 n1 n2 hg0 (by omega) hT).mono fun e W' ⟨he, hb⟩ => ?_
  subst he
  exact ⟨_, rfl, post_true laidOut (by kernel_rfl) Tryd.underlying4 (by decide +kernel) rfl rfl hW' hb⟩

theorem greedyIdle_upto : Rows.GreedyIdleUptoSaid :=
  OpenClaim.holds_of_cond 6 Tryd.f6 rfl rfl rfl rfl rfl rfl rfl ⟨rfl, rfl, rfl, rfl, rfl⟩ rfl rfl rfl rfl rfl (by kernel_rfl) Tryd.func6 (by kernel_rfl)
    (of_decide_eq_true (by kernel_rfl)) (by unfold Func.isWrapper; first | (rw [if_pos (by decide +kernel)]; kernel_rfl) | (rw [if_neg (by decide +kernel)]; exact ⟨rfl, rfl⟩))
    (fun os started H enc _ F => by rw [OpenClaim.pre_eq_preRow]; exact greedyIdle_lifted os started H enc F)
theorem greedyIdle_plain (f : FuncId) (fn : Func) (hf : Tryd.pinned.checked.prog.funcNamed "forkwright/forkwrightkeep.GreedyIdle" = some f) (hfn : Tryd.pinned.checked.prog.funcs[f]? = some fn) :
    false = Tryd.pinned.checked.prog.looks [] ∧ ∀ (j : Nat) t, fn.params[j]? = some t → Tryd.pinned.checked.prog.wantsStandIn t = false := by
  obtain rfl : f = 6 := Option.some.inj ((show Tryd.prog.funcNamed "forkwright/forkwrightkeep.GreedyIdle" = some 6 by kernel_rfl).symm.trans hf) |>.symm
  obtain rfl : fn = Tryd.f6 := (Option.some.inj (Tryd.func6.symm.trans hfn)).symm
  refine ⟨by kernel_rfl, fun j t ht => ?_⟩
  rw [Tryd.params6] at ht
  have hm := Array.mem_of_getElem? ht
  have hm' : t ∈ [24, 3, 3] := by simpa using hm
  have hall : ([24, 3, 3].all fun u => !Tryd.prog.wantsStandIn u) = true := by kernel_rfl
  exact (show Tryd.prog.wantsStandIn t = false by simpa using List.all_eq_true.1 hall t hm')
theorem greedyIdle_card : Rows.GreedyIdleUptoCardSaid :=
  Claim7.holds_tied_plain_at .later [] _ _ _ _ greedyIdle_upto (fun _ h => by cases h) (by kernel_rfl) (fun _ h => by cases h) greedyIdleUpto_row_tie rfl ⟨rfl, rfl⟩ (by kernel_rfl) rfl greedyIdle_plain (by kernel_rfl)
end Go.Proofs.YtpimcghmpbbckaaDoor
