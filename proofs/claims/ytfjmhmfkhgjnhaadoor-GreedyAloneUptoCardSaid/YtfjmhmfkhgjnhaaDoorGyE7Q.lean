/-
  One worker does all as they are sorted; and so many that all may be done at once that can be take as many rounds as the longest chain has. On condition that what is read is of bulk at most 1048576; the table of math/bits is as its initialiser lays it (tied to the program's text).
-/
import Derived.Test.YtfjmhmfkhgjnhaaDoorOrP4
import Derived.Test.YtfjmhmfkhgjnhaaDoorOrP5
import Derived.Test.YtfjmhmfkhgjnhaaDoorOrP6

namespace Go.Proofs.YtfjmhmfkhgjnhaaDoor
set_option linter.unusedVariables false
set_option linter.unusedSimpArgs false
set_option maxRecDepth 100000
open Go.ChangeShapes Go.WideShapes Go.ChangeAt Go.RowKit
set_option linter.unusedVariables false

theorem err_of (n : Int) (es : List Gr.Er) (k : Int) (h1 : 1 ≤ k) (h2 : k ≤ 16) : Gy.err n es k = Gr.wrong n es := by
  unfold Gy.err
  by_cases h : Gr.wrong n es = 0
  · rw [h]
    simp only [ne_eq, not_true_eq_false, if_false]
    rw [if_neg (by omega)]
  · rw [if_pos h]
theorem slN_ints {w : World} {v : Value} {l : List Nat} (h : SlN w v l) : SlV w 1 v (l.map fun (x : Nat) => (x : Int)).length (ints .i64 (l.map fun (x : Nat) => (x : Int))) := by
  rw [List.length_map]
  exact h
theorem alone_plain {N : Nat} {es : List Gr.Ed} {L : List Nat} (hes : ∀ e ∈ es, e.1 < N ∧ e.2 < N) (hful : (Gr.take N es).length = N) (hL : Gr.LvL N es L) (h1 : (Mt.wideW (Gr.behW N es) N).length ≤ 16) (h2 : 0 < (Mt.wideW (Gr.behW N es) N).length) : (Gr.all N es 16).length = Gr.hgt L := by
  obtain ⟨hA, hM⟩ := Mt.wide_is hful hes
  have hN : 0 < N := by
    obtain ⟨a, ha⟩ := List.exists_mem_of_ne_nil _ (List.ne_nil_of_length_pos h2)
    have := hA.lt a ha
    omega
  have hv := hL.lv hN
  exact Gr.rounds_wide hv hful (by decide) (fun e he => (hes e he).1) hN hv.hit (fun A hA' => Nat.le_trans (hM A hA') h1)


set_option maxRecDepth 20000 in
set_option maxHeartbeats 8000000 in
theorem greedyAlone_walk (w : World) (n : Int) (es : List Gr.Er) (A : Option Addr) (c : Nat) (hA : SlV w 2 (.slice A es.length c) es.length (ercs es)) (hle : es.length ≤ 1099511627776) (hT : Tab w) :
    Calls Tryd.prog 6 #[.agg #[.int .i64 n, .slice A es.length c]] w fun e w' => e = .returned (.bool true) ∧ Below w.heap.size w w' := by
  have hba : Below w.heap.size w (w.alloc (.cells #[.int .i64 n, .slice A es.length c] 24)) := below_alloc (Below.refl _ _) _
  have x0 := Blk.new w 24 [.int .i64 n, .slice A es.length c]
  have HT := Lib.hid hT
  clear hT
  go_enter Tryd.func6, Tryd.ntmps6
  go_upto_region 1 with (fail)
  generalize (w.alloc (.cells #[.int .i64 n, .slice A es.length c] 24)) = W0 at x0 hba ⊢
  go_wp2_with fail
  refine (alive6_any W0 (HT.out.later HT.out.lt hba)).mono ?_
  rintro _ w1 ⟨rfl, hb1⟩
  have x1 := x0.below hb1
  have c0 : w1.cell? ⟨w.heap.size, 0, none⟩ = some (.int .i64 n) := (x1.cell 0).trans rfl
  have c1 : w1.cell? ⟨w.heap.size, 1, none⟩ = some (.slice A es.length c) := (x1.cell 1).trans rfl
  have hb01 := below_next hb1 hba
  have hrd1 := rounds_any n es 1 w1 A c (hA.below hb01) hle (HT.out.later HT.out.lt hb01)
  rw [err_of n es 1 (by decide) (by decide)] at hrd1
  have hres1 : Gy.err n es 1 = Gr.wrong n es := err_of n es 1 (by decide) (by decide)
  have hres2 : Gy.err n es 16 = Gr.wrong n es := err_of n es 16 (by decide) (by decide)
  have HR := Lib.hid (And.intro hres1 hres2)
  clear x0 hba hb1 hres1 hres2
  go_wp2_with fail
  refine hrd1.mono ?_
  rintro _ w2 ⟨u, os, rfl, hrow, hR, hb2⟩
  have x2 := x1.below hb2
  have hb02 := below_next hb2 hb01
  have hsl2 := SlV.of_own hrow
  obtain ⟨Au, cu, rfl, hcu, hmu⟩ := own_slice hrow
  have hst := sort_any n es w2 A c (hA.below hb02) hle (HT.out.later HT.out.lt hb02)
  have d0 : w2.cell? ⟨w.heap.size, 0, none⟩ = some (.int .i64 n) := (x2.cell 0).trans rfl
  have d1 : w2.cell? ⟨w.heap.size, 1, none⟩ = some (.slice A es.length c) := (x2.cell 1).trans rfl
  clear hrd1 x1 c0 c1 hb01 hb2 hrow
  by_cases h0 : Gr.wrong n es = 0
  · rw [h0] at hst ⊢
    have hR2 := hR
    unfold Gy.res at hR2
    rw [HR.out.1, if_pos h0] at hR2
    obtain ⟨N, rfl, hN, hes, hln, hcs, hful⟩ := Gr.wrong_none h0
    rw [Int.toNat_natCast] at hst
    have hR2 : Gy.Rs w2 os (Gr.all N (Gr.nat es) 1) := by
      have : ((1 : Int)).toNat = 1 := rfl
      rw [Int.toNat_natCast, this] at hR2
      exact hR2
    have hfl : (Gr.all N (Gr.nat es) 1).flatten.length ≤ 1099511627 := by
      rw [Gr.all_one]
      omega
    clear hR
    go_wp2_with fail
    refine hst.mono ?_
    rintro _ w3 ⟨v3, rfl, -, hs3, hb3⟩
    have hs3 := hs3 trivial
    have hS3 := SlN.of_own hs3
    obtain ⟨As, cs, rfl, -, -⟩ := own_slice hs3
    have x3 := x2.below hb3
    have hb03 := below_next hb3 hb02
    have hsl3 := hsl2.below hb3
    have hR3 := hR2.below hb3
    have hwd := wide_any (N : Int) es w3 A c (hA.below hb03) hle (HT.out.later HT.out.lt hb03)
    rw [h0] at hwd
    have hwG : Mt.wideG (N : Int) es = Mt.wideW (Gr.behW N (Gr.nat es)) N := by unfold Mt.wideG; rw [if_pos h0, Int.toNat_natCast]
    rw [hwG] at hwd
    have e0 : w3.cell? ⟨w.heap.size, 0, none⟩ = some (.int .i64 (N : Int)) := (x3.cell 0).trans rfl
    have e1 : w3.cell? ⟨w.heap.size, 1, none⟩ = some (.slice A es.length c) := (x3.cell 1).trans rfl
    have HG := Lib.hid (And.intro h0 (And.intro hes (And.intro hful hwG)))
    clear hst d0 d1 x2 hb02 hsl2 hR2 hs3 hb3 h0 hes hful hln hcs hwG
    go_wp2_with fail
    refine hwd.mono ?_
    rintro _ w4 ⟨u4, rfl, hr4, hb4⟩
    have x4 := x3.below hb4
    have hb04 := below_next hb4 hb03
    have hsl4 := hsl3.below hb4
    have hR4 := hR3.below hb4
    have hS4 := hS3.below hb4
    obtain ⟨A4, c4, rfl, hc4, hm4⟩ := own_slice hr4
    unfold maxLen at hm4
    obtain ⟨lw, hlw⟩ : ∃ lw, lw = (Mt.wideW (Gr.behW N (Gr.nat es)) N).length := ⟨_, rfl⟩
    rw [← hlw] at hc4 ⊢
    have HL := Lib.hid hlw
    clear hwd e0 e1 x3 hb03 hsl3 hR3 hS3 hb4 hr4 hlw
    rcases g1 : decide ((lw : Int) ≤ 16) with _ | _
    · -- w4 world, hR4 the rounds' rows read there, hsl4 the rounds' slice, hS4 the sorted row, hb04 Below from w
      have hcc := concat_ints os _ _ w4 hsl4 hR4 hfl
      clear hsl4 hR4
      go_wp2_with fail
      refine hcc.mono ?_
      rintro _ w8 ⟨u8, rfl, hr8, hb8⟩
      rw [Gr.all_one] at hr8
      have hs8 := hS4.below hb8
      have hq := slN_ints (SlN.of_own hr8)
      have hq' := slN_ints hs8
      have hb08 := below_next hb8 hb04
      obtain ⟨A8, c8, rfl, -, -⟩ := own_slice hr8
      have heq := equal_i64 _ _ _ _ w8 hq hq'
      rw [decide_eq_true rfl] at heq
      clear hcc hr8 hs8 hq hq' hS4 hb04
      go_wp2_with fail
      refine heq.mono ?_
      rintro _ w9 ⟨rfl, m9, rfl⟩
      have HF := Lib.hid (below_drewN hb08 m9)
      clear heq hb08 hb8
      go_wp2_with fail
      go_ret
      exact ⟨rfl, HF.out⟩
    · rcases g2 : decide (0 < lw) with _ | _
      · -- w4 world, hR4 the rounds' rows read there, hsl4 the rounds' slice, hS4 the sorted row, hb04 Below from w
        have hcc := concat_ints os _ _ w4 hsl4 hR4 hfl
        clear hsl4 hR4
        go_wp2_with fail
        refine hcc.mono ?_
        rintro _ w8 ⟨u8, rfl, hr8, hb8⟩
        rw [Gr.all_one] at hr8
        have hs8 := hS4.below hb8
        have hq := slN_ints (SlN.of_own hr8)
        have hq' := slN_ints hs8
        have hb08 := below_next hb8 hb04
        obtain ⟨A8, c8, rfl, -, -⟩ := own_slice hr8
        have heq := equal_i64 _ _ _ _ w8 hq hq'
        rw [decide_eq_true rfl] at heq
        clear hcc hr8 hs8 hq hq' hS4 hb04
        go_wp2_with fail
        refine heq.mono ?_
        rintro _ w9 ⟨rfl, m9, rfl⟩
        have HF := Lib.hid (below_drewN hb08 m9)
        clear heq hb08 hb8
        go_wp2_with fail
        go_ret
        exact ⟨rfl, HF.out⟩
      · have hrd := rounds_any (N : Int) es 16 w4 A c (hA.below hb04) hle (HT.out.later HT.out.lt hb04)
        rw [HR.out.2, HG.out.1] at hrd
        have f0 : w4.cell? ⟨w.heap.size, 0, none⟩ = some (.int .i64 (N : Int)) := (x4.cell 0).trans rfl
        have f1 : w4.cell? ⟨w.heap.size, 1, none⟩ = some (.slice A es.length c) := (x4.cell 1).trans rfl
        go_wp2_with fail
        refine hrd.mono ?_
        rintro _ w5 ⟨u5, os5, rfl, hr5, hR5, hb5⟩
        have x5 := x4.below hb5
        have hb05 := below_next hb5 hb04
        have hsl5 := hsl4.below hb5
        have hR4' := hR4.below hb5
        have hS5 := hS4.below hb5
        have hln5 := hR5.1
        unfold Gy.res at hln5
        rw [HR.out.2, if_pos HG.out.1, Int.toNat_natCast] at hln5
        have hHL := Lib.hid (show os5.length = (Gr.all N (Gr.nat es) 16).length from hln5)
        clear hln5
        obtain ⟨A5, c5, rfl, hc5, hm5⟩ := own_slice hr5
        have hht := height_any (N : Int) es w5 A c (hA.below hb05) hle (HT.out.later HT.out.lt hb05)
        rw [HG.out.1] at hht
        have k0 : w5.cell? ⟨w.heap.size, 0, none⟩ = some (.int .i64 (N : Int)) := (x5.cell 0).trans rfl
        have k1 : w5.cell? ⟨w.heap.size, 1, none⟩ = some (.slice A es.length c) := (x5.cell 1).trans rfl
        clear hrd f0 f1 x4 hb04 hsl4 hR4 hS4 hb5 hr5 hR5
        go_wp2_with fail
        refine hht.mono ?_
        rintro _ w6 ⟨h, rfl, -, hL, hh, hb6⟩
        obtain ⟨L, hL, hhL⟩ := hL trivial
        rw [Int.toNat_natCast] at hL
        have hpl := alone_plain HG.out.2.1 HG.out.2.2.1 hL (by rw [← HL.out]; have := of_decide_eq_true g1; omega) (by rw [← HL.out]; have := of_decide_eq_true g2; omega)
        have hos : os5.length = h := by rw [hHL.out, hpl, hhL]
        have g3 : ((os5.length : Int) != (h : Int)) = false := by rw [hos]; simp
        have hb06 := below_next hb6 hb05
        have hsl6 := hsl5.below hb6
        have hR6 := hR4'.below hb6
        have hS6 := hS5.below hb6
        clear hht k0 k1 x5 hb05 hsl5 hR4' hS5 hb6 hL hhL hpl hos hh
        -- w6 world, hR6 the rounds' rows read there, hsl6 the rounds' slice, hS6 the sorted row, hb06 Below from w
        have hcc := concat_ints os _ _ w6 hsl6 hR6 hfl
        clear hsl6 hR6
        go_wp2_with fail
        refine hcc.mono ?_
        rintro _ w8 ⟨u8, rfl, hr8, hb8⟩
        rw [Gr.all_one] at hr8
        have hs8 := hS6.below hb8
        have hq := slN_ints (SlN.of_own hr8)
        have hq' := slN_ints hs8
        have hb08 := below_next hb8 hb06
        obtain ⟨A8, c8, rfl, -, -⟩ := own_slice hr8
        have heq := equal_i64 _ _ _ _ w8 hq hq'
        rw [decide_eq_true rfl] at heq
        clear hcc hr8 hs8 hq hq' hS6 hb06
        go_wp2_with fail
        refine heq.mono ?_
        rintro _ w9 ⟨rfl, m9, rfl⟩
        have HF := Lib.hid (below_drewN hb08 m9)
        clear heq hb08 hb8
        go_wp2_with fail
        go_ret
        exact ⟨rfl, HF.out⟩
  · obtain ⟨R, hR'⟩ : ∃ R, R = Gr.wrong n es := ⟨_, rfl⟩
    rw [← hR'] at h0 hst ⊢
    have g0 : (R != 0) = true := by simpa using h0
    have HB := Lib.hid hb02
    clear h0 hR' hR hb02 hA x2 hsl2
    go_wp2_with fail
    refine hst.mono ?_
    rintro _ w3 ⟨v3, rfl, -, -, hb3⟩
    have HB3 := Lib.hid (below_next hb3 HB.out)
    clear hst hb3 d0 d1
    go_wp2_with fail
    go_ret
    exact ⟨rfl, HB3.out⟩

theorem tab_of_greedyAlone {W : World} (h : laidMetH Tryd.prog Rows.greedyAloneUptoRow.laid W) : Tab W :=
  tab_is (Lib.tabIs_of_head (rest := []) gTab gTabType Tryd.underlying134 Tryd.underlying5 cellsByte cellsTab h)
theorem greedyAlone_met (os : Os) : laidMet Tryd.prog Rows.greedyAloneUptoRow.laid ((laidWorld os).forCall (fun _ _ => 0) ⟨#[], #[.agg #[.int .i64 0, .slice none 0 0]], []⟩).memory :=
  laidMet_of_run' 8 (by kernel_rfl) (by kernel_rfl)
theorem greedyAlone_reads (os : Os) {H : Type} (enc : TypeId × Value → H) : ∃ places, DataW.whole enc Tryd.prog ((laidWorld os).forCall (fun _ _ => 0) ⟨#[], #[.agg #[.int .i64 0, .slice none 0 0]], []⟩).memory Tryd.f6.params.toList Rows.greedyAloneSpec.vars false #[.agg #[.int .i64 0, .slice none 0 0]].toList 8 = some ([.agg [.lit (.int .i64 0), .nil]], [], places) :=
  ⟨[], by kernel_rfl⟩
set_option maxRecDepth 100000 in
theorem greedyAlone_lifted (os : Os) (started : os.Started) (H : Type) (enc : TypeId × Value → H) (F : Stop.Interp) :
    ReturnsInHanded {} Tryd.checked os 6 .any ((Rows.OpenSpec.upto Rows.greedyAloneSpec).preRow enc Tryd.prog Tryd.f6 Rows.greedyAloneUptoRow.domain false Rows.greedyAloneUptoRow.laid) (((Rows.OpenSpec.upto Rows.greedyAloneSpec).at F).post enc Tryd.prog Tryd.f6 false true false false) := by
  obtain ⟨places, hx⟩ := greedyAlone_reads os enc
  refine returnsInHanded_of_row (C := Tryd.checked) (s := (Rows.OpenSpec.upto Rows.greedyAloneSpec)) own started (by kernel_rfl) Tryd.func6
    (witness_row_at (enc := enc) (C := Tryd.checked) false (laidWorld os) #[.agg #[.int .i64 0, .slice none 0 0]] rfl (by kernel_rfl) (by kernel_rfl) (by kernel_rfl)
      (OpenSpec.preRow_of_cond 8 hx (by kernel_rfl) (fun k hk => by cases hk; kernel_rfl) (by kernel_rfl) (greedyAlone_met os))) ?_
  intro W base args ds gs before hval0 hW _ hcond _ hL _ _
  have hk := hcond _ rfl
  have hT := tab_of_greedyAlone hL
  have hval : ∀ (j : Nat) t v, Tryd.f6.params[j]? = some t → args[j]? = some v → Value.okWide Tryd.prog W .any base t v := hval0
  have hW' := hW
  have hlt := hW.lt
  obtain ⟨p, q, hA0, hV, rfl, hfz, hnd⟩ := hW
  have hA : DataW.TrodAll enc Tryd.prog W 0 (fun _ => true) true Tryd.f6.params.toList args.toList ds p := hA0
  rw [Tryd.params6] at hA hval
  obtain ⟨v0, vs0, d0, ds0, p0, q0, hargs, rfl, rfl, h0, r0⟩ := trodAll_cons hA
  obtain ⟨rfl, rfl, rfl⟩ := trodAll_nil r0
  obtain rfl : args = #[v0] := by cases args; simp_all
  obtain ⟨rfl, rfl⟩ := trodVars_none hV
  obtain ⟨n0, es0, A0, c0, rfl, hg0, hs0⟩ := open_arg_graph (hval 0 _ v0 rfl rfl) h0 (fun x hx => by simpa using hlt x (by simp [hx]))
  have hk' : Rows.uptoBulkAll (d0 :: _) ≤ 1048576 := of_decide_eq_true hk
  rw [Rows.uptoBulkAll] at hk'
  refine (greedyAlone_walk W n0 es0 A0 c0 hg0 (by omega) hT).mono fun e W' ⟨he, hb⟩ => ?_
  subst he
  exact ⟨_, rfl, post_true laidOut (by kernel_rfl) Tryd.underlying4 (by decide +kernel) rfl rfl hW' hb⟩

theorem greedyAlone_upto : Rows.GreedyAloneUptoSaid :=
  OpenClaim.holds_of_cond 6 Tryd.f6 rfl rfl rfl rfl rfl rfl rfl ⟨rfl, rfl, rfl, rfl, rfl⟩ rfl rfl rfl rfl rfl (by kernel_rfl) Tryd.func6 (by kernel_rfl)
    (of_decide_eq_true (by kernel_rfl)) (by unfold Func.isWrapper; first | (rw [if_pos (by decide +kernel)]; kernel_rfl) | (rw [if_neg (by decide +kernel)]; exact ⟨rfl, rfl⟩))
    (fun os started H enc _ F => by rw [OpenClaim.pre_eq_preRow]; exact greedyAlone_lifted os started H enc F)
theorem greedyAlone_plain (f : FuncId) (fn : Func) (hf : Tryd.pinned.checked.prog.funcNamed "forkwright/forkwrightkeep.GreedyAlone" = some f) (hfn : Tryd.pinned.checked.prog.funcs[f]? = some fn) :
    false = Tryd.pinned.checked.prog.looks [] ∧ ∀ (j : Nat) t, fn.params[j]? = some t → Tryd.pinned.checked.prog.wantsStandIn t = false := by
  obtain rfl : f = 6 := Option.some.inj ((show Tryd.prog.funcNamed "forkwright/forkwrightkeep.GreedyAlone" = some 6 by kernel_rfl).symm.trans hf) |>.symm
  obtain rfl : fn = Tryd.f6 := (Option.some.inj (Tryd.func6.symm.trans hfn)).symm
  refine ⟨by kernel_rfl, fun j t ht => ?_⟩
  rw [Tryd.params6] at ht
  have hm := Array.mem_of_getElem? ht
  obtain rfl : t = 24 := by simpa using hm
  exact (show Tryd.prog.wantsStandIn 24 = false by kernel_rfl)
theorem greedyAlone_card : Rows.GreedyAloneUptoCardSaid :=
  Claim7.holds_tied_plain_at .later [] _ _ _ _ greedyAlone_upto (fun _ h => by cases h) (by kernel_rfl) (fun _ h => by cases h) greedyAloneUpto_row_tie rfl ⟨rfl, rfl⟩ (by kernel_rfl) rfl greedyAlone_plain (by kernel_rfl)
end Go.Proofs.YtfjmhmfkhgjnhaaDoor
