/-
  The span is the height of what is ahead of what, and the width is how many are apart at most. On condition that what is read is of bulk at most 1048576; the table of math/bits is as its initialiser lays it (tied to the program's text).
-/
import Derived.Test.YtfjmhmfkhgjnhaaDoorSwP1
import Derived.Test.YtfjmhmfkhgjnhaaDoorOrP5
import Derived.Test.YtfjmhmfkhgjnhaaDoorSwP2
import Derived.Test.YtfjmhmfkhgjnhaaDoorOrP6

namespace Go.Proofs.YtfjmhmfkhgjnhaaDoor
set_option linter.unusedVariables false
set_option linter.unusedSimpArgs false
set_option maxRecDepth 100000
open Go.ChangeShapes Go.WideShapes Go.ChangeAt Go.RowKit
set_option linter.unusedVariables false

set_option maxRecDepth 100000 in
set_option maxHeartbeats 8000000 in
theorem spanHeight_walk (w : World) (cs : List Value) (t : Sp.T) (hT : TmR w.heap.size w cs t) (hn : t.size ≤ 4194304) (hTb : Tab w) :
    Calls Tryd.prog 5 #[.agg cs.toArray] w fun e w' => e = .returned (.bool true) ∧ Below w.heap.size w w' := by
  obtain ⟨a0, a1, a2, a3, A4, a5, a6, rfl, -, -⟩ := hT.form
  unfold tcells at hT ⊢
  have hba : Below w.heap.size w (w.alloc (.cells #[.int .i64 a0, .int .i64 a1, .bool a2, .int .i64 a3, .slice A4 a5 a6] 44)) := below_alloc (Below.refl _ _) _
  have x0 := Blk.new w 44 [.int .i64 a0, .int .i64 a1, .bool a2, .int .i64 a3, .slice A4 a5 a6]
  have hgy := fun (hs : t.size ≤ 200) w' (hb : Below w.heap.size w w') => spgraph_yes w' _ t (tm_up (hT.later hb) hb.size) hs
  have hgn := fun (hs : 200 < t.size) w' (hb : Below w.heap.size w w') => spgraph_no w' _ t (tm_up (hT.later hb) hb.size) hn hs
  have hwk := fun w' (hb : Below w.heap.size w w') => work_any w.heap.size w' _ t (hT.later hb) hb.size hn
  have hsp := fun w' (hb : Below w.heap.size w w') => span_any w.heap.size w' _ t (hT.later hb) hb.size hn
  have hwd := fun w' (hb : Below w.heap.size w w') => width_any w.heap.size w' _ t (hT.later hb) hb.size hn
  have HT := Lib.hid hTb
  clear hTb hT
  go_enter Tryd.func5, Tryd.ntmps5
  go_upto_region 1 with (fail)
  generalize (w.alloc (.cells #[.int .i64 a0, .int .i64 a1, .bool a2, .int .i64 a3, .slice A4 a5 a6] 44)) = W0 at x0 hba ⊢
  go_wp2_with fail
  refine (alive5_any W0).mono ?_
  rintro e w1 ⟨rfl, hb1⟩
  have x1 := x0.below hb1
  have hb01 := below_next hb1 hba
  have d0 : w1.cell? ⟨w.heap.size, 0, none⟩ = some (.int .i64 a0) := (x1.cell 0).trans rfl
  have d1 : w1.cell? ⟨w.heap.size, 1, none⟩ = some (.int .i64 a1) := (x1.cell 1).trans rfl
  have d2 : w1.cell? ⟨w.heap.size, 2, none⟩ = some (.bool a2) := (x1.cell 2).trans rfl
  have d3 : w1.cell? ⟨w.heap.size, 3, none⟩ = some (.int .i64 a3) := (x1.cell 3).trans rfl
  have d4 : w1.cell? ⟨w.heap.size, 4, none⟩ = some (.slice A4 a5 a6) := (x1.cell 4).trans rfl
  clear x0 hba hb1
  go_wp2_with fail
  by_cases hs : t.size ≤ 200
  · obtain ⟨n, hnt⟩ : ∃ n, n = t.size := ⟨_, rfl⟩
    obtain ⟨es, hes⟩ : ∃ es, es = Gr.gE t.rk t.size := ⟨_, rfl⟩
    have hg := hgy hs w1 hb01
    have hlt := Gr.gE_lt (f := t.rk) (n := t.size)
    have hfl := Gr.gE_full t.rk t.size
    have hhe := fun (L : List Nat) (hL : Gr.LvL t.size (Gr.gE t.rk t.size) L) => t.height hL
    have hwi := t.wide
    have hspn := t.span_le
    have hwdn := t.width_le
    have hel : (Gr.gE t.rk t.size).length ≤ 40000 := by
      have h1 := Gr.gEk_len t.rk t.size t.size
      have h2 := Nat.mul_le_mul hs hs
      unfold Gr.gE
      omega
    obtain ⟨sp, hsp'⟩ : ∃ s, s = t.span := ⟨_, rfl⟩
    obtain ⟨wd, hwd'⟩ : ∃ s, s = t.width := ⟨_, rfl⟩
    rw [← hes] at hg hlt hfl hel hwi
    rw [← hnt] at hg hlt hfl hs hwk hspn hwdn hwi
    rw [← hsp'] at hsp hspn hhe
    rw [← hwd'] at hwd hwdn hwi
    rw [← hes, ← hnt] at hhe
    clear hgy hgn hes hnt hn hsp' hwd'
    refine hg.mono ?_
    rintro e w2 ⟨A, c, rfl, s2, hb2⟩
    have hb3 := below_alloc (below_next hb2 hb01) (.cells #[.int .i64 (n : Int), .slice A es.length c] 24)
    have p3 := Blk.new w2 24 [.int .i64 (n : Int), .slice A es.length c]
    have x3 := (x1.below hb2).alloc (.cells #[.int .i64 (n : Int), .slice A es.length c] 24)
    have s3 := s2.alloc (.cells #[.int .i64 (n : Int), .slice A es.length c] 24)
    clear d0 d1 d2 d3 d4 x1 hb2 hb01 hg
    go_upto_region 4 with (fail)
    obtain ⟨q3, hq3⟩ : ∃ q, q = w2.heap.size := ⟨_, rfl⟩
    simp only [← hq3] at p3 ⊢
    generalize w2.alloc (.cells #[.int .i64 (n : Int), .slice A es.length c] 24) = w3 at p3 x3 s3 hb3 ⊢
    clear hq3 s2
    have c0 : w3.cell? ⟨q3, 0, none⟩ = some (.int .i64 (n : Int)) := (p3.cell 0).trans rfl
    have c1 : w3.cell? ⟨q3, 1, none⟩ = some (.slice A es.length c) := (p3.cell 1).trans rfl
    have hlz : (Gr.zed es).length ≤ 1099511627776 := by rw [Gr.zed_length]; omega
    have hht := height_any (n : Int) (Gr.zed es) w3 A c (by rw [Gr.zed_length, ercs_zed]; exact s3) hlz (HT.out.later HT.out.lt hb3)
    have hw0 := Gr.wrong_zed hs hlt hfl
    rw [Gr.zed_length, hw0] at hht
    rw [Int.toNat_natCast, Gr.nat_zed] at hht
    go_wp2_with fail
    refine hht.mono ?_
    rintro e w4 ⟨h, rfl, -, hL, -, hb4⟩
    obtain ⟨L, hL, hhL⟩ := hL trivial
    have hsp0 := hhe L hL
    rw [← hhL] at hsp0
    subst hsp0
    have x4 := x3.below hb4
    have p4 := p3.below hb4
    have hb04 := below_next hb4 hb3
    have s4 := s3.below hb4
    have hwd4 := wide_any (n : Int) (Gr.zed es) w4 A c (by rw [Gr.zed_length, ercs_zed]; exact s4) hlz (HT.out.later HT.out.lt hb04)
    have hwG : Mt.wideG (n : Int) (Gr.zed es) = Mt.wideW (Gr.behW n es) n := by unfold Mt.wideG; rw [if_pos hw0, Int.toNat_natCast, Gr.nat_zed]
    rw [hwG, hwi, Gr.zed_length, hw0] at hwd4
    have e0 : w4.cell? ⟨q3, 0, none⟩ = some (.int .i64 (n : Int)) := (p4.cell 0).trans rfl
    have e1 : w4.cell? ⟨q3, 1, none⟩ = some (.slice A es.length c) := (p4.cell 1).trans rfl
    clear hht c0 c1 x3 p3 hb3 s3 hb4 hL hhL hhe hwG hwi hlt hfl hw0
    go_wp2_with fail
    refine hwd4.mono ?_
    rintro e w5 ⟨u5, rfl, hr5, hb5⟩
    have x5 := x4.below hb5
    have p5 := p4.below hb5
    have hb05 := below_next hb5 hb04
    obtain ⟨A5, c5, rfl, hc5, hm5⟩ := own_slice hr5
    have keepS : ∀ w', Below w5.heap.size w5 w' → (Below w5.heap.size w5 w' ∧ w'.cell? ⟨w.heap.size, 0, none⟩ = some (.int .i64 a0) ∧ w'.cell? ⟨w.heap.size, 1, none⟩ = some (.int .i64 a1) ∧ w'.cell? ⟨w.heap.size, 2, none⟩ = some (.bool a2) ∧ w'.cell? ⟨w.heap.size, 3, none⟩ = some (.int .i64 a3) ∧ w'.cell? ⟨w.heap.size, 4, none⟩ = some (.slice A4 a5 a6) ∧ w'.cell? ⟨q3, 0, none⟩ = some (.int .i64 (n : Int))) := fun w' hb =>
      ⟨hb, ((x5.below hb).cell 0).trans rfl, ((x5.below hb).cell 1).trans rfl, ((x5.below hb).cell 2).trans rfl, ((x5.below hb).cell 3).trans rfl, ((x5.below hb).cell 4).trans rfl, ((p5.below hb).cell 0).trans rfl⟩
    have hS0 := keepS _ (below_drew (Below.refl _ _))
    have hk5 := fun w' (hb : Below w5.heap.size w5 w') => hwk w' (below_next hb hb05)
    have hs5 := fun w' (hb : Below w5.heap.size w5 w') => hsp w' (below_next hb hb05)
    have hd5 := fun w' (hb : Below w5.heap.size w5 w') => hwd w' (below_next hb hb05)
    clear hwk hsp hwd x4 x5 p4 p5 e0 e1 hwd4 s4 hb5 hb04 hr5
    go_wp2_with fail
    refine wp_walk (by kernel_rfl) (by kernel_rfl) (fun w w' => Below w.heap.size w w') (fun w' => (Below w5.heap.size w5 w' ∧ w'.cell? ⟨w.heap.size, 0, none⟩ = some (.int .i64 a0) ∧ w'.cell? ⟨w.heap.size, 1, none⟩ = some (.int .i64 a1) ∧ w'.cell? ⟨w.heap.size, 2, none⟩ = some (.bool a2) ∧ w'.cell? ⟨w.heap.size, 3, none⟩ = some (.int .i64 a3) ∧ w'.cell? ⟨w.heap.size, 4, none⟩ = some (.slice A4 a5 a6) ∧ w'.cell? ⟨q3, 0, none⟩ = some (.int .i64 (n : Int)))) hS0 ?_
    repeat (first | (refine settle_skip (fun _ => by rfl) ?_; (simp only [Act.put, List.setIfInBounds_toArray, List.set_cons_zero, List.set_cons_succ])) | (refine' settle_run (fun _ _ => Below.refl _ _) (fun _ => by rfl) ?_ ?_; rotate_left; (focus (intro ρ w hS hF; (try dsimp only at hS); go_split_ands; go_simp; try with_reducible rfl)); (simp only [Act.put, List.setIfInBounds_toArray, List.set_cons_zero, List.set_cons_succ])))
    (refine' settle_step (fun _ => by rfl) ?_ ?_; rotate_left; (focus (intro ρ w hS hF K hK; (simp only [Act.put, List.setIfInBounds_toArray, List.set_cons_zero, List.set_cons_succ] at hK); go_simp; refine (hs5 _ hS.1).mono ?_; rintro e w' ⟨rfl, hb'⟩; have hS' := keepS _ (below_next hb' hS.1); have hE' := hb'; exact hK _ hS' hE')); (simp only [Act.put, List.setIfInBounds_toArray, List.set_cons_zero, List.set_cons_succ]))
    repeat (first | (refine settle_skip (fun _ => by rfl) ?_; (simp only [Act.put, List.setIfInBounds_toArray, List.set_cons_zero, List.set_cons_succ])) | (refine' settle_run (fun _ _ => Below.refl _ _) (fun _ => by rfl) ?_ ?_; rotate_left; (focus (intro ρ w hS hF; (try dsimp only at hS); go_split_ands; go_simp; try with_reducible rfl)); (simp only [Act.put, List.setIfInBounds_toArray, List.set_cons_zero, List.set_cons_succ])))
    (refine' settle_step (fun _ => by rfl) ?_ ?_; rotate_left; (focus (intro ρ w hS hF K hK; (simp only [Act.put, List.setIfInBounds_toArray, List.set_cons_zero, List.set_cons_succ] at hK); go_simp; refine (hd5 _ hS.1).mono ?_; rintro e w' ⟨rfl, hb'⟩; have hS' := keepS _ (below_next hb' hS.1); have hE' := hb'; exact hK _ hS' hE')); (simp only [Act.put, List.setIfInBounds_toArray, List.set_cons_zero, List.set_cons_succ]))
    repeat (first | (refine settle_skip (fun _ => by rfl) ?_; (simp only [Act.put, List.setIfInBounds_toArray, List.set_cons_zero, List.set_cons_succ])) | (refine' settle_run (fun _ _ => Below.refl _ _) (fun _ => by rfl) ?_ ?_; rotate_left; (focus (intro ρ w hS hF; (try dsimp only at hS); go_split_ands; go_simp; try with_reducible rfl)); (simp only [Act.put, List.setIfInBounds_toArray, List.set_cons_zero, List.set_cons_succ])))
    (refine' settle_step (fun _ => by rfl) ?_ ?_; rotate_left; (focus (intro ρ w hS hF K hK; (simp only [Act.put, List.setIfInBounds_toArray, List.set_cons_zero, List.set_cons_succ] at hK); go_simp; refine (hk5 _ hS.1).mono ?_; rintro e w' ⟨rfl, hb'⟩; have hS' := keepS _ (below_next hb' hS.1); have hE' := hb'; exact hK _ hS' hE')); (simp only [Act.put, List.setIfInBounds_toArray, List.set_cons_zero, List.set_cons_succ]))
    repeat (first | (refine settle_skip (fun _ => by rfl) ?_; (simp only [Act.put, List.setIfInBounds_toArray, List.set_cons_zero, List.set_cons_succ])) | (refine' settle_run (fun _ _ => Below.refl _ _) (fun _ => by rfl) ?_ ?_; rotate_left; (focus (intro ρ w hS hF; (try dsimp only at hS); go_split_ands; go_simp; try with_reducible rfl)); (simp only [Act.put, List.setIfInBounds_toArray, List.set_cons_zero, List.set_cons_succ])))
    refine settle_nil ?_
    intro ρ wE hS hF
    have HE := Lib.hid (below_next hS.1 hb05)
    clear hF hS hS0 keepS hk5 hs5 hd5
    go_wp2_with fail
    go_ret
    exact ⟨rfl, HE.out⟩
  · have hbig : 200 < t.size := by omega
    have hg := hgn hbig w1 hb01
    clear hgy hgn hs hsp hwd
    refine hg.mono ?_
    rintro e w2 ⟨rfl, hb2⟩
    have x2 := (x1.below hb2).alloc (.cells #[.int .i64 0, .slice none 0 0] 24)
    have hb02 := below_alloc (below_next hb2 hb01) (.cells #[.int .i64 0, .slice none 0 0] 24)
    clear d0 d1 d2 d3 d4 x1 hb2 hb01 hg
    go_upto_region 4 with (fail)
    generalize w2.alloc (.cells #[.int .i64 0, .slice none 0 0] 24) = w3 at x2 hb02 ⊢
    have d0 : w3.cell? ⟨w.heap.size, 0, none⟩ = some (.int .i64 a0) := (x2.cell 0).trans rfl
    have d1 : w3.cell? ⟨w.heap.size, 1, none⟩ = some (.int .i64 a1) := (x2.cell 1).trans rfl
    have d2 : w3.cell? ⟨w.heap.size, 2, none⟩ = some (.bool a2) := (x2.cell 2).trans rfl
    have d3 : w3.cell? ⟨w.heap.size, 3, none⟩ = some (.int .i64 a3) := (x2.cell 3).trans rfl
    have d4 : w3.cell? ⟨w.heap.size, 4, none⟩ = some (.slice A4 a5 a6) := (x2.cell 4).trans rfl
    have hk3 := hwk w3 hb02
    have g0 : decide ((200 : Int) < (t.size : Int)) = true := by simp; omega
    clear hwk x2
    go_wp2_with fail
    refine hk3.mono ?_
    rintro e w4 ⟨rfl, hb4⟩
    have HB := Lib.hid (below_next hb4 hb02)
    clear hk3 d0 d1 d2 d3 d4 hb02 hb4
    go_wp2_with fail
    go_ret
    exact ⟨by first | rfl | simp [hbig], HB.out⟩

theorem tab_of_spanHeight {W : World} (h : laidMetH Tryd.prog Rows.spanHeightUptoRow.laid W) : Tab W :=
  tab_is (Lib.tabIs_of_head (rest := []) gTab gTabType Tryd.underlying134 Tryd.underlying5 cellsByte cellsTab h)
theorem spanHeight_met (os : Os) : laidMet Tryd.prog Rows.spanHeightUptoRow.laid ((laidWorld os).forCall (fun _ _ => 0) ⟨#[], #[.agg #[.int .i64 0, .int .i64 0, .bool false, .int .i64 0, .slice none 0 0]], []⟩).memory :=
  laidMet_of_run' 8 (by kernel_rfl) (by kernel_rfl)
theorem spanHeight_reads (os : Os) {H : Type} (enc : TypeId × Value → H) : ∃ places, DataW.whole enc Tryd.prog ((laidWorld os).forCall (fun _ _ => 0) ⟨#[], #[.agg #[.int .i64 0, .int .i64 0, .bool false, .int .i64 0, .slice none 0 0]], []⟩).memory Tryd.f5.params.toList Rows.spanHeightSpec.vars false #[.agg #[.int .i64 0, .int .i64 0, .bool false, .int .i64 0, .slice none 0 0]].toList 8 = some ([.agg [.lit (.int .i64 0), .agg [.lit (.int .i64 0), .lit (.bool false), .lit (.int .i64 0)], .nil]], [], places) :=
  ⟨[], by kernel_rfl⟩
set_option maxRecDepth 100000 in
theorem spanHeight_lifted (os : Os) (started : os.Started) (H : Type) (enc : TypeId × Value → H) (F : Stop.Interp) :
    ReturnsInHanded {} Tryd.checked os 5 .any ((Rows.OpenSpec.upto Rows.spanHeightSpec).preRow enc Tryd.prog Tryd.f5 Rows.spanHeightUptoRow.domain false Rows.spanHeightUptoRow.laid) (((Rows.OpenSpec.upto Rows.spanHeightSpec).at F).post enc Tryd.prog Tryd.f5 false true false false) := by
  obtain ⟨places, hx⟩ := spanHeight_reads os enc
  refine returnsInHanded_of_row (C := Tryd.checked) (s := (Rows.OpenSpec.upto Rows.spanHeightSpec)) own started (by kernel_rfl) Tryd.func5
    (witness_row_at (enc := enc) (C := Tryd.checked) false (laidWorld os) #[.agg #[.int .i64 0, .int .i64 0, .bool false, .int .i64 0, .slice none 0 0]] rfl (by kernel_rfl) (by kernel_rfl) (by kernel_rfl)
      (OpenSpec.preRow_of_cond 8 hx (by kernel_rfl) (fun k hk => by cases hk; kernel_rfl) (by kernel_rfl) (spanHeight_met os))) ?_
  intro W base args ds gs before hval0 hW _ hcond _ hL _ _
  have hk := hcond _ rfl
  have hT := tab_of_spanHeight hL
  have hval : ∀ (j : Nat) t v, Tryd.f5.params[j]? = some t → args[j]? = some v → Value.okWide Tryd.prog W .any base t v := hval0
  have hW' := hW
  have hlt := hW.lt
  obtain ⟨p, q, hA0, hV, rfl, hfz, hnd⟩ := hW
  have hA : DataW.TrodAll enc Tryd.prog W 0 (fun _ => true) true Tryd.f5.params.toList args.toList ds p := hA0
  rw [Tryd.params5] at hA hval
  obtain ⟨v0, vs0, d0, ds0, p0, q0, hargs, rfl, rfl, h0, r0⟩ := trodAll_cons hA
  obtain ⟨rfl, rfl, rfl⟩ := trodAll_nil r0
  obtain rfl : args = #[v0] := by cases args; simp_all
  obtain ⟨rfl, rfl⟩ := trodVars_none hV
  obtain ⟨cs0, t0, rfl, ht0, hs0⟩ := open_arg_term (hval 0 _ v0 rfl rfl) h0 (fun x hx => by simpa using hlt x (by simp [hx]))
  have hk' : Rows.uptoBulkAll (d0 :: _) ≤ 1048576 := of_decide_eq_true hk
  rw [Rows.uptoBulkAll] at hk'
  refine (spanHeight_walk W _ t0 ht0 (by omega) hT).mono fun e W' ⟨he, hb⟩ => ?_
  subst he
  exact ⟨_, rfl, post_true laidOut (by kernel_rfl) Tryd.underlying4 (by decide +kernel) rfl rfl hW' hb⟩

theorem spanHeight_upto : Rows.SpanHeightUptoSaid :=
  OpenClaim.holds_of_cond 5 Tryd.f5 rfl rfl rfl rfl rfl rfl rfl ⟨rfl, rfl, rfl, rfl, rfl⟩ rfl rfl rfl rfl rfl (by kernel_rfl) Tryd.func5 (by kernel_rfl)
    (of_decide_eq_true (by kernel_rfl)) (by unfold Func.isWrapper; first | (rw [if_pos (by decide +kernel)]; kernel_rfl) | (rw [if_neg (by decide +kernel)]; exact ⟨rfl, rfl⟩))
    (fun os started H enc _ F => by rw [OpenClaim.pre_eq_preRow]; exact spanHeight_lifted os started H enc F)
theorem spanHeight_plain (f : FuncId) (fn : Func) (hf : Tryd.pinned.checked.prog.funcNamed "forkwright/forkwrightkeep.SpanHeight" = some f) (hfn : Tryd.pinned.checked.prog.funcs[f]? = some fn) :
    false = Tryd.pinned.checked.prog.looks [] ∧ ∀ (j : Nat) t, fn.params[j]? = some t → Tryd.pinned.checked.prog.wantsStandIn t = false := by
  obtain rfl : f = 5 := Option.some.inj ((show Tryd.prog.funcNamed "forkwright/forkwrightkeep.SpanHeight" = some 5 by kernel_rfl).symm.trans hf) |>.symm
  obtain rfl : fn = Tryd.f5 := (Option.some.inj (Tryd.func5.symm.trans hfn)).symm
  refine ⟨by kernel_rfl, fun j t ht => ?_⟩
  rw [Tryd.params5] at ht
  have hm := Array.mem_of_getElem? ht
  obtain rfl : t = 44 := by simpa using hm
  exact (show Tryd.prog.wantsStandIn 44 = false by kernel_rfl)
theorem spanHeight_card : Rows.SpanHeightUptoCardSaid :=
  Claim7.holds_tied_plain_at .later [] _ _ _ _ spanHeight_upto (fun _ h => by cases h) (by kernel_rfl) (fun _ h => by cases h) spanHeightUpto_row_tie rfl ⟨rfl, rfl⟩ (by kernel_rfl) rfl spanHeight_plain (by kernel_rfl)
end Go.Proofs.YtfjmhmfkhgjnhaaDoor
