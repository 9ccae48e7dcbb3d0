/-
  A term is done in no more than its work, parted, and its span. On condition that what is read is of bulk at most 1048576; the table of math/bits is as its initialiser lays it (tied to the program's text).
-/
import Derived.Test.YtpimcghmpbbckaaDoorGyP4
import Derived.Test.YtpimcghmpbbckaaDoorGyU1
import Derived.Test.YtpimcghmpbbckaaDoorGyV1

namespace Go.Proofs.YtpimcghmpbbckaaDoor
set_option linter.unusedVariables false
set_option linter.unusedSimpArgs false
set_option maxRecDepth 100000
open Go.ChangeShapes Go.WideShapes Go.ChangeAt Go.RowKit
set_option linter.unusedVariables false

set_option maxRecDepth 100000 in
set_option maxHeartbeats 8000000 in
theorem greedyTerm_walk (w : World) (cs : List Value) (t : Sp.T) (k : Int) (hT : TmR w.heap.size w cs t) (hn : t.size ≤ 4194304) (hTb : Tab w) :
    Calls Tryd.prog 7 #[.agg cs.toArray, .int .i64 k] w fun e w' => e = .returned (.bool true) ∧ Below w.heap.size w w' := by
  obtain ⟨a0, a1, a2, a3, A4, a5, a6, rfl, -, -⟩ := hT.form
  unfold tcells at hT ⊢
  have hba : Below w.heap.size w (w.alloc (.cells #[.int .i64 a0, .int .i64 a1, .bool a2, .int .i64 a3, .slice A4 a5 a6] 42)) := below_alloc (Below.refl _ _) _
  have x0 := Blk.new w 42 [.int .i64 a0, .int .i64 a1, .bool a2, .int .i64 a3, .slice A4 a5 a6]
  have hgy := fun (hs : t.size ≤ 200) w' (hb : Below w.heap.size w w') => spgraph_yes w' _ t (tm_up (hT.later hb) hb.size) hs
  have hgn := fun (hs : 200 < t.size) w' (hb : Below w.heap.size w w') => spgraph_no w' _ t (tm_up (hT.later hb) hb.size) hn hs
  have hwk := fun w' (hb : Below w.heap.size w w') => work_any w.heap.size w' _ t (hT.later hb) hb.size hn
  have hsp := fun w' (hb : Below w.heap.size w w') => span_any w.heap.size w' _ t (hT.later hb) hb.size hn
  have HT := Lib.hid hTb
  clear hTb hT
  go_enter Tryd.func7, Tryd.ntmps7
  go_upto_region 1 with (fail)
  generalize (w.alloc (.cells #[.int .i64 a0, .int .i64 a1, .bool a2, .int .i64 a3, .slice A4 a5 a6] 42)) = W0 at x0 hba ⊢
  go_wp2_with fail
  refine (alive6_any W0 (HT.out.later HT.out.lt hba)).mono ?_
  rintro e w1 ⟨rfl, hb1⟩
  have x1 := x0.below hb1
  have hb01 := below_next hb1 hba
  have d0 : w1.cell? ⟨w.heap.size, 0, none⟩ = some (.int .i64 a0) := (x1.cell 0).trans rfl
  have d1 : w1.cell? ⟨w.heap.size, 1, none⟩ = some (.int .i64 a1) := (x1.cell 1).trans rfl
  have d2 : w1.cell? ⟨w.heap.size, 2, none⟩ = some (.bool a2) := (x1.cell 2).trans rfl
  have d3 : w1.cell? ⟨w.heap.size, 3, none⟩ = some (.int .i64 a3) := (x1.cell 3).trans rfl
  have d4 : w1.cell? ⟨w.heap.size, 4, none⟩ = some (.slice A4 a5 a6) := (x1.cell 4).trans rfl
  clear x0 hba hb1
  go_wp2_with fail
  by_cases hs : t.size ≤ 200
  · obtain ⟨n, hnt⟩ : ∃ n, n = t.size := ⟨_, rfl⟩
    obtain ⟨es, hes⟩ : ∃ es, es = Gr.gE t.rk t.size := ⟨_, rfl⟩
    have hg := hgy hs w1 hb01
    have hlt := Gr.gE_lt (f := t.rk) (n := t.size)
    have hfl := Gr.gE_full t.rk t.size
    have hdv := t.rounds_div
    have hspn := t.span_le
    have hel : (Gr.gE t.rk t.size).length ≤ 40000 := by
      have h1 := Gr.gEk_len t.rk t.size t.size
      have h2 := Nat.mul_le_mul hs hs
      unfold Gr.gE
      omega
    obtain ⟨sp, hsp'⟩ : ∃ s, s = t.span := ⟨_, rfl⟩
    rw [← hes] at hg hlt hfl hel hdv
    rw [← hnt] at hg hlt hfl hs hwk hdv hspn
    rw [← hsp'] at hdv hsp hspn
    clear hgy hgn hes hnt hn hsp'
    refine hg.mono ?_
    rintro e w2 ⟨A, c, rfl, s2, hb2⟩
    have hb3 := below_alloc (below_next hb2 hb01) (.cells #[.int .i64 (n : Int), .slice A es.length c] 24)
    have p3 := Blk.new w2 24 [.int .i64 (n : Int), .slice A es.length c]
    have x3 := (x1.below hb2).alloc (.cells #[.int .i64 (n : Int), .slice A es.length c] 24)
    have s3 := s2.alloc (.cells #[.int .i64 (n : Int), .slice A es.length c] 24)
    clear d0 d1 d2 d3 d4 x1 hb2 hb01 hg
    go_upto_region 4 with (fail)
    obtain ⟨q3, hq3⟩ : ∃ q, q = w2.heap.size := ⟨_, rfl⟩
    simp only [← hq3] at p3 ⊢
    generalize w2.alloc (.cells #[.int .i64 (n : Int), .slice A es.length c] 24) = w3 at p3 x3 s3 hb3 ⊢
    clear hq3 s2
    have c0 : w3.cell? ⟨q3, 0, none⟩ = some (.int .i64 (n : Int)) := (p3.cell 0).trans rfl
    have c1 : w3.cell? ⟨q3, 1, none⟩ = some (.slice A es.length c) := (p3.cell 1).trans rfl
    have hrd := rounds_any (n : Int) (Gr.zed es) k w3 A c (by rw [Gr.zed_length, ercs_zed]; exact s3) (by rw [Gr.zed_length]; omega) (HT.out.later HT.out.lt hb3)
    rw [Gr.zed_length] at hrd
    have hw0 := Gr.wrong_zed hs hlt hfl
    have HB := Lib.hid hb3
    rcases k1 : decide (k < 1) with _ | _
    · rcases k2 : decide (16 < k) with _ | _
      · have hk1 := of_decide_eq_false k1
        have hk2 := of_decide_eq_false k2
        obtain ⟨v, hv⟩ : ∃ v : Nat, k = ((v + 1 : Nat) : Int) := ⟨(k - 1).toNat, by omega⟩
        have he : Gy.err (n : Int) (Gr.zed es) k = 0 := Gy.err_zero.2 ⟨hw0, by omega, by omega⟩
        unfold Gy.res at hrd
        rw [he, if_pos rfl, Gr.nat_zed, Int.toNat_natCast] at hrd
        obtain ⟨r1, r2⟩ := hdv v
        have hkn : k.toNat = v + 1 := by omega
        rw [hkn] at hrd
        have hshort := Gr.all_short n es (v + 1)
        obtain ⟨L, hL⟩ : ∃ L, L = Gr.all n es (v + 1) := ⟨_, rfl⟩
        rw [← hL] at hrd r1 r2 hshort
        have HV := Lib.hid hv
        clear hdv hw0 he hL s3 hlt hfl hk1 hk2 hkn hv
        go_wp2_with fail
        refine hrd.mono ?_
        rintro e w4 ⟨u, os, rfl, hrow, hR, hb4⟩
        have x4 := x3.below hb4
        have hb04 := below_next hb4 hb3
        have hol := hR.1
        obtain ⟨r, hr⟩ : ∃ r, r = os.length := ⟨_, rfl⟩
        rw [← hol, ← hr] at r1 r2 hshort
        rw [← hr] at hrow
        obtain ⟨Au, cu, rfl, -, -⟩ := own_slice hrow
        obtain ⟨q, hq⟩ : ∃ q, q = n / (v + 1) := ⟨_, rfl⟩
        rw [← hq] at r1
        have hqn : q ≤ n := by rw [hq]; exact Nat.div_le_self _ _
        have hdiv : (n : Int).tdiv k = (q : Int) := by rw [hq, HV.out]; rfl
        have hw1 : IntKind.i64.wrap (q : Int) = (q : Int) := IntWalk.i64_in _ (by omega)
        have hw2 : IntKind.i64.wrap ((q : Int) + (sp : Int)) = (q : Int) + (sp : Int) := IntWalk.i64_in _ (by omega)
        have b1 : decide ((r : Int) ≤ (q : Int) + (sp : Int)) = true := decide_eq_true (by omega)
        have b2 : decide (sp ≤ r) = true := decide_eq_true r2
        have hkz : k ≠ 0 := by have := HV.out; omega
        clear hrd c0 c1 x3 p3 hb3 hb4 hR hrow hol hr hq
        have keepS : ∀ w', Below w4.heap.size w4 w' → (Below w4.heap.size w4 w' ∧ w'.cell? ⟨w.heap.size, 0, none⟩ = some (.int .i64 a0) ∧ w'.cell? ⟨w.heap.size, 1, none⟩ = some (.int .i64 a1) ∧ w'.cell? ⟨w.heap.size, 2, none⟩ = some (.bool a2) ∧ w'.cell? ⟨w.heap.size, 3, none⟩ = some (.int .i64 a3) ∧ w'.cell? ⟨w.heap.size, 4, none⟩ = some (.slice A4 a5 a6)) := fun w' hb =>
          ⟨hb, ((x4.below hb).cell 0).trans rfl, ((x4.below hb).cell 1).trans rfl, ((x4.below hb).cell 2).trans rfl, ((x4.below hb).cell 3).trans rfl, ((x4.below hb).cell 4).trans rfl⟩
        have hS0 := keepS _ (below_drew (Below.refl _ _))
        have hw4 := fun w' (hb : Below w4.heap.size w4 w') => hwk w' (below_next hb hb04)
        have hs4 := fun w' (hb : Below w4.heap.size w4 w') => hsp w' (below_next hb hb04)
        clear hwk hsp x4
        go_wp2_with fail
        refine wp_walk (by kernel_rfl) (by kernel_rfl) (fun w w' => Below w.heap.size w w') (fun w' => (Below w4.heap.size w4 w' ∧ w'.cell? ⟨w.heap.size, 0, none⟩ = some (.int .i64 a0) ∧ w'.cell? ⟨w.heap.size, 1, none⟩ = some (.int .i64 a1) ∧ w'.cell? ⟨w.heap.size, 2, none⟩ = some (.bool a2) ∧ w'.cell? ⟨w.heap.size, 3, none⟩ = some (.int .i64 a3) ∧ w'.cell? ⟨w.heap.size, 4, none⟩ = some (.slice A4 a5 a6))) hS0 ?_
        repeat (first | (refine settle_skip (fun _ => by rfl) ?_; (simp only [Act.put, List.setIfInBounds_toArray, List.set_cons_zero, List.set_cons_succ])) | (refine' settle_run (fun _ _ => Below.refl _ _) (fun _ => by rfl) ?_ ?_; rotate_left; (focus (intro ρ w hS hF; (try dsimp only at hS); go_split_ands; go_simp; try with_reducible rfl)); (simp only [Act.put, List.setIfInBounds_toArray, List.set_cons_zero, List.set_cons_succ])))
        (refine' settle_step (fun _ => by rfl) ?_ ?_; rotate_left; (focus (intro ρ w hS hF K hK; (simp only [Act.put, List.setIfInBounds_toArray, List.set_cons_zero, List.set_cons_succ] at hK); go_simp; refine (hw4 _ hS.1).mono ?_; rintro e w' ⟨rfl, hb'⟩; have hS' := keepS _ (below_next hb' hS.1); have hE' := hb'; exact hK _ hS' hE')); (simp only [Act.put, List.setIfInBounds_toArray, List.set_cons_zero, List.set_cons_succ]))
        repeat (first | (refine settle_skip (fun _ => by rfl) ?_; (simp only [Act.put, List.setIfInBounds_toArray, List.set_cons_zero, List.set_cons_succ])) | (refine' settle_run (fun _ _ => Below.refl _ _) (fun _ => by rfl) ?_ ?_; rotate_left; (focus (intro ρ w hS hF; (try dsimp only at hS); go_split_ands; go_simp; try with_reducible rfl)); (simp only [Act.put, List.setIfInBounds_toArray, List.set_cons_zero, List.set_cons_succ])))
        (refine' settle_step (fun _ => by rfl) ?_ ?_; rotate_left; (focus (intro ρ w hS hF K hK; (simp only [Act.put, List.setIfInBounds_toArray, List.set_cons_zero, List.set_cons_succ] at hK); go_simp; refine (hs4 _ hS.1).mono ?_; rintro e w' ⟨rfl, hb'⟩; have hS' := keepS _ (below_next hb' hS.1); have hE' := hb'; exact hK _ hS' hE')); (simp only [Act.put, List.setIfInBounds_toArray, List.set_cons_zero, List.set_cons_succ]))
        repeat (first | (refine settle_skip (fun _ => by rfl) ?_; (simp only [Act.put, List.setIfInBounds_toArray, List.set_cons_zero, List.set_cons_succ])) | (refine' settle_run (fun _ _ => Below.refl _ _) (fun _ => by rfl) ?_ ?_; rotate_left; (focus (intro ρ w hS hF; (try dsimp only at hS); go_split_ands; go_simp; try with_reducible rfl)); (simp only [Act.put, List.setIfInBounds_toArray, List.set_cons_zero, List.set_cons_succ])))
        (refine' settle_step (fun _ => by rfl) ?_ ?_; rotate_left; (focus (intro ρ w hS hF K hK; (simp only [Act.put, List.setIfInBounds_toArray, List.set_cons_zero, List.set_cons_succ] at hK); go_simp; refine (hs4 _ hS.1).mono ?_; rintro e w' ⟨rfl, hb'⟩; have hS' := keepS _ (below_next hb' hS.1); have hE' := hb'; exact hK _ hS' hE')); (simp only [Act.put, List.setIfInBounds_toArray, List.set_cons_zero, List.set_cons_succ]))
        repeat (first | (refine settle_skip (fun _ => by rfl) ?_; (simp only [Act.put, List.setIfInBounds_toArray, List.set_cons_zero, List.set_cons_succ])) | (refine' settle_run (fun _ _ => Below.refl _ _) (fun _ => by rfl) ?_ ?_; rotate_left; (focus (intro ρ w hS hF; (try dsimp only at hS); go_split_ands; go_simp; try with_reducible rfl)); (simp only [Act.put, List.setIfInBounds_toArray, List.set_cons_zero, List.set_cons_succ])))
        refine settle_nil ?_
        intro ρ wE hS hF
        have HE := Lib.hid (below_next hS.1 hb04)
        clear hF hS hS0 keepS hw4 hs4
        go_wp2_with fail
        go_ret
        exact ⟨rfl, HE.out⟩
      · clear hdv hw0 hrd s3 hlt hfl hwk hsp
        go_wp2_with fail
        go_ret
        exact ⟨rfl, HB.out⟩
    · clear hdv hw0 hrd s3 hlt hfl hwk hsp
      go_wp2_with fail
      go_ret
      exact ⟨rfl, HB.out⟩
  · have hbig : 200 < t.size := by omega
    have hg := hgn hbig w1 hb01
    clear hgy hgn hs hn hwk hsp
    refine hg.mono ?_
    rintro e w2 ⟨rfl, hb2⟩
    have HB := Lib.hid (below_alloc (below_next hb2 hb01) (.cells #[.int .i64 0, .slice none 0 0] 24))
    clear d0 d1 d2 d3 d4 x1 hb2 hb01 hg
    go_wp2_with fail
    go_ret
    exact ⟨rfl, HB.out⟩

theorem tab_of_greedyTerm {W : World} (h : laidMetH Tryd.prog Rows.greedyTermUptoRow.laid W) : Tab W :=
  tab_is (Lib.tabIs_of_head (rest := []) gTab gTabType Tryd.underlying129 Tryd.underlying5 cellsByte cellsTab h)
theorem greedyTerm_met (os : Os) : laidMet Tryd.prog Rows.greedyTermUptoRow.laid ((laidWorld os).forCall (fun _ _ => 0) ⟨#[], #[.agg #[.int .i64 0, .int .i64 0, .bool false, .int .i64 0, .slice none 0 0], .int .i64 0], []⟩).memory :=
  laidMet_of_run' 8 (by kernel_rfl) (by kernel_rfl)
theorem greedyTerm_reads (os : Os) {H : Type} (enc : TypeId × Value → H) : ∃ places, DataW.whole enc Tryd.prog ((laidWorld os).forCall (fun _ _ => 0) ⟨#[], #[.agg #[.int .i64 0, .int .i64 0, .bool false, .int .i64 0, .slice none 0 0], .int .i64 0], []⟩).memory Tryd.f7.params.toList Rows.greedyTermSpec.vars false #[.agg #[.int .i64 0, .int .i64 0, .bool false, .int .i64 0, .slice none 0 0], .int .i64 0].toList 8 = some ([.agg [.lit (.int .i64 0), .agg [.lit (.int .i64 0), .lit (.bool false), .lit (.int .i64 0)], .nil], .lit (.int .i64 0)], [], places) :=
  ⟨[], by kernel_rfl⟩
set_option maxRecDepth 100000 in
theorem greedyTerm_lifted (os : Os) (started : os.Started) (H : Type) (enc : TypeId × Value → H) (F : Stop.Interp) :
    ReturnsInHanded {} Tryd.checked os 7 .any ((Rows.OpenSpec.upto Rows.greedyTermSpec).preRow enc Tryd.prog Tryd.f7 Rows.greedyTermUptoRow.domain false Rows.greedyTermUptoRow.laid) (((Rows.OpenSpec.upto Rows.greedyTermSpec).at F).post enc Tryd.prog Tryd.f7 false true false false) := by
  obtain ⟨places, hx⟩ := greedyTerm_reads os enc
  refine returnsInHanded_of_row (C := Tryd.checked) (s := (Rows.OpenSpec.upto Rows.greedyTermSpec)) own started (by kernel_rfl) Tryd.func7
    (witness_row_at (enc := enc) (C := Tryd.checked) false (laidWorld os) #[.agg #[.int .i64 0, .int .i64 0, .bool false, .int .i64 0, .slice none 0 0], .int .i64 0] rfl (by kernel_rfl) (by kernel_rfl) (by kernel_rfl)
      (OpenSpec.preRow_of_cond 8 hx (by kernel_rfl) (fun k hk => by cases hk; kernel_rfl) (by kernel_rfl) (greedyTerm_met os))) ?_
  intro W base args ds gs before hval0 hW _ hcond _ hL _ _
  have hk := hcond _ rfl
  have hT := tab_of_greedyTerm hL
  have hval : ∀ (j : Nat) t v, Tryd.f7.params[j]? = some t → args[j]? = some v → Value.okWide Tryd.prog W .any base t v := hval0
  have hW' := hW
  have hlt := hW.lt
  obtain ⟨p, q, hA0, hV, rfl, hfz, hnd⟩ := hW
  have hA : DataW.TrodAll enc Tryd.prog W 0 (fun _ => true) true Tryd.f7.params.toList args.toList ds p := hA0
  rw [Tryd.params7] at hA hval
  obtain ⟨v0, vs0, d0, ds0, p0, q0, hargs, rfl, rfl, h0, r0⟩ := trodAll_cons hA
  obtain ⟨v1, vs1, d1, ds1, p1, q1, rfl, rfl, rfl, h1, r1⟩ := trodAll_cons r0
  obtain ⟨rfl, rfl, rfl⟩ := trodAll_nil r1
  obtain rfl : args = #[v0, v1] := by cases args; simp_all
  obtain ⟨rfl, rfl⟩ := trodVars_none hV
  obtain ⟨cs0, t0, rfl, ht0, hs0⟩ := open_arg_term (hval 0 _ v0 rfl rfl) h0 (fun x hx => by simpa using hlt x (by simp [hx]))
  obtain ⟨n1, rfl, rfl, rfl, wn1⟩ := open_int Tryd.underlying3 (hval 1 _ v1 rfl rfl) h1
  have hk' : Rows.uptoBulkAll (d0 :: _) ≤ 1048576 := of_decide_eq_true hk
  rw [Rows.uptoBulkAll] at hk'
  refine (greedyTerm_walk W _ t0 n1 ht0 (by omega) hT).mono fun e W' ⟨he, hb⟩ => ?_
  subst he
  exact ⟨_, rfl, post_true laidOut (by kernel_rfl) Tryd.underlying4 (by decide +kernel) rfl rfl hW' hb⟩

theorem greedyTerm_upto : Rows.GreedyTermUptoSaid :=
  OpenClaim.holds_of_cond 7 Tryd.f7 rfl rfl rfl rfl rfl rfl rfl ⟨rfl, rfl, rfl, rfl, rfl⟩ rfl rfl rfl rfl rfl (by kernel_rfl) Tryd.func7 (by kernel_rfl)
    (of_decide_eq_true (by kernel_rfl)) (by unfold Func.isWrapper; first | (rw [if_pos (by decide +kernel)]; kernel_rfl) | (rw [if_neg (by decide +kernel)]; exact ⟨rfl, rfl⟩))
    (fun os started H enc _ F => by rw [OpenClaim.pre_eq_preRow]; exact greedyTerm_lifted os started H enc F)
theorem greedyTerm_plain (f : FuncId) (fn : Func) (hf : Tryd.pinned.checked.prog.funcNamed "forkwright/forkwrightkeep.GreedyTerm" = some f) (hfn : Tryd.pinned.checked.prog.funcs[f]? = some fn) :
    false = Tryd.pinned.checked.prog.looks [] ∧ ∀ (j : Nat) t, fn.params[j]? = some t → Tryd.pinned.checked.prog.wantsStandIn t = false := by
  obtain rfl : f = 7 := Option.some.inj ((show Tryd.prog.funcNamed "forkwright/forkwrightkeep.GreedyTerm" = some 7 by kernel_rfl).symm.trans hf) |>.symm
  obtain rfl : fn = Tryd.f7 := (Option.some.inj (Tryd.func7.symm.trans hfn)).symm
  refine ⟨by kernel_rfl, fun j t ht => ?_⟩
  rw [Tryd.params7] at ht
  have hm := Array.mem_of_getElem? ht
  have hm' : t ∈ [42, 3] := by simpa using hm
  have hall : ([42, 3].all fun u => !Tryd.prog.wantsStandIn u) = true := by kernel_rfl
  exact (show Tryd.prog.wantsStandIn t = false by simpa using List.all_eq_true.1 hall t hm')
theorem greedyTerm_card : Rows.GreedyTermUptoCardSaid :=
  Claim7.holds_tied_plain_at .later [] _ _ _ _ greedyTerm_upto (fun _ h => by cases h) (by kernel_rfl) (fun _ h => by cases h) greedyTermUpto_row_tie rfl ⟨rfl, rfl⟩ (by kernel_rfl) rfl greedyTerm_plain (by kernel_rfl)
end Go.Proofs.YtpimcghmpbbckaaDoor
