/-
  As many orders as its graph has: side by side they are mixed, one behind the other they are not. On condition that what is read is of bulk at most 1048576; the table of math/bits is as its initialiser lays it (tied to the program's text).
-/
import Derived.Test.YtpimcghmpbbckaaDoorCnP5
import Derived.Test.YtpimcghmpbbckaaDoorCnP6

namespace Go.Proofs.YtpimcghmpbbckaaDoor
set_option linter.unusedVariables false
set_option linter.unusedSimpArgs false
set_option maxRecDepth 100000
open Go.ChangeShapes Go.WideShapes Go.ChangeAt Go.RowKit
set_option linter.unusedVariables false

set_option maxRecDepth 100000 in
set_option maxHeartbeats 8000000 in
theorem spCounts_walk (w : World) (cs : List Value) (t : Sp.T) (hT : TmR w.heap.size w cs t) (hn : t.size ≤ 4194304) (hTb : Tab w) :
    Calls Tryd.prog 5 #[.agg cs.toArray] w fun e w' => e = .returned (.bool true) ∧ Below w.heap.size w w' := by
  obtain ⟨a0, a1, a2, a3, A4, a5, a6, rfl, -, -⟩ := hT.form
  unfold tcells at hT ⊢
  have hba : Below w.heap.size w (w.alloc (.cells #[.int .i64 a0, .int .i64 a1, .bool a2, .int .i64 a3, .slice A4 a5 a6] 42)) := below_alloc (Below.refl _ _) _
  have x0 := Blk.new w 42 [.int .i64 a0, .int .i64 a1, .bool a2, .int .i64 a3, .slice A4 a5 a6]
  have hgy := fun (hs : t.size ≤ 200) w' (hb : Below w.heap.size w w') => spgraph_yes w' _ t (tm_up (hT.later hb) hb.size) hs
  have hgn := fun (hs : 200 < t.size) w' (hb : Below w.heap.size w w') => spgraph_no w' _ t (tm_up (hT.later hb) hb.size) hn hs
  have hct := fun w' (hb : Below w.heap.size w w') => count_any w' _ t (tm_up (hT.later hb) hb.size) hn
  have HT := Lib.hid hTb
  clear hTb hT
  go_enter Tryd.func5, Tryd.ntmps5
  go_upto_region 1 with (fail)
  generalize (w.alloc (.cells #[.int .i64 a0, .int .i64 a1, .bool a2, .int .i64 a3, .slice A4 a5 a6] 42)) = W0 at x0 hba ⊢
  go_wp2_with fail
  refine (alive4_any W0).mono ?_
  rintro e w1 ⟨rfl, hb1⟩
  have x1 := x0.below hb1
  have hb01 := below_next hb1 hba
  have d0 : w1.cell? ⟨w.heap.size, 0, none⟩ = some (.int .i64 a0) := (x1.cell 0).trans rfl
  have d1 : w1.cell? ⟨w.heap.size, 1, none⟩ = some (.int .i64 a1) := (x1.cell 1).trans rfl
  have d2 : w1.cell? ⟨w.heap.size, 2, none⟩ = some (.bool a2) := (x1.cell 2).trans rfl
  have d3 : w1.cell? ⟨w.heap.size, 3, none⟩ = some (.int .i64 a3) := (x1.cell 3).trans rfl
  have d4 : w1.cell? ⟨w.heap.size, 4, none⟩ = some (.slice A4 a5 a6) := (x1.cell 4).trans rfl
  clear x0 hba hb1
  go_wp2_with fail
  by_cases hs : t.size ≤ 200
  · obtain ⟨n, hnt⟩ : ∃ n, n = t.size := ⟨_, rfl⟩
    obtain ⟨es, hes⟩ : ∃ es, es = Gr.gE t.rk t.size := ⟨_, rfl⟩
    have hg := hgy hs w1 hb01
    have hlt := Gr.gE_lt (f := t.rk) (n := t.size)
    have hfl := Gr.gE_full t.rk t.size
    have hel : (Gr.gE t.rk t.size).length ≤ 40000 := by
      have h1 := Gr.gEk_len t.rk t.size t.size
      have h2 := Nat.mul_le_mul hs hs
      unfold Gr.gE
      omega
    have how : Cn.ord t.size (Cn.okE (Gr.gE t.rk t.size)) (2 ^ t.size - 1) = t.ways := Cn.ord_ways t
    rw [← hes] at hg hlt hfl hel how
    rw [← hnt] at hg hlt hfl hs how
    clear hgy hgn hes hnt hn
    refine hg.mono ?_
    rintro e w2 ⟨A, c, rfl, s2, hb2⟩
    have hb3 := below_alloc (below_next hb2 hb01) (.cells #[.int .i64 (n : Int), .slice A es.length c] 24)
    have p3 := Blk.new w2 24 [.int .i64 (n : Int), .slice A es.length c]
    have x3 := (x1.below hb2).alloc (.cells #[.int .i64 (n : Int), .slice A es.length c] 24)
    have s3 := s2.alloc (.cells #[.int .i64 (n : Int), .slice A es.length c] 24)
    clear d0 d1 d2 d3 d4 x1 hb2 hb01 hg
    go_upto_region 4 with (fail)
    obtain ⟨q3, hq3⟩ : ∃ q, q = w2.heap.size := ⟨_, rfl⟩
    simp only [← hq3] at p3 ⊢
    generalize w2.alloc (.cells #[.int .i64 (n : Int), .slice A es.length c] 24) = w3 at p3 x3 s3 hb3 ⊢
    clear hq3 s2
    have c0 : w3.cell? ⟨q3, 0, none⟩ = some (.int .i64 (n : Int)) := (p3.cell 0).trans rfl
    have c1 : w3.cell? ⟨q3, 1, none⟩ = some (.slice A es.length c) := (p3.cell 1).trans rfl
    have HB := Lib.hid hb3
    by_cases h12 : n ≤ 12
    · have hg12 : decide (12 < n) = false := decide_eq_false (by omega)
      have hoc := ocount_full n es w3 A c (by omega) hlt hfl s3 (by omega) (HT.out.later HT.out.lt hb3)
      have hbd := Cn.ord_bound (N := n) (ok := Cn.okE es) (s := 2 ^ n - 1) (by omega)
      rw [how] at hoc hbd
      have hu64 : Sp.u64 t.ways = ((t.ways : Nat) : Int) := by unfold Sp.u64; omega
      rw [hu64] at hct
      obtain ⟨V, hV⟩ : ∃ V, V = t.ways := ⟨_, rfl⟩
      rw [← hV] at hoc hct
      clear how hbd hu64 hV s3 hlt hfl
      go_wp2_with fail
      refine hoc.mono ?_
      rintro _ w4 ⟨rfl, hb4⟩
      have hb04 := below_next hb4 hb3
      have x4 := x3.below hb4
      have e0 : w4.cell? ⟨w.heap.size, 0, none⟩ = some (.int .i64 a0) := (x4.cell 0).trans rfl
      have e1 : w4.cell? ⟨w.heap.size, 1, none⟩ = some (.int .i64 a1) := (x4.cell 1).trans rfl
      have e2 : w4.cell? ⟨w.heap.size, 2, none⟩ = some (.bool a2) := (x4.cell 2).trans rfl
      have e3 : w4.cell? ⟨w.heap.size, 3, none⟩ = some (.int .i64 a3) := (x4.cell 3).trans rfl
      have e4 : w4.cell? ⟨w.heap.size, 4, none⟩ = some (.slice A4 a5 a6) := (x4.cell 4).trans rfl
      have hc4 := hct w4 hb04
      clear hoc hct c0 c1 p3 x3 x4 hb3 hb4
      go_wp2_with fail
      refine hc4.mono ?_
      rintro _ w5 ⟨rfl, hb5⟩
      have HB5 := Lib.hid (below_next hb5 hb04)
      clear hc4 hb5 hb04 e0 e1 e2 e3 e4
      go_wp2_with fail
      go_ret
      exact ⟨rfl, HB5.out⟩
    · have hg12 : decide ((12 : Int) < (n : Int)) = true := decide_eq_true (by omega)
      have hn12 : 12 < n := by omega
      clear how hlt hfl hct s3 h12
      go_wp2_with fail
      go_ret
      exact ⟨rfl, HB.out⟩
  · have hbig : 200 < t.size := by omega
    have hg := hgn hbig w1 hb01
    clear hgy hgn hs hn hct
    refine hg.mono ?_
    rintro e w2 ⟨rfl, hb2⟩
    have HB := Lib.hid (below_alloc (below_next hb2 hb01) (.cells #[.int .i64 0, .slice none 0 0] 24))
    clear d0 d1 d2 d3 d4 x1 hb2 hb01 hg
    go_wp2_with fail
    go_ret
    exact ⟨rfl, HB.out⟩

theorem tab_of_spCounts {W : World} (h : laidMetH Tryd.prog Rows.spCountsUptoRow.laid W) : Tab W :=
  tab_is (Lib.tabIs_of_head (rest := []) gTab gTabType Tryd.underlying129 Tryd.underlying5 cellsByte cellsTab h)
theorem spCounts_met (os : Os) : laidMet Tryd.prog Rows.spCountsUptoRow.laid ((laidWorld os).forCall (fun _ _ => 0) ⟨#[], #[.agg #[.int .i64 0, .int .i64 0, .bool false, .int .i64 0, .slice none 0 0]], []⟩).memory :=
  laidMet_of_run' 8 (by kernel_rfl) (by kernel_rfl)
theorem spCounts_reads (os : Os) {H : Type} (enc : TypeId × Value → H) : ∃ places, DataW.whole enc Tryd.prog ((laidWorld os).forCall (fun _ _ => 0) ⟨#[], #[.agg #[.int .i64 0, .int .i64 0, .bool false, .int .i64 0, .slice none 0 0]], []⟩).memory Tryd.f5.params.toList Rows.spCountsSpec.vars false #[.agg #[.int .i64 0, .int .i64 0, .bool false, .int .i64 0, .slice none 0 0]].toList 8 = some ([.agg [.lit (.int .i64 0), .agg [.lit (.int .i64 0), .lit (.bool false), .lit (.int .i64 0)], .nil]], [], places) :=
  ⟨[], by kernel_rfl⟩
set_option maxRecDepth 100000 in
theorem spCounts_lifted (os : Os) (started : os.Started) (H : Type) (enc : TypeId × Value → H) (F : Stop.Interp) :
    ReturnsInHanded {} Tryd.checked os 5 .any ((Rows.OpenSpec.upto Rows.spCountsSpec).preRow enc Tryd.prog Tryd.f5 Rows.spCountsUptoRow.domain false Rows.spCountsUptoRow.laid) (((Rows.OpenSpec.upto Rows.spCountsSpec).at F).post enc Tryd.prog Tryd.f5 false true false false) := by
  obtain ⟨places, hx⟩ := spCounts_reads os enc
  refine returnsInHanded_of_row (C := Tryd.checked) (s := (Rows.OpenSpec.upto Rows.spCountsSpec)) own started (by kernel_rfl) Tryd.func5
    (witness_row_at (enc := enc) (C := Tryd.checked) false (laidWorld os) #[.agg #[.int .i64 0, .int .i64 0, .bool false, .int .i64 0, .slice none 0 0]] rfl (by kernel_rfl) (by kernel_rfl) (by kernel_rfl)
      (OpenSpec.preRow_of_cond 8 hx (by kernel_rfl) (fun k hk => by cases hk; kernel_rfl) (by kernel_rfl) (spCounts_met os))) ?_
  intro W base args ds gs before hval0 hW _ hcond _ hL _ _
  have hk := hcond _ rfl
  have hT := tab_of_spCounts hL
  have hval : ∀ (j : Nat) t v, Tryd.f5.params[j]? = some t → args[j]? = some v → Value.okWide Tryd.prog W .any base t v := hval0
  have hW' := hW
  have hlt := hW.lt
  obtain ⟨p, q, hA0, hV, rfl, hfz, hnd⟩ := hW
  have hA : DataW.TrodAll enc Tryd.prog W 0 (fun _ => true) true Tryd.f5.params.toList args.toList ds p := hA0
  rw [Tryd.params5] at hA hval
  obtain ⟨v0, vs0, d0, ds0, p0, q0, hargs, rfl, rfl, h0, r0⟩ := trodAll_cons hA
  obtain ⟨rfl, rfl, rfl⟩ := trodAll_nil r0
  obtain rfl : args = #[v0] := by cases args; simp_all
  obtain ⟨rfl, rfl⟩ := trodVars_none hV
  obtain ⟨cs0, t0, rfl, ht0, hs0⟩ := open_arg_term (hval 0 _ v0 rfl rfl) h0 (fun x hx => by simpa using hlt x (by simp [hx]))
  have hk' : Rows.uptoBulkAll [d0] ≤ 1048576 := of_decide_eq_true hk
  rw [Rows.uptoBulkAll] at hk'
  refine (spCounts_walk W _ t0 ht0 (by omega) hT).mono fun e W' ⟨he, hb⟩ => ?_
  subst he
  exact ⟨_, rfl, post_true laidOut (by kernel_rfl) Tryd.underlying4 (by decide +kernel) rfl rfl hW' hb⟩

theorem spCounts_upto : Rows.SpCountsUptoSaid :=
  OpenClaim.holds_of_cond 5 Tryd.f5 rfl rfl rfl rfl rfl rfl rfl ⟨rfl, rfl, rfl, rfl, rfl⟩ rfl rfl rfl rfl rfl (by kernel_rfl) Tryd.func5 (by kernel_rfl)
    (of_decide_eq_true (by kernel_rfl)) (by unfold Func.isWrapper; first | (rw [if_pos (by decide +kernel)]; kernel_rfl) | (rw [if_neg (by decide +kernel)]; exact ⟨rfl, rfl⟩))
    (fun os started H enc _ F => by rw [OpenClaim.pre_eq_preRow]; exact spCounts_lifted os started H enc F)
theorem spCounts_plain (f : FuncId) (fn : Func) (hf : Tryd.pinned.checked.prog.funcNamed "forkwright/forkwrightkeep.SpCounts" = some f) (hfn : Tryd.pinned.checked.prog.funcs[f]? = some fn) :
    false = Tryd.pinned.checked.prog.looks [] ∧ ∀ (j : Nat) t, fn.params[j]? = some t → Tryd.pinned.checked.prog.wantsStandIn t = false := by
  obtain rfl : f = 5 := Option.some.inj ((show Tryd.prog.funcNamed "forkwright/forkwrightkeep.SpCounts" = some 5 by kernel_rfl).symm.trans hf) |>.symm
  obtain rfl : fn = Tryd.f5 := (Option.some.inj (Tryd.func5.symm.trans hfn)).symm
  refine ⟨by kernel_rfl, fun j t ht => ?_⟩
  rw [Tryd.params5] at ht
  have hm := Array.mem_of_getElem? ht
  obtain rfl : t = 42 := by simpa using hm
  exact (show Tryd.prog.wantsStandIn 42 = false by kernel_rfl)
theorem spCounts_card : Rows.SpCountsUptoCardSaid :=
  Claim7.holds_tied_plain_at .later [] _ _ _ _ spCounts_upto (fun _ h => by cases h) (by kernel_rfl) (fun _ h => by cases h) spCountsUpto_row_tie rfl ⟨rfl, rfl⟩ (by kernel_rfl) rfl spCounts_plain (by kernel_rfl)
end Go.Proofs.YtpimcghmpbbckaaDoor
