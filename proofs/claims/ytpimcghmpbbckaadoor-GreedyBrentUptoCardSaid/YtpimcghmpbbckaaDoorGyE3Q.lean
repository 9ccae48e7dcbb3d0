/-
  Brent and Graham: so many workers need no more rounds than the work, parted among them, and the longest chain take. On condition that what is read is of bulk at most 1048576; the table of math/bits is as its initialiser lays it (tied to the program's text).
-/
import Derived.Test.YtpimcghmpbbckaaDoorGyP4
import Derived.Test.YtpimcghmpbbckaaDoorGyR1

namespace Go.Proofs.YtpimcghmpbbckaaDoor
set_option linter.unusedVariables false
set_option linter.unusedSimpArgs false
set_option maxRecDepth 100000
open Go.ChangeShapes Go.WideShapes Go.ChangeAt Go.RowKit
set_option linter.unusedVariables false

theorem brent_plain {N v : Nat} {es : List Gr.Ed} {L : List Nat} (hN : N ≤ 200) (hes : ∀ e ∈ es, e.1 < N ∧ e.2 < N) (hful : (Gr.take N es).length = N) (hL : Gr.LvL N es L) :
    (v + 1) * (Gr.all N es (v + 1)).length ≤ N + v * Gr.hgt L ∧ Gr.hgt L ≤ (Gr.all N es (v + 1)).length ∧ N ≤ (v + 1) * (Gr.all N es (v + 1)).length := by
  refine ⟨?_, ?_, Gr.rounds_work (by omega) hful⟩
  · refine Gr.brent (fun e he => (hes e he).1) hL.up (fun m hm => ?_)
    exact (hL.lv (by omega)).top m hm
  · by_cases h0 : N = 0
    · have : L = [] := List.eq_nil_of_length_eq_zero (by rw [hL.len]; exact h0)
      unfold Gr.hgt
      rw [if_pos this]
      omega
    · have hv := hL.lv (by omega)
      exact Gr.rounds_high (by omega) hful hv.down (fun e he => (hes e he).1) hv.hit

set_option maxHeartbeats 4000000 in
theorem greedyBrent_walk (w : World) (n : Int) (es : List Gr.Er) (A : Option Addr) (c : Nat) (k : Int) (hA : SlV w 2 (.slice A es.length c) es.length (ercs es)) (hle : es.length ≤ 1099511627776) (hT : Tab w) :
    Calls Tryd.prog 4 #[.agg #[.int .i64 n, .slice A es.length c], .int .i64 k] w fun e w' => e = .returned (.bool true) ∧ Below w.heap.size w w' := by
  have hba : Below w.heap.size w (w.alloc (.cells #[.int .i64 n, .slice A es.length c] 24)) := below_alloc (Below.refl _ _) _
  have x0 := Blk.new w 24 [.int .i64 n, .slice A es.length c]
  have HT := Lib.hid hT
  clear hT
  go_enter Tryd.func4, Tryd.ntmps4
  go_upto_region 1 with (fail)
  generalize (w.alloc (.cells #[.int .i64 n, .slice A es.length c] 24)) = W0 at x0 hba ⊢
  go_wp2_with fail
  refine (alive6_any W0 (HT.out.later HT.out.lt hba)).mono ?_
  rintro _ w1 ⟨rfl, hb1⟩
  have x1 := x0.below hb1
  have c0 : w1.cell? ⟨w.heap.size, 0, none⟩ = some (.int .i64 n) := (x1.cell 0).trans rfl
  have c1 : w1.cell? ⟨w.heap.size, 1, none⟩ = some (.slice A es.length c) := (x1.cell 1).trans rfl
  have hb01 := below_next hb1 hba
  have hrd1 := rounds_any n es k w1 A c (hA.below hb01) hle (HT.out.later HT.out.lt hb01)
  clear x0 hba hb1
  go_wp2_with fail
  refine hrd1.mono ?_
  rintro _ w2 ⟨u, os, rfl, hrow, hR, hb2⟩
  have x2 := x1.below hb2
  have hb02 := below_next hb2 hb01
  obtain ⟨Au, cu, rfl, hcu, hmu⟩ := own_slice hrow
  clear hrd1 x1 c0 c1 hb01 hb2 hrow
  by_cases h0 : Gy.err n es k = 0
  · have hR1 := hR.1
    unfold Gy.res at hR1
    rw [if_pos h0] at hR1
    obtain ⟨h1, k1, k2⟩ := Gy.err_zero.1 h0
    obtain ⟨N, rfl, hN, hes, hln, hcs, hful⟩ := Gr.wrong_none h1
    obtain ⟨v, rfl⟩ : ∃ v : Nat, k = ((v + 1 : Nat) : Int) := ⟨(k - 1).toNat, by omega⟩
    have hht := height_any (N : Int) es w2 A c (hA.below hb02) hle (HT.out.later HT.out.lt hb02)
    rw [h1] at hht
    rw [Int.toNat_natCast, Int.toNat_natCast] at hR1
    have hshort := Gr.all_short N (Gr.nat es) (v + 1)
    rw [← hR1] at hshort
    have d0 : w2.cell? ⟨w.heap.size, 0, none⟩ = some (.int .i64 (N : Int)) := (x2.cell 0).trans rfl
    have d1 : w2.cell? ⟨w.heap.size, 1, none⟩ = some (.slice A es.length c) := (x2.cell 1).trans rfl
    obtain ⟨E, hE⟩ : ∃ E, E = Gy.err (N : Int) es ((v + 1 : Nat) : Int) := ⟨_, rfl⟩
    rw [← hE] at h0 ⊢
    subst h0
    obtain ⟨r, hr⟩ : ∃ r, r = os.length := ⟨_, rfl⟩
    rw [← hr] at hR1 hshort hcu ⊢
    have HH := Lib.hid (And.intro hes (And.intro hful (And.intro hR1 hb02)))
    clear hE hR hes hful hcs hln h1 hA hb02 hr hR1
    go_wp2_with fail
    refine hht.mono ?_
    rintro _ w3 ⟨h, rfl, -, hL, hh, hb3⟩
    obtain ⟨L, hL, hhL⟩ := hL (by trivial)
    obtain ⟨p1, p2, p3⟩ := brent_plain (v := v) hN HH.out.1 HH.out.2.1 (by rw [Int.toNat_natCast] at hL; exact hL)
    rw [← HH.out.2.2.1, ← hhL] at p1 p2
    rw [← HH.out.2.2.1] at p3
    have x3 := x2.below hb3
    have e0 : w3.cell? ⟨w.heap.size, 0, none⟩ = some (.int .i64 (N : Int)) := (x3.cell 0).trans rfl
    have HB := Lib.hid (below_next hb3 HH.out.2.2.2)
    obtain ⟨p, hp⟩ : ∃ p, p = (v + 1) * r := ⟨_, rfl⟩
    obtain ⟨q, hq⟩ : ∃ q, q = v * h := ⟨_, rfl⟩
    have m1 : ((v : Int) + 1) * (r : Int) = (p : Int) := by rw [hp]; push_cast; rfl
    have m2 : (v : Int) * (h : Int) = (q : Int) := by rw [hq]; push_cast; rfl
    have hvb : v ≤ 15 := by omega
    have hpb : p ≤ 16 * 200 := by rw [hp]; exact Nat.mul_le_mul (by omega) (by omega)
    have hqb : q ≤ 15 * 201 := by rw [hq]; exact Nat.mul_le_mul hvb hh
    rw [← hp, ← hq] at p1
    rw [← hp] at p3
    clear hht d0 d1 hb3 x2 x3 hL hhL hp hq
    go_wp2_with fail
    go_ret
    exact ⟨rfl, HB.out⟩
  · have g0 : (Gy.err n es k != 0) = true := by simpa using h0
    obtain ⟨E, hE⟩ : ∃ E, E = Gy.err n es k := ⟨_, rfl⟩
    rw [← hE] at g0 ⊢
    have HB := Lib.hid hb02
    clear hE h0 hR hb02 hA x2
    go_wp2_with fail
    go_ret
    exact ⟨rfl, HB.out⟩

theorem tab_of_greedyBrent {W : World} (h : laidMetH Tryd.prog Rows.greedyBrentUptoRow.laid W) : Tab W :=
  tab_is (Lib.tabIs_of_head (rest := []) gTab gTabType Tryd.underlying129 Tryd.underlying5 cellsByte cellsTab h)
theorem greedyBrent_met (os : Os) : laidMet Tryd.prog Rows.greedyBrentUptoRow.laid ((laidWorld os).forCall (fun _ _ => 0) ⟨#[], #[.agg #[.int .i64 0, .slice none 0 0], .int .i64 0], []⟩).memory :=
  laidMet_of_run' 8 (by kernel_rfl) (by kernel_rfl)
theorem greedyBrent_reads (os : Os) {H : Type} (enc : TypeId × Value → H) : ∃ places, DataW.whole enc Tryd.prog ((laidWorld os).forCall (fun _ _ => 0) ⟨#[], #[.agg #[.int .i64 0, .slice none 0 0], .int .i64 0], []⟩).memory Tryd.f4.params.toList Rows.greedyBrentSpec.vars false #[.agg #[.int .i64 0, .slice none 0 0], .int .i64 0].toList 8 = some ([.agg [.lit (.int .i64 0), .nil], .lit (.int .i64 0)], [], places) :=
  ⟨[], by kernel_rfl⟩
set_option maxRecDepth 100000 in
theorem greedyBrent_lifted (os : Os) (started : os.Started) (H : Type) (enc : TypeId × Value → H) (F : Stop.Interp) :
    ReturnsInHanded {} Tryd.checked os 4 .any ((Rows.OpenSpec.upto Rows.greedyBrentSpec).preRow enc Tryd.prog Tryd.f4 Rows.greedyBrentUptoRow.domain false Rows.greedyBrentUptoRow.laid) (((Rows.OpenSpec.upto Rows.greedyBrentSpec).at F).post enc Tryd.prog Tryd.f4 false true false false) := by
  obtain ⟨places, hx⟩ := greedyBrent_reads os enc
  refine returnsInHanded_of_row (C := Tryd.checked) (s := (Rows.OpenSpec.upto Rows.greedyBrentSpec)) own started (by kernel_rfl) Tryd.func4
    (witness_row_at (enc := enc) (C := Tryd.checked) false (laidWorld os) #[.agg #[.int .i64 0, .slice none 0 0], .int .i64 0] rfl (by kernel_rfl) (by kernel_rfl) (by kernel_rfl)
      (OpenSpec.preRow_of_cond 8 hx (by kernel_rfl) (fun k hk => by cases hk; kernel_rfl) (by kernel_rfl) (greedyBrent_met os))) ?_
  intro W base args ds gs before hval0 hW _ hcond _ hL _ _
  have hk := hcond _ rfl
  have hT := tab_of_greedyBrent hL
  have hval : ∀ (j : Nat) t v, Tryd.f4.params[j]? = some t → args[j]? = some v → Value.okWide Tryd.prog W .any base t v := hval0
  have hW' := hW
  have hlt := hW.lt
  obtain ⟨p, q, hA0, hV, rfl, hfz, hnd⟩ := hW
  have hA : DataW.TrodAll enc Tryd.prog W 0 (fun _ => true) true Tryd.f4.params.toList args.toList ds p := hA0
  rw [Tryd.params4] at hA hval
  obtain ⟨v0, vs0, d0, ds0, p0, q0, hargs, rfl, rfl, h0, r0⟩ := trodAll_cons hA
  obtain ⟨v1, vs1, d1, ds1, p1, q1, rfl, rfl, rfl, h1, r1⟩ := trodAll_cons r0
  obtain ⟨rfl, rfl, rfl⟩ := trodAll_nil r1
  obtain rfl : args = #[v0, v1] := by cases args; simp_all
  obtain ⟨rfl, rfl⟩ := trodVars_none hV
  obtain ⟨n0, es0, A0, c0, rfl, hg0, hs0⟩ := open_arg_graph (hval 0 _ v0 rfl rfl) h0 (fun x hx => by simpa using hlt x (by simp [hx]))
  obtain ⟨n1, rfl, rfl, rfl, wn1⟩ := open_int Tryd.underlying3 (hval 1 _ v1 rfl rfl) h1
  have hk' : Rows.uptoBulkAll (d0 :: _) ≤ 1048576 := of_decide_eq_true hk
  rw [Rows.uptoBulkAll] at hk'
  refine (greedyBrent_walk W n0 es0 A0 c0 n1 hg0 (by omega) hT).mono fun e W' ⟨he, hb⟩ => ?_
  subst he
  exact ⟨_, rfl, post_true laidOut (by kernel_rfl) Tryd.underlying4 (by decide +kernel) rfl rfl hW' hb⟩

theorem greedyBrent_upto : Rows.GreedyBrentUptoSaid :=
  OpenClaim.holds_of_cond 4 Tryd.f4 rfl rfl rfl rfl rfl rfl rfl ⟨rfl, rfl, rfl, rfl, rfl⟩ rfl rfl rfl rfl rfl (by kernel_rfl) Tryd.func4 (by kernel_rfl)
    (of_decide_eq_true (by kernel_rfl)) (by unfold Func.isWrapper; first | (rw [if_pos (by decide +kernel)]; kernel_rfl) | (rw [if_neg (by decide +kernel)]; exact ⟨rfl, rfl⟩))
    (fun os started H enc _ F => by rw [OpenClaim.pre_eq_preRow]; exact greedyBrent_lifted os started H enc F)
theorem greedyBrent_plain (f : FuncId) (fn : Func) (hf : Tryd.pinned.checked.prog.funcNamed "forkwright/forkwrightkeep.GreedyBrent" = some f) (hfn : Tryd.pinned.checked.prog.funcs[f]? = some fn) :
    false = Tryd.pinned.checked.prog.looks [] ∧ ∀ (j : Nat) t, fn.params[j]? = some t → Tryd.pinned.checked.prog.wantsStandIn t = false := by
  obtain rfl : f = 4 := Option.some.inj ((show Tryd.prog.funcNamed "forkwright/forkwrightkeep.GreedyBrent" = some 4 by kernel_rfl).symm.trans hf) |>.symm
  obtain rfl : fn = Tryd.f4 := (Option.some.inj (Tryd.func4.symm.trans hfn)).symm
  refine ⟨by kernel_rfl, fun j t ht => ?_⟩
  rw [Tryd.params4] at ht
  have hm := Array.mem_of_getElem? ht
  have hm' : t ∈ [24, 3] := by simpa using hm
  have hall : ([24, 3].all fun u => !Tryd.prog.wantsStandIn u) = true := by kernel_rfl
  exact (show Tryd.prog.wantsStandIn t = false by simpa using List.all_eq_true.1 hall t hm')
theorem greedyBrent_card : Rows.GreedyBrentUptoCardSaid :=
  Claim7.holds_tied_plain_at .later [] _ _ _ _ greedyBrent_upto (fun _ h => by cases h) (by kernel_rfl) (fun _ h => by cases h) greedyBrentUpto_row_tie rfl ⟨rfl, rfl⟩ (by kernel_rfl) rfl greedyBrent_plain (by kernel_rfl)
end Go.Proofs.YtpimcghmpbbckaaDoor
