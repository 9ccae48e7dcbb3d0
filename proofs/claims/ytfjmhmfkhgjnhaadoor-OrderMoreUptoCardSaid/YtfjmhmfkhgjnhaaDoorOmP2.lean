/-
  An argument that is a struct of integers, at a law's end.
-/
import Derived.Test.YtfjmhmfkhgjnhaaDoorOmP1
import Derived.Test.YtfjmhmfkhgjnhaaDoorOrP2
import Derived.Test.YtfjmhmfkhgjnhaaDoorOrP6

namespace Go.Proofs.YtfjmhmfkhgjnhaaDoor
set_option linter.unusedVariables false
set_option linter.unusedSimpArgs false
set_option maxRecDepth 100000
open Go.RowKit

theorem info_edge_om : (Tryd.prog.info? 39).map (fun i => (i.zero, i.size, i.bytes)) = some (some (.agg #[.int .i64 0, .int .i64 0]), 2, 16) := by kernel_rfl
theorem clone_edge_om (v : Value) (n : Nat) (xs : List Value) (w : World) (h : SlV w 2 v n xs) (h1 : ∀ u ∈ xs, u.oneCell' = true) (hr : n * 16 ≤ 140737488355328) :
    Calls Tryd.prog 28 #[v] w fun e w' => ∃ u, e = .returned u ∧ w'.ownsRow w.heap.size 39 2 u n xs ∧ Below w.heap.size w w' := by
  obtain ⟨A, c, rfl, hle, hm, hlen, hc⟩ := h
  unfold maxLen at hm
  have heq := fun (w : World) (A : Option Addr) (n c : Nat) => Lib.run_eql_slice_nil (P := Tryd.prog) w _ _ A n c 0 0 Tryd.underlying22
  rcases A with _ | a
  · have h0 : xs = [] := by
      rcases xs with _ | ⟨x, xs⟩
      · rfl
      · obtain ⟨b, o, h1, _⟩ := hc
        have := (h1 (by simp)).1
        cases this
    have hn : n = 0 := by subst h0; simp at hlen; omega
    subst h0
    subst hn
    go_enter Tryd.func28, Tryd.ntmps28
    go_wp2
    go_ret
    exact ⟨_, rfl, World.ownsRow_nil _ _ _ _, Below.refl _ _⟩
  · go_enter Tryd.func28, Tryd.ntmps28
    have hmade := World.ownsRow_made (e := 39) (size := 2) (base := w.heap.size) w #[] 0 (Nat.le_refl _) (Nat.zero_le _) rfl
    have hc' := hc.keep (w' := w.alloc (.cells #[] 39)) (Nat.le_refl _) (fun p hp => World.cell?_alloc_lt w _ p hp)
    have n63 : 0 + n ≤ maxLen := by unfold maxLen; omega
    have n47 : (0 + n) * 16 ≤ 140737488355328 := by omega
    go_wp2_with (at_builtin; refine wp_append _ _ _ _ _ _ _ _ _ Tryd.underlying22 info_edge_om rfl (by decide) hmade hc' hlen h1 n63 n47 (by simp) rfl rfl rfl rfl ?_; intro v' w' hown _ _ hb)
    go_ret
    refine ⟨_, rfl, by simpa using hown, ((Below.refl _ _).alloc (Nat.le_refl _) _).trans hb⟩
theorem ercs_one (l : List Gr.Er) : ∀ u ∈ ercs l, u.oneCell' = true := fun u hu => by
  obtain ⟨e, -, he⟩ := List.mem_flatMap.1 hu
  simp [erc] at he
  rcases he with rfl | rfl <;> rfl
theorem ercs_snoc (l : List Gr.Er) (x : Gr.Er) : ercs (l ++ [x]) = ercs l ++ [.int .i64 x.1, .int .i64 x.2] := by simp [ercs, erc]

namespace Gr
theorem wrong_less {n : Int} {es es' : List Er} (h : ∀ e ∈ es, e ∈ es') (h0 : wrong n es' = 0) : wrong n es = 0 := by
  obtain ⟨hok, N, rfl, hN, hes, hln, hl⟩ := wrong_zero h0
  have hnat : ∀ e ∈ nat es, e ∈ nat es' := fun e he => by
    obtain ⟨x, hx, rfl⟩ := List.mem_map.1 he
    exact List.mem_map_of_mem (h x hx)
  have hful := full_less hnat hl hes
  have hk : okG (N : Int) es = true := by
    rw [okG_iff] at hok ⊢
    exact ⟨hok.1, hok.2.1, fun e he => hok.2.2 e (h e he)⟩
  unfold wrong
  rw [if_pos hk, Int.toNat_natCast, hful, if_neg (Nat.lt_irrefl _)]
end Gr

def FNewO (w1 : World) (t : TypeId) (cs : List Value) : Fact (fun w w' => Below w.heap.size w w') := ⟨fun v w => ∃ g, v = .pointer (some ⟨g, 0, none⟩) ∧ w1.heap.size ≤ g ∧ Blk w g t cs, fun v w w' ⟨g, h1, h2, h3⟩ k => ⟨g, h1, h2, h3.below k⟩⟩
def FGE (B : Nat) (n : Int) (m : Nat) (vs : List Value) : Fact (fun w w' => Below w.heap.size w w') := ⟨fun v w => ∃ u, v = .agg #[.int .i64 n, u] ∧ w.ownsRow B 39 2 u m vs, fun _ _ _ ⟨u, h1, h2⟩ k => ⟨u, h1, own_keeps h2 (Keeps.of_below k (fun _ => False)) (fun _ _ => id)⟩⟩

set_option maxRecDepth 20000 in
set_option maxHeartbeats 8000000 in
theorem orderMore_walk (w : World) (n : Int) (es : List Gr.Er) (A : Option Addr) (c : Nat) (m1 m2 : Int) (hA : SlV w 2 (.slice A es.length c) es.length (ercs es)) (hle : es.length ≤ 1048576) (hT : Tab w) :
    Calls Tryd.prog 7 #[.agg #[.int .i64 n, .slice A es.length c], .agg #[.int .i64 m1, .int .i64 m2]] w fun e w' => e = .returned (.bool true) ∧ Below w.heap.size w w' := by
  have hb0 : Below w.heap.size w ((w.alloc (.cells #[.int .i64 n, .slice A es.length c] 24)).alloc (.cells #[.int .i64 m1, .int .i64 m2] 39)) := below_alloc (below_alloc (Below.refl _ _) _) _
  have x0 := (Blk.new w 24 [.int .i64 n, .slice A es.length c]).alloc (.cells #[.int .i64 m1, .int .i64 m2] 39)
  have y0 := Blk.new (w.alloc (.cells #[.int .i64 n, .slice A es.length c] 24)) 39 [.int .i64 m1, .int .i64 m2]
  simp only [World.size_alloc] at y0
  obtain ⟨q, hq⟩ : ∃ q, q = w.heap.size := ⟨_, rfl⟩
  go_enter Tryd.func7, Tryd.ntmps7
  go_upto_region 1 with (fail)
  generalize ((w.alloc (.cells #[.int .i64 n, .slice A es.length c] 24)).alloc (.cells #[.int .i64 m1, .int .i64 m2] 39)) = W0 at hb0 x0 y0 ⊢
  have hT0 := hT.later hT.lt hb0
  have hA0 := hA.below hb0
  rw [← hq] at x0 y0 ⊢
  go_wp2_with fail
  refine (alive3_any W0 hT0).mono ?_
  rintro _ w3 ⟨rfl, hb3⟩
  have hb03 := below_next hb3 hb0
  have x3 := x0.below hb3
  have y3 := y0.below hb3
  have a3 := hA0.below hb3
  have t3 := hT0.later hT0.lt hb3
  have HB := Lib.hid (And.intro hb03 (And.intro hq t3))
  clear hb0 x0 y0 hT0 hA0 hA hT hb3 hb03 hq t3
  have keepS : ∀ w', Below w3.heap.size w3 w' → Below w3.heap.size w3 w' ∧ w'.cell? ⟨q, 0, none⟩ = some (.int .i64 n) ∧ w'.cell? ⟨q, 1, none⟩ = some (.slice A es.length c) ∧ w'.cell? ⟨q + 1, 0, none⟩ = some (.int .i64 m1) ∧ w'.cell? ⟨q + 1, 1, none⟩ = some (.int .i64 m2) := fun w' hb => ⟨hb, ((x3.below hb).cell 0).trans rfl, ((x3.below hb).cell 1).trans rfl, ((y3.below hb).cell 0).trans rfl, ((y3.below hb).cell 1).trans rfl⟩
  have hS0 := keepS _ (below_drew (Below.refl _ _))
  have hKl : es.length * 16 ≤ 140737488355328 := by omega
  have hcl := fun w' (hb : Below w3.heap.size w3 w') => clone_edge_om _ es.length (ercs es) w' (a3.below hb) (ercs_one _) hKl
  have n63 : es.length + 1 ≤ maxLen := by unfold maxLen; omega
  have n47 : (es.length + 1) * 16 ≤ 140737488355328 := by omega
  go_wp2_with fail
  refine wp_walk_ms 10 (fun i => ([7] : List Nat).contains i) (fun i => ([0,1,9] : List Nat).contains i) [7] (by intro m h; simpa using h) (by kernel_rfl) (by kernel_rfl) (by kernel_rfl) (fun w w' => Below w.heap.size w w') (fun w w' => ∀ q cs, Blk w q 24 cs → Blk w' q 24 cs) (fun w' => Below w3.heap.size w3 w' ∧ w'.cell? ⟨q, 0, none⟩ = some (.int .i64 n) ∧ w'.cell? ⟨q, 1, none⟩ = some (.slice A es.length c) ∧ w'.cell? ⟨q + 1, 0, none⟩ = some (.int .i64 m1) ∧ w'.cell? ⟨q + 1, 1, none⟩ = some (.int .i64 m2)) (fun _ => True) hS0 trivial (fun _ _ _ _ => trivial) ?_
  simp only [List.length_cons, List.length_nil, Nat.reduceAdd, Nat.reduceSub, List.take_succ_cons, List.take_zero, List.drop_succ_cons, List.drop_zero]
  repeat (first | (refine ssettle_skip (by rfl) (fun _ => by rfl) ?_; (simp only [Act.put, List.setIfInBounds_toArray, List.set_cons_zero, List.set_cons_succ])) | (refine' ssettle_run (by rfl) (fun _ _ => Below.refl _ _) (fun _ => by rfl) ?_ ?_; rotate_left; (focus (intro ρ w hS hF hP; (try dsimp only at hS); go_split_ands; go_simp; try with_reducible rfl)); (simp only [Act.put, List.setIfInBounds_toArray, List.set_cons_zero, List.set_cons_succ])))
  (refine ssettle_known (FRow w3.heap.size 39 2 es.length (ercs es)) (by rfl) (by rfl) (by rfl) (fun _ => by rfl)  ?_ ?_; (focus (intro ρ w hS hF hP K hK; (simp only [Act.put, List.setIfInBounds_toArray, List.set_cons_zero, List.set_cons_succ] at hK); go_simp; (refine (hcl _ hS.1).mono ?_; rintro e w' ⟨u, rfl, h1, hb'⟩; exact hK _ _ (own_base h1 hS.1.size) (keepS _ (below_next hb' hS.1)) hb'))); (simp only [Act.put, List.setIfInBounds_toArray, List.set_cons_zero, List.set_cons_succ]))
  repeat (first | (refine ssettle_skip (by rfl) (fun _ => by rfl) ?_; (simp only [Act.put, List.setIfInBounds_toArray, List.set_cons_zero, List.set_cons_succ])) | (refine' ssettle_run (by rfl) (fun _ _ => Below.refl _ _) (fun _ => by rfl) ?_ ?_; rotate_left; (focus (intro ρ w hS hF hP; (try dsimp only at hS); go_split_ands; go_simp; try with_reducible rfl)); (simp only [Act.put, List.setIfInBounds_toArray, List.set_cons_zero, List.set_cons_succ])))
  (refine ssettle_known (FSl 2 1 [.int .i64 m1, .int .i64 m2]) (by rfl) (by rfl) (by rfl) (fun _ => by rfl)  ?_ ?_; (focus (intro ρ w hS hF hP K hK; (simp only [Act.put, List.setIfInBounds_toArray, List.set_cons_zero, List.set_cons_succ] at hK); go_simp; exact hK _ _ (SlV.lit _ [.int .i64 m1, .int .i64 m2] _ 2 1 rfl (by decide)) (keepS _ (below_alloc hS.1 _)) (below_alloc (Below.refl _ _) _))); (simp only [Act.put, List.setIfInBounds_toArray, List.set_cons_zero, List.set_cons_succ]))
  (refine ssettle_mark (FRow w3.heap.size 39 2 (es.length + 1) (ercs es ++ [.int .i64 m1, .int .i64 m2])) (by rfl) (by rfl) (by rfl) (fun _ => by rfl) ?_ ?_; (focus (intro ρ w hS hF hP K hK; have h24 : w.ownsRow w3.heap.size 39 2 (ρ 24) es.length (ercs es) := hF.2.1 (by rfl); refine oper_append (.tmp 24) (.tmp 26) w3.heap.size _ _ _ _ _ Tryd.underlying22 info_edge_om rfl (by decide) h24 (hF.1 (by rfl)) (by intro u hu; simp at hu; rcases hu with rfl | rfl <;> rfl) n63 n47 hS.1.size rfl rfl rfl ?_; intro v' w' hown hg _ hb; exact hK v' w' hown (keepS _ (hS.1.trans hb)) (fun q cs hq => hq.grown hg (fun e => own_blk_ne h24 hq (by decide) e.symm)))); (simp only [Act.put, List.setIfInBounds_toArray, List.set_cons_zero, List.set_cons_succ]))
  (refine ssettle_known (FGE w3.heap.size n (es.length + 1) (ercs es ++ [.int .i64 m1, .int .i64 m2])) (by rfl) (by rfl) (by rfl) (fun _ => by rfl)  ?_ ?_; (focus (intro ρ w hS hF hP K hK; (simp only [Act.put, List.setIfInBounds_toArray, List.set_cons_zero, List.set_cons_succ] at hK); go_simp; (have h27 : w.ownsRow w3.heap.size 39 2 (ρ 27) (es.length + 1) (ercs es ++ [.int .i64 m1, .int .i64 m2]) := hF.1 (by rfl); generalize ρ 27 = v27 at h27 hK ⊢; obtain ⟨A', c', rfl, -, -⟩ := own_slice h27; go_simp; exact hK _ _ ⟨_, rfl, h27⟩ hS (Below.refl _ _)))); (simp only [Act.put, List.setIfInBounds_toArray, List.set_cons_zero, List.set_cons_succ]))
  (refine ssettle_float (FNewO w3 24 [.int .i64 0, .slice none 0 0]) (fun v w w' ⟨g, h1, h2, h3⟩ k ↦ ⟨g, h1, h2, k _ _ h3⟩) (by rfl) (by rfl) (fun _ => by rfl) ?_ ?_; (focus (intro ρ w hS hF hP K hK; (simp only [Act.put, List.setIfInBounds_toArray, List.set_cons_zero, List.set_cons_succ] at hK); go_simp; exact hK _ _ ⟨_, rfl, hS.1.size, Blk.new _ _ _⟩ (keepS _ (below_alloc hS.1 _)) (below_alloc (Below.refl _ _) _))); (simp only [Act.put, List.setIfInBounds_toArray, List.set_cons_zero, List.set_cons_succ]))
  refine ssettle_nil ?_
  intro ρ w5 hS hF
  obtain ⟨q3, hq3, hge3, B3⟩ := hF 5 (FNewO w3 24 [.int .i64 0, .slice none 0 0]) (by repeat (first | exact List.mem_cons_self | apply List.mem_cons_of_mem))
  obtain ⟨u, hu1, hu2⟩ := hF 28 (FGE w3.heap.size n (es.length + 1) (ercs es ++ [.int .i64 m1, .int .i64 m2])) (by repeat (first | exact List.mem_cons_self | apply List.mem_cons_of_mem))
  clear hF hS0 hcl
  dsimp only
  rw [hu1, hq3]
  generalize ρ 24 = v24
  generalize ρ 26 = v26
  generalize ρ 27 = v27
  clear hu1 hq3
  obtain ⟨Au, cu, rfl, -, -⟩ := own_slice hu2
  refine wpl_put_blk B3 [.int .i64 n, .slice Au (es.length + 1) cu] (by kernel_rfl) rfl (by intro v hv; simp at hv; rcases hv with rfl | rfl <;> rfl) rfl rfl rfl rfl ?_
  intro w6 hB6 hg6
  have hb36 : Below w3.heap.size w3 w6 := hS.1.trans (below_of_grown hg6 hS.1.size hge3)
  have r6 := own_keeps hu2 (Keeps.of_grown hg6) (fun k hk e => own_blk_ne hu2 B3 (by decide) (by rw [hk]; exact e))
  have s6 := SlV.of_own r6
  obtain ⟨es', hes'⟩ : ∃ l, l = es ++ [(m1, m2)] := ⟨_, rfl⟩
  have hln : es'.length = es.length + 1 := by rw [hes']; simp
  rw [← ercs_snoc es (m1, m2), ← hes'] at s6
  rw [← hln] at s6 hB6 ⊢
  have x6 := x3.below hb36
  have a6 := a3.below hb36
  have t6 := HB.out.2.2.later HB.out.2.2.lt hb36
  have hb06 := below_next hb36 HB.out.1
  have HB6 := Lib.hid hb06
  have hK : ∀ w', Below w6.heap.size w6 w' → (w'.cell? ⟨q, 0, none⟩ = some (.int .i64 n) ∧ w'.cell? ⟨q, 1, none⟩ = some (.slice A es.length c)) ∧ (w'.cell? ⟨q3, 0, none⟩ = some (.int .i64 n) ∧ w'.cell? ⟨q3, 1, none⟩ = some (.slice Au es'.length cu)) ∧ SlV w' 2 (.slice A es.length c) es.length (ercs es) ∧ SlV w' 2 (.slice Au es'.length cu) es'.length (ercs es') ∧ Tab w' := fun w' hb =>
    ⟨⟨((x6.below hb).cell 0).trans rfl, ((x6.below hb).cell 1).trans rfl⟩, ⟨((hB6.below hb).cell 0).trans rfl, ((hB6.below hb).cell 1).trans rfl⟩, a6.below hb, s6.below hb, t6.later t6.lt hb⟩
  have HK := Lib.hid hK
  have hsub : ∀ e ∈ es, e ∈ es' := fun e he => by rw [hes']; exact List.mem_append_left _ he
  have HS := Lib.hid (And.intro hsub (show es'.length ≤ 1099511627776 by omega))
  clear hK x6 hB6 a6 s6 t6 hu2 B3 hg6 r6 hS keepS hge3 x3 y3 a3 hb36 hKl n63 n47 hb06 HB hes' hln hsub
  obtain ⟨⟨c0, c1⟩, ⟨e0, e1⟩, ga, ge, gt⟩ := HK.out w6 (Below.refl _ _)
  go_wp2_with fail
  refine (wrong_any n es' w6 _ cu ge HS.out.2 gt).mono ?_
  rintro e w7 ⟨rfl, hb7⟩
  clear c0 c1 e0 e1 ga ge gt
  obtain ⟨⟨c0, c1⟩, ⟨e0, e1⟩, ga, ge, gt⟩ := HK.out w7 hb7
  by_cases h0 : Gr.wrong n es' = 0
  · rcases h14 : decide (14 < n) with _ | _
    · obtain ⟨N, hnN, hN, hes, hln, hcs, hful⟩ := Gr.wrong_none h0
      subst hnN
      have hN14 : N ≤ 14 := by have := of_decide_eq_false h14; omega
      have hlt' : ∀ e ∈ Gr.nat es', e.1 < N ∧ e.2 < N := hes
      have hnat : ∀ e ∈ Gr.nat es, e ∈ Gr.nat es' := fun e he => by
        obtain ⟨x, hx, rfl⟩ := List.mem_map.1 he
        exact List.mem_map_of_mem (HS.out.1 x hx)
      have hg0 : Gr.wrong (N : Int) es = 0 := Gr.wrong_less HS.out.1 h0
      have hful0 := Gr.full_less hnat hful hes
      have hes0 : ∀ e ∈ Gr.nat es, e.1 < N ∧ e.2 < N := fun e he => hes e (hnat e he)
      have he0 : Cn.err (N : Int) es = 0 := Cn.err_zero.2 ⟨hg0, by omega⟩
      have he1 : Cn.err (N : Int) es' = 0 := Cn.err_zero.2 ⟨h0, by omega⟩
      have hca : Cn.res (N : Int) es' ≤ Cn.res (N : Int) es := by
        unfold Cn.res
        rw [he0, he1, if_pos rfl, if_pos rfl, Int.toNat_natCast]
        exact Cn.ord_more hnat _
      have hcb : 0 < Cn.res (N : Int) es' := by
        unfold Cn.res
        rw [he1, if_pos rfl, Int.toNat_natCast]
        exact Cn.ord_full hful hes
      have hwd : (Mt.wideG (N : Int) es').length ≤ (Mt.wideG (N : Int) es).length := by
        unfold Mt.wideG
        rw [if_pos h0, if_pos hg0, Int.toNat_natCast]
        exact (Mt.wide_is hful0 hes0).2 _ (Gr.anti_less hnat (Mt.wide_is hful hes).1)
      obtain ⟨ra, hra⟩ : ∃ x, x = Cn.res (N : Int) es := ⟨_, rfl⟩
      obtain ⟨rb, hrb⟩ : ∃ x, x = Cn.res (N : Int) es' := ⟨_, rfl⟩
      obtain ⟨wa, hwa⟩ : ∃ x, x = Mt.wideG (N : Int) es := ⟨_, rfl⟩
      obtain ⟨wb, hwb⟩ : ∃ x, x = Mt.wideG (N : Int) es' := ⟨_, rfl⟩
      have gC := fun w' ga gt => ocount_any (N : Int) es w' A c ga (show es.length ≤ 1099511627776 by omega) gt
      have gC' := fun w' ga gt => ocount_any (N : Int) es' w' Au cu ga HS.out.2 gt
      have gW := fun w' ga gt => wide_any (N : Int) es w' A c ga (show es.length ≤ 1099511627776 by omega) gt
      have gW' := fun w' ga gt => wide_any (N : Int) es' w' Au cu ga HS.out.2 gt
      have gH := fun w' ga gt => height_any (N : Int) es w' A c ga (show es.length ≤ 1099511627776 by omega) gt
      have gH' := fun w' ga gt => height_any (N : Int) es' w' Au cu ga HS.out.2 gt
      rw [← hra, he0] at gC
      rw [← hrb, he1] at gC'
      rw [← hwa, hg0] at gW
      rw [← hwb, h0] at gW'
      rw [hg0] at gH
      rw [h0] at gH'
      rw [← hra, ← hrb] at hca
      rw [← hrb] at hcb
      rw [← hwa, ← hwb] at hwd
      rw [h0]
      have HF := Lib.hid (And.intro hnat (And.intro hca (And.intro hcb hwd)))
      clear hra hrb hwa hwb hca hcb hwd hnat hful0 hes0 he0 he1 hg0 h0 hes hln hcs hful hlt'
      go_wp2_with fail
      refine (gC w7 ga gt).mono ?_
      rintro _ w8 ⟨rfl, hb8⟩
      have hb08 := hb7.trans (hb8.mono hb7.size)
      clear c0 c1 e0 e1 ga ge gt hb7 hb8 gC
      obtain ⟨⟨c0, c1⟩, ⟨e0, e1⟩, ga, ge, gt⟩ := HK.out w8 hb08
      go_wp2_with fail
      refine (gC' w8 ge gt).mono ?_
      rintro _ w9 ⟨rfl, hb9⟩
      have hb09 := hb08.trans (hb9.mono hb08.size)
      clear c0 c1 e0 e1 ga ge gt hb08 hb9 gC'
      obtain ⟨⟨c0, c1⟩, ⟨e0, e1⟩, ga, ge, gt⟩ := HK.out w9 hb09
      go_wp2_with fail
      refine (gH w9 ga gt).mono ?_
      rintro _ wA ⟨ha, rfl, -, hLa, -, hbA⟩
      obtain ⟨La, hLa, hha⟩ := hLa trivial
      have hb0A := hb09.trans (hbA.mono hb09.size)
      clear c0 c1 e0 e1 ga ge gt hb09 hbA gH
      obtain ⟨⟨c0, c1⟩, ⟨e0, e1⟩, ga, ge, gt⟩ := HK.out wA hb0A
      have HLa := Lib.hid (And.intro hLa hha)
      clear hLa hha
      go_wp2_with fail
      refine (gH' wA ge gt).mono ?_
      rintro _ wB ⟨hb, rfl, -, hLb, -, hbB⟩
      obtain ⟨Lb, hLb, hhb⟩ := hLb trivial
      have hhs : ha ≤ hb := by
        rw [HLa.out.2, hhb]
        have h1 := HLa.out.1
        rw [Int.toNat_natCast] at h1 hLb
        exact Gr.hgt_more h1 hLb HF.out.1
      have hb0B := hb0A.trans (hbB.mono hb0A.size)
      clear c0 c1 e0 e1 ga ge gt hb0A hbB gH' hLb hhb HLa
      obtain ⟨⟨c0, c1⟩, ⟨e0, e1⟩, ga, ge, gt⟩ := HK.out wB hb0B
      go_wp2_with fail
      refine (gW wB ga gt).mono ?_
      rintro _ wC ⟨ua, rfl, hra, hbC⟩
      obtain ⟨Aa, ca, rfl, -, -⟩ := own_slice hra
      have hb0C := hb0B.trans (hbC.mono hb0B.size)
      clear c0 c1 e0 e1 ga ge gt hb0B hbC gW hra
      obtain ⟨⟨c0, c1⟩, ⟨e0, e1⟩, ga, ge, gt⟩ := HK.out wC hb0C
      go_wp2_with fail
      refine (gW' wC ge gt).mono ?_
      rintro _ wD ⟨ub, rfl, hrb, hbD⟩
      obtain ⟨Ab, cb, rfl, -, -⟩ := own_slice hrb
      have hb0D := hb0C.trans (hbD.mono hb0C.size)
      have HFin := Lib.hid (below_next hb0D HB6.out)
      clear c0 c1 e0 e1 ga ge gt hb0C hbD gW' hrb hb0D
      obtain ⟨-, hca, hcb, hwd⟩ := HF.out
      go_wp2_with fail
      go_ret
      exact ⟨by simp [hca, hcb, hwd, hhs], HFin.out⟩
    · have HFin := Lib.hid (below_next hb7 HB6.out)
      rw [h0]
      go_wp2_with fail
      go_ret
      exact ⟨rfl, HFin.out⟩
  · obtain ⟨R, hR⟩ : ∃ R, R = Gr.wrong n es' := ⟨_, rfl⟩
    rw [← hR] at h0 ⊢
    have g0 : (R != 0) = true := by simpa using h0
    have HFin := Lib.hid (below_next hb7 HB6.out)
    clear hR h0
    go_wp2_with fail
    go_ret
    exact ⟨rfl, HFin.out⟩
end Go.Proofs.YtfjmhmfkhgjnhaaDoor


namespace Go.Proofs.YtfjmhmfkhgjnhaaDoor
set_option linter.unusedVariables false
set_option linter.unusedSimpArgs false
set_option maxRecDepth 100000
open Go.ChangeShapes Go.WideShapes Go.ChangeAt Go.RowKit

/-- an argument that is a struct of n integers -/
theorem open_arg_ints {H : Type} {enc : TypeId × Value → H} {W : World} {base : Nat} {v : Value} {d : DataW H} {p : List MemPlace} {e : TypeId} {n : Nat} {fs : Array Field} (he : Tryd.prog.underlying e = some (.struct fs)) (hn : fs.size = n) (hC : Tryd.prog.cellsOf e = n) (hf : intFields Tryd.prog fs = true) (hv : Value.okWide Tryd.prog W .any base e v) (h : DataW.Trod enc Tryd.prog W 0 (fun _ => true) true e v d p) :
    ∃ r : List Int, v = .agg (irow r).toArray ∧ r.length = n ∧ Wfs .i64 r := by
  obtain ⟨cs, rfl, hcs⟩ := okWide_struct he hv
  obtain ⟨fuel, hfu⟩ := h
  obtain ⟨r, h1, h2, h3⟩ := struct_ints he hn hC hf (by simpa [Value.cells] using hfu)
  exact ⟨r, by rw [← h2], h1, h3⟩

theorem open_arg_two {H : Type} {enc : TypeId × Value → H} {W : World} {base : Nat} {v : Value} {d : DataW H} {p : List MemPlace} {e : TypeId} {fs : Array Field} (he : Tryd.prog.underlying e = some (.struct fs)) (hn : fs.size = 2) (hC : Tryd.prog.cellsOf e = 2) (hf : intFields Tryd.prog fs = true) (hv : Value.okWide Tryd.prog W .any base e v) (h : DataW.Trod enc Tryd.prog W 0 (fun _ => true) true e v d p) :
    ∃ a b : Int, v = .agg #[.int .i64 a, .int .i64 b] := by
  obtain ⟨r, h1, h2, -⟩ := open_arg_ints he hn hC hf hv h
  match r, h2 with
  | [a, b], _ => exact ⟨a, b, h1⟩
end Go.Proofs.YtfjmhmfkhgjnhaaDoor
