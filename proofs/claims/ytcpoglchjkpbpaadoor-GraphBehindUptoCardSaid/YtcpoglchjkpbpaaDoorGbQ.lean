/-
  Behind a node lies all that lies behind what lies behind it; nothing is behind itself; of two nodes one at most is behind the other. On condition that what is read is of bulk at most 1048576; the table of math/bits is as its initialiser lays it (tied to the program's text).
-/
import Derived.Test.YtcpoglchjkpbpaaDoorGrX
import Derived.Test.YtcpoglchjkpbpaaDoorTabEnd

namespace Go.Proofs.YtcpoglchjkpbpaaDoor
set_option linter.unusedVariables false
set_option linter.unusedSimpArgs false
set_option maxRecDepth 100000
open Go.RowKit

set_option maxHeartbeats 4000000 in
theorem has_any (N : Nat) (B : List (List Nat)) (w : World) (pB : Nat) (v : Value) (a c : Nat) (hN : N ≤ 200) (hBl : B.length = N) (hB : ∀ s ∈ B, Bs.Gs N s) (hc : w.cell? ⟨pB, 0, none⟩ = some v) (hv : SlW w v B) (ha : a < N) (hcc : c < N) :
    Calls Tryd.prog 16 #[.int .i64 (a : Int), .int .i64 (c : Int), .pointer (some ⟨pB, 0, none⟩)] w fun e w' => e = .returned (.bool (Bs.win (Bs.of_ [(c : Int)]) (B.getD a []))) ∧ Below w.heap.size w w' := by
  obtain ⟨R, hR⟩ : ∃ R, R = Bs.win (Bs.of_ [(c : Int)]) (B.getD a []) := ⟨_, rfl⟩
  rw [← hR]
  obtain ⟨xs, hxs⟩ : ∃ s, B[a]? = some s := ⟨_, List.getElem?_eq_getElem (by omega)⟩
  have hxD : B.getD a [] = xs := by rw [List.getD_eq_getElem?_getD, hxs, Option.getD_some]
  rw [hxD] at hR
  have hgx := (hB xs (List.mem_of_getElem? hxs)).length
  obtain ⟨os, ⟨A, cc, rfl, -, -, hol, hoc⟩, hos⟩ := hv
  obtain ⟨va, hva⟩ : ∃ v, os[a]? = some v := ⟨_, List.getElem?_eq_getElem (by omega)⟩
  have su := hos a va xs hva hxs
  obtain ⟨g, o, rfl, hgl, hcell⟩ := hoc.at_ (fun e => by rw [e] at hva; simp at hva)
  obtain ⟨Au, cu, rfl⟩ := slU_form su
  have ca := hcell a _ hva
  obtain ⟨ys, hys⟩ : ∃ ys, ys = Bs.of_ [(c : Int)] := ⟨_, rfl⟩
  have hyl : ys.length ≤ 1024 := by rw [hys]; exact Bs.of_length _
  have hof := fun w' v (h : SlV w' 1 v 1 [.int .i64 (c : Int)]) => of_any w' v [(c : Int)] h
  rw [← hys] at hof hR
  have hwi := fun w' v (hb : Below w.heap.size w w') (h : SlU w' v ys) => within_any w' v _ ys xs h (su.below hb) (by omega) (by omega) R hR.symm
  have keepS : ∀ w', Below w.heap.size w w' → Below w.heap.size w w' ∧ w'.cell? ⟨pB, 0, none⟩ = some (.slice (some ⟨g, o, none⟩) B.length cc) ∧ w'.cell? ⟨g, o + a, none⟩ = some (.slice Au xs.length cu) := fun w' hb => ⟨hb, (hb.cell (World.block_lt_of_cell? w _ hc)).trans hc, (hb.cell (p := ⟨g, o + a, none⟩) hgl).trans ca⟩
  have hS0 := keepS _ (below_drew (Below.refl _ _))
  have haB : a < B.length := by omega
  have HH := Lib.hid (And.intro hBl hol)
  clear hBl hol hR hxD hxs hys hva hcell hoc hos su hc hB ca
  go_enter Tryd.func16, Tryd.ntmps16
  go_wp2_with fail
  refine wp_walk (by kernel_rfl) (by kernel_rfl) (fun w w' => Below w.heap.size w w') (fun w' => Below w.heap.size w w' ∧ w'.cell? ⟨pB, 0, none⟩ = some (.slice (some ⟨g, o, none⟩) B.length cc) ∧ w'.cell? ⟨g, o + a, none⟩ = some (.slice Au xs.length cu)) hS0 ?_
  repeat (first | (refine settle_skip (fun _ => by rfl) ?_; (simp only [Act.put, List.setIfInBounds_toArray, List.set_cons_zero, List.set_cons_succ])) | (refine' settle_run (fun _ _ => Below.refl _ _) (fun _ => by rfl) ?_ ?_; rotate_left; (focus (intro ρ w hS hF; (try dsimp only at hS); go_split_ands; go_simp; try with_reducible rfl)); (simp only [Act.put, List.setIfInBounds_toArray, List.set_cons_zero, List.set_cons_succ])))
  (refine settle_known (FSl 1 1 [.int .i64 (c : Int)]) (by rfl) (fun _ => by rfl)  ?_ ?_; (focus (intro ρ w hS hF K hK; (simp only [Act.put, List.setIfInBounds_toArray, List.set_cons_zero, List.set_cons_succ] at hK); go_simp; exact hK _ _ (SlV.lit w [.int .i64 (c : Int)] 3 1 1 rfl (by decide)) (keepS _ (below_alloc hS.1 _)) (below_alloc (Below.refl _ _) _))); (simp only [Act.put, List.setIfInBounds_toArray, List.set_cons_zero, List.set_cons_succ]))
  (refine settle_known (FSw ys) (by rfl) (fun _ => by rfl)  ?_ ?_; (focus (intro ρ w hS hF K hK; (simp only [Act.put, List.setIfInBounds_toArray, List.set_cons_zero, List.set_cons_succ] at hK); go_simp; (refine (hof _ _ (hF.1 (by rfl))).mono ?_; rintro e w' ⟨u, rfl, h1, hb'⟩; exact hK _ _ h1 (keepS _ (below_next hb' hS.1)) hb'))); (simp only [Act.put, List.setIfInBounds_toArray, List.set_cons_zero, List.set_cons_succ]))
  repeat (first | (refine settle_skip (fun _ => by rfl) ?_; (simp only [Act.put, List.setIfInBounds_toArray, List.set_cons_zero, List.set_cons_succ])) | (refine' settle_run (fun _ _ => Below.refl _ _) (fun _ => by rfl) ?_ ?_; rotate_left; (focus (intro ρ w hS hF; (try dsimp only at hS); go_split_ands; go_simp; try with_reducible rfl)); (simp only [Act.put, List.setIfInBounds_toArray, List.set_cons_zero, List.set_cons_succ])))
  (refine' settle_step (fun _ => by rfl) ?_ ?_; rotate_left; (focus (intro ρ w hS hF K hK; (simp only [Act.put, List.setIfInBounds_toArray, List.set_cons_zero, List.set_cons_succ] at hK); go_simp; refine (hwi _ _ hS.1 (hF.1 (by rfl))).mono ?_; rintro e w' ⟨rfl, hb'⟩; have hS' := keepS _ (below_next hb' hS.1); have hE' := hb'; exact hK _ hS' hE')); (simp only [Act.put, List.setIfInBounds_toArray, List.set_cons_zero, List.set_cons_succ]))
  repeat (first | (refine settle_skip (fun _ => by rfl) ?_; (simp only [Act.put, List.setIfInBounds_toArray, List.set_cons_zero, List.set_cons_succ])) | (refine' settle_run (fun _ _ => Below.refl _ _) (fun _ => by rfl) ?_ ?_; rotate_left; (focus (intro ρ w hS hF; (try dsimp only at hS); go_split_ands; go_simp; try with_reducible rfl)); (simp only [Act.put, List.setIfInBounds_toArray, List.set_cons_zero, List.set_cons_succ])))
  refine settle_nil ?_
  intro ρ wE hS hF
  have hfin := hS.1
  clear hF hS hS0 keepS hwi hof
  go_wp2_with fail
  go_ret
  exact ⟨rfl, hfin⟩
end Go.Proofs.YtcpoglchjkpbpaaDoor


namespace Go.Proofs.YtcpoglchjkpbpaaDoor
set_option linter.unusedVariables false
set_option linter.unusedSimpArgs false
set_option maxRecDepth 100000
open Go.RowKit

set_option maxHeartbeats 4000000 in
theorem graphBehind_walk (w : World) (n : Int) (es : List Gr.Er) (A : Option Addr) (c : Nat) (i j : Int) (hA : SlV w 2 (.slice A es.length c) es.length (ercs es)) (hle : es.length ≤ 1099511627776) (hT : Tab w) :
    Calls Tryd.prog 4 #[.agg #[.int .i64 n, .slice A es.length c], .int .i64 i, .int .i64 j] w fun e w' => e = .returned (.bool true) ∧ Below w.heap.size w w' := by
  have hba : Below w.heap.size w (w.alloc (.cells #[.int .i64 n, .slice A es.length c] 24)) := below_alloc (Below.refl _ _) _
  have x0 := Blk.new w 24 [.int .i64 n, .slice A es.length c]
  go_enter Tryd.func4, Tryd.ntmps4
  go_upto_region 1 with (fail)
  generalize (w.alloc (.cells #[.int .i64 n, .slice A es.length c] 24)) = W0 at x0 hba ⊢
  go_wp2_with fail
  refine (alive2_any W0 (hT.later hT.lt hba)).mono ?_
  rintro e w1 ⟨rfl, hb1⟩
  have x1 := x0.below hb1
  have c0 : w1.cell? ⟨w.heap.size, 0, none⟩ = some (.int .i64 n) := (x1.cell 0).trans rfl
  have c1 : w1.cell? ⟨w.heap.size, 1, none⟩ = some (.slice A es.length c) := (x1.cell 1).trans rfl
  have hb01 := below_next hb1 hba
  have T1 := hT.later hT.lt hb01
  clear x0 hba hb1 hT
  go_wp2_with fail
  refine (behind_any n es w1 A c (hA.below hb01) hle T1).mono ?_
  rintro e w2 ⟨v, rfl, h0, hv, hb2⟩
  have x2 := x1.below hb2
  have hb02 := below_next hb2 hb01
  clear c0 c1 x1 T1 hA
  by_cases hw : Gr.wrong n es = 0
  · have hv := hv hw
    obtain ⟨hok, N, rfl, hN, hes, hln, hl⟩ := Gr.wrong_zero hw
    rw [hw]
    rw [Int.toNat_natCast] at hv
    obtain ⟨B, hB⟩ : ∃ B, B = Gr.behW N (Gr.nat es) := ⟨_, rfl⟩
    have hlaw := fun i j hi hj => Gr.behind_law (i := i) (j := j) hN hl (fun e he => (hes e he).2) hi hj
    have hBg := Gr.behW_gs (N := N) (es := Gr.nat es) fun e he => (hes e he).2
    have hBl := Gr.behW_length N (Gr.nat es)
    rw [← hB] at hv hlaw hBg hBl
    clear hB hl hes hln hok h0 hw hb2
    obtain ⟨A2, c2, rfl⟩ : ∃ A2 c2, v = .slice A2 N c2 := by
      obtain ⟨os, ⟨A', c', e, -⟩, -⟩ := hv
      rw [hBl] at e
      exact ⟨_, _, e⟩
    have hb3 : Below w2.heap.size w2 (w2.alloc (.cells #[.slice A2 N c2] 36)) := below_alloc (Below.refl _ _) _
    have p3 := Boxed.new w2 36 (.slice A2 N c2)
    have HB := Lib.hid (And.intro hBl (And.intro hBg hlaw))
    clear hBl hBg hlaw
    go_upto_region 4 with (fail)
    generalize (w2.alloc (.cells #[.slice A2 N c2] 36)) = w3 at hb3 p3 ⊢
    have x3 := x2.below hb3
    have hv3 := hv.below hb3
    have hb03 := below_next hb3 hb02
    have d0 : w3.cell? ⟨w.heap.size, 0, none⟩ = some (.int .i64 (N : Int)) := (x3.cell 0).trans rfl
    have d3 := p3.cell
    clear x2 x3 hv hb02 hb3
    rcases h1 : decide (i < 0) with _ | _
    · rcases h2 : decide (j < 0) with _ | _
      · rcases h3 : decide ((N : Int) ≤ i) with _ | _
        · rcases h4 : decide ((N : Int) ≤ j) with _ | _
          · obtain ⟨I, rfl⟩ := Int.eq_ofNat_of_zero_le (show 0 ≤ i by simpa using h1)
            obtain ⟨J, rfl⟩ := Int.eq_ofNat_of_zero_le (show 0 ≤ j by simpa using h2)
            have hI : I < N := by simpa using h3
            have hJ : J < N := by simpa using h4
            obtain ⟨l1, l2⟩ := HB.out.2.2 I J hI hJ
            go_wp2_with fail
            have k3 : decide (N ≤ I) = false := by simp; omega
            have k4 : decide (N ≤ J) = false := by simp; omega
            rw [k3, k4, show (false || false) = false from rfl]
            clear k3 k4 h1 h2 h3 h4
            obtain ⟨q, hq⟩ : ∃ q, q = w2.heap.size := ⟨_, rfl⟩
            rw [← hq] at d3 ⊢
            have hh : ∀ w' (a c : Nat) (z : Bool), Below w3.heap.size w3 w' → a < N → c < N → Bs.win (Bs.of_ [(c : Int)]) (B.getD a []) = z → Calls Tryd.prog 16 #[.int .i64 (a : Int), .int .i64 (c : Int), .pointer (some ⟨q, 0, none⟩)] w' fun e w'' => e = .returned (.bool z) ∧ Below w'.heap.size w' w'' := fun w' a c z hb ha hc hz => by
              subst hz
              exact has_any N B w' q _ a c hN HB.out.1 HB.out.2.1 ((hb.cell (World.block_lt_of_cell? w3 _ d3)).trans d3) (hv3.below hb) ha hc
            obtain ⟨xs, hxs⟩ : ∃ s, B[I]? = some s := ⟨_, List.getElem?_eq_getElem (by have := HB.out.1; omega)⟩
            obtain ⟨ys, hys⟩ : ∃ s, B[J]? = some s := ⟨_, List.getElem?_eq_getElem (by have := HB.out.1; omega)⟩
            have hxD : B.getD I [] = xs := by rw [List.getD_eq_getElem?_getD, hxs, Option.getD_some]
            have hyD : B.getD J [] = ys := by rw [List.getD_eq_getElem?_getD, hys, Option.getD_some]
            have hxl := (HB.out.2.1 xs (List.mem_of_getElem? hxs)).length
            have hyl := (HB.out.2.1 ys (List.mem_of_getElem? hys)).length
            obtain ⟨os, ⟨A', c', e, -, -, hol, hoc⟩, hos⟩ := hv3
            injection e with e1 e2 e3
            subst e1 e3
            obtain ⟨vI, hvI⟩ : ∃ v, os[I]? = some v := ⟨_, List.getElem?_eq_getElem (by have := HB.out.1; omega)⟩
            obtain ⟨vJ, hvJ⟩ : ∃ v, os[J]? = some v := ⟨_, List.getElem?_eq_getElem (by have := HB.out.1; omega)⟩
            have sI := hos I vI xs hvI hxs
            have sJ := hos J vJ ys hvJ hys
            obtain ⟨g, o, rfl, hgl, hcell⟩ := hoc.at_ (fun e => by rw [e] at hvI; simp at hvI)
            obtain ⟨AI, cI, rfl⟩ := slU_form sI
            obtain ⟨AJ, cJ, rfl⟩ := slU_form sJ
            have eI := hcell I _ hvI
            have eJ := hcell J _ hvJ
            have hwi := fun w' (hb : Below w3.heap.size w3 w') (hz : Bs.win ys xs = true) => within_any w' _ _ ys xs (sJ.below hb) (sI.below hb) (by omega) (by omega) true hz
            have keepS : ∀ w', Below w3.heap.size w3 w' → Below w3.heap.size w3 w' ∧ w'.cell? ⟨q, 0, none⟩ = some (.slice (some ⟨g, o, none⟩) N c2) ∧ w'.cell? ⟨g, o + I, none⟩ = some (.slice AI xs.length cI) ∧ w'.cell? ⟨g, o + J, none⟩ = some (.slice AJ ys.length cJ) := fun w' hb => ⟨hb, (hb.cell (World.block_lt_of_cell? w3 _ d3)).trans d3, (hb.cell (p := ⟨g, o + I, none⟩) hgl).trans eI, (hb.cell (p := ⟨g, o + J, none⟩) hgl).trans eJ⟩
            have hS0 := keepS _ (below_drew (Below.refl _ _))
            rw [hxD] at l2
            have l2 := fun h => (⟨by have := (l2 h).1; rw [hyD] at this; exact this, (l2 h).2⟩ : Bs.win ys xs = true ∧ Bs.win (Bs.of_ [(I : Int)]) (B.getD J []) = false)
            clear hq hxs hys hyD hxl hyl hos hol hoc hvI hvJ sI sJ hcell eI eJ e2 p3
            rcases hc : Bs.win (Bs.of_ [(J : Int)]) xs with _ | _
            · have hcJ : Bs.win (Bs.of_ [(J : Int)]) (B.getD I []) = false := by rw [hxD]; exact hc
              clear l2 hc hxD
              refine wp_walk (by kernel_rfl) (by kernel_rfl) (fun w w' => Below w.heap.size w w') (fun w' => Below w3.heap.size w3 w' ∧ w'.cell? ⟨q, 0, none⟩ = some (.slice (some ⟨g, o, none⟩) N c2) ∧ w'.cell? ⟨g, o + I, none⟩ = some (.slice AI xs.length cI) ∧ w'.cell? ⟨g, o + J, none⟩ = some (.slice AJ ys.length cJ)) hS0 ?_
              repeat (first | (refine settle_skip (fun _ => by rfl) ?_; (simp only [Act.put, List.setIfInBounds_toArray, List.set_cons_zero, List.set_cons_succ])) | (refine' settle_run (fun _ _ => Below.refl _ _) (fun _ => by rfl) ?_ ?_; rotate_left; (focus (intro ρ w hS hF; (try dsimp only at hS); go_split_ands; go_simp; try with_reducible rfl)); (simp only [Act.put, List.setIfInBounds_toArray, List.set_cons_zero, List.set_cons_succ])))
              (refine' settle_step (fun _ => by rfl) ?_ ?_; rotate_left; (focus (intro ρ w hS hF K hK; (simp only [Act.put, List.setIfInBounds_toArray, List.set_cons_zero, List.set_cons_succ] at hK); go_simp; refine (hh _ I I false hS.1 hI hI l1).mono ?_; rintro e w' ⟨rfl, hb'⟩; have hS' := keepS _ (below_next hb' hS.1); have hE' := hb'; exact hK _ hS' hE')); (simp only [Act.put, List.setIfInBounds_toArray, List.set_cons_zero, List.set_cons_succ]))
              repeat (first | (refine settle_skip (fun _ => by rfl) ?_; (simp only [Act.put, List.setIfInBounds_toArray, List.set_cons_zero, List.set_cons_succ])) | (refine' settle_run (fun _ _ => Below.refl _ _) (fun _ => by rfl) ?_ ?_; rotate_left; (focus (intro ρ w hS hF; (try dsimp only at hS); go_split_ands; go_simp; try with_reducible rfl)); (simp only [Act.put, List.setIfInBounds_toArray, List.set_cons_zero, List.set_cons_succ])))
              (refine' settle_step (fun _ => by rfl) ?_ ?_; rotate_left; (focus (intro ρ w hS hF K hK; (simp only [Act.put, List.setIfInBounds_toArray, List.set_cons_zero, List.set_cons_succ] at hK); go_simp; refine (hh _ I J false hS.1 hI hJ hcJ).mono ?_; rintro e w' ⟨rfl, hb'⟩; have hS' := keepS _ (below_next hb' hS.1); have hE' := hb'; exact hK _ hS' hE')); (simp only [Act.put, List.setIfInBounds_toArray, List.set_cons_zero, List.set_cons_succ]))
              repeat (first | (refine settle_skip (fun _ => by rfl) ?_; (simp only [Act.put, List.setIfInBounds_toArray, List.set_cons_zero, List.set_cons_succ])) | (refine' settle_run (fun _ _ => Below.refl _ _) (fun _ => by rfl) ?_ ?_; rotate_left; (focus (intro ρ w hS hF; (try dsimp only at hS); go_split_ands; go_simp; try with_reducible rfl)); (simp only [Act.put, List.setIfInBounds_toArray, List.set_cons_zero, List.set_cons_succ])))
              refine settle_nil ?_
              intro ρ wE hS hF
              have hfin := below_next hS.1 hb03
              clear hF hS hS0 keepS hwi hh
              go_wp2_with fail
              go_ret
              exact ⟨rfl, hfin⟩
            · obtain ⟨l3, l4⟩ := l2 hc
              have hcJ : Bs.win (Bs.of_ [(J : Int)]) (B.getD I []) = true := by rw [hxD]; exact hc
              clear l2 hc hxD
              refine wp_walk (by kernel_rfl) (by kernel_rfl) (fun w w' => Below w.heap.size w w') (fun w' => Below w3.heap.size w3 w' ∧ w'.cell? ⟨q, 0, none⟩ = some (.slice (some ⟨g, o, none⟩) N c2) ∧ w'.cell? ⟨g, o + I, none⟩ = some (.slice AI xs.length cI) ∧ w'.cell? ⟨g, o + J, none⟩ = some (.slice AJ ys.length cJ)) hS0 ?_
              repeat (first | (refine settle_skip (fun _ => by rfl) ?_; (simp only [Act.put, List.setIfInBounds_toArray, List.set_cons_zero, List.set_cons_succ])) | (refine' settle_run (fun _ _ => Below.refl _ _) (fun _ => by rfl) ?_ ?_; rotate_left; (focus (intro ρ w hS hF; (try dsimp only at hS); go_split_ands; go_simp; try with_reducible rfl)); (simp only [Act.put, List.setIfInBounds_toArray, List.set_cons_zero, List.set_cons_succ])))
              (refine' settle_step (fun _ => by rfl) ?_ ?_; rotate_left; (focus (intro ρ w hS hF K hK; (simp only [Act.put, List.setIfInBounds_toArray, List.set_cons_zero, List.set_cons_succ] at hK); go_simp; refine (hh _ I I false hS.1 hI hI l1).mono ?_; rintro e w' ⟨rfl, hb'⟩; have hS' := keepS _ (below_next hb' hS.1); have hE' := hb'; exact hK _ hS' hE')); (simp only [Act.put, List.setIfInBounds_toArray, List.set_cons_zero, List.set_cons_succ]))
              repeat (first | (refine settle_skip (fun _ => by rfl) ?_; (simp only [Act.put, List.setIfInBounds_toArray, List.set_cons_zero, List.set_cons_succ])) | (refine' settle_run (fun _ _ => Below.refl _ _) (fun _ => by rfl) ?_ ?_; rotate_left; (focus (intro ρ w hS hF; (try dsimp only at hS); go_split_ands; go_simp; try with_reducible rfl)); (simp only [Act.put, List.setIfInBounds_toArray, List.set_cons_zero, List.set_cons_succ])))
              (refine' settle_step (fun _ => by rfl) ?_ ?_; rotate_left; (focus (intro ρ w hS hF K hK; (simp only [Act.put, List.setIfInBounds_toArray, List.set_cons_zero, List.set_cons_succ] at hK); go_simp; refine (hh _ I J true hS.1 hI hJ hcJ).mono ?_; rintro e w' ⟨rfl, hb'⟩; have hS' := keepS _ (below_next hb' hS.1); have hE' := hb'; exact hK _ hS' hE')); (simp only [Act.put, List.setIfInBounds_toArray, List.set_cons_zero, List.set_cons_succ]))
              repeat (first | (refine settle_skip (fun _ => by rfl) ?_; (simp only [Act.put, List.setIfInBounds_toArray, List.set_cons_zero, List.set_cons_succ])) | (refine' settle_run (fun _ _ => Below.refl _ _) (fun _ => by rfl) ?_ ?_; rotate_left; (focus (intro ρ w hS hF; (try dsimp only at hS); go_split_ands; go_simp; try with_reducible rfl)); (simp only [Act.put, List.setIfInBounds_toArray, List.set_cons_zero, List.set_cons_succ])))
              (refine' settle_step (fun _ => by rfl) ?_ ?_; rotate_left; (focus (intro ρ w hS hF K hK; (simp only [Act.put, List.setIfInBounds_toArray, List.set_cons_zero, List.set_cons_succ] at hK); go_simp; refine (hwi _ hS.1 l3).mono ?_; rintro e w' ⟨rfl, hb'⟩; have hS' := keepS _ (below_next hb' hS.1); have hE' := hb'; exact hK _ hS' hE')); (simp only [Act.put, List.setIfInBounds_toArray, List.set_cons_zero, List.set_cons_succ]))
              repeat (first | (refine settle_skip (fun _ => by rfl) ?_; (simp only [Act.put, List.setIfInBounds_toArray, List.set_cons_zero, List.set_cons_succ])) | (refine' settle_run (fun _ _ => Below.refl _ _) (fun _ => by rfl) ?_ ?_; rotate_left; (focus (intro ρ w hS hF; (try dsimp only at hS); go_split_ands; go_simp; try with_reducible rfl)); (simp only [Act.put, List.setIfInBounds_toArray, List.set_cons_zero, List.set_cons_succ])))
              (refine' settle_step (fun _ => by rfl) ?_ ?_; rotate_left; (focus (intro ρ w hS hF K hK; (simp only [Act.put, List.setIfInBounds_toArray, List.set_cons_zero, List.set_cons_succ] at hK); go_simp; refine (hh _ J I false hS.1 hJ hI l4).mono ?_; rintro e w' ⟨rfl, hb'⟩; have hS' := keepS _ (below_next hb' hS.1); have hE' := hb'; exact hK _ hS' hE')); (simp only [Act.put, List.setIfInBounds_toArray, List.set_cons_zero, List.set_cons_succ]))
              repeat (first | (refine settle_skip (fun _ => by rfl) ?_; (simp only [Act.put, List.setIfInBounds_toArray, List.set_cons_zero, List.set_cons_succ])) | (refine' settle_run (fun _ _ => Below.refl _ _) (fun _ => by rfl) ?_ ?_; rotate_left; (focus (intro ρ w hS hF; (try dsimp only at hS); go_split_ands; go_simp; try with_reducible rfl)); (simp only [Act.put, List.setIfInBounds_toArray, List.set_cons_zero, List.set_cons_succ])))
              refine settle_nil ?_
              intro ρ wE hS hF
              have hfin := below_next hS.1 hb03
              clear hF hS hS0 keepS hwi hh
              go_wp2_with fail
              go_ret
              exact ⟨rfl, hfin⟩
          · go_wp2_with fail
            go_ret
            exact ⟨rfl, hb03⟩
        · go_wp2_with fail
          go_ret
          exact ⟨rfl, hb03⟩
      · go_wp2_with fail
        go_ret
        exact ⟨rfl, hb03⟩
    · go_wp2_with fail
      go_ret
      exact ⟨rfl, hb03⟩
  · have hv0 := h0 hw
    subst hv0
    have g0 : (Gr.wrong n es != 0) = true := by simpa using hw
    have hb3 := Lib.hid (below_alloc hb02 (.cells #[.slice none 0 0] 36))
    clear h0 hv hw hb02 hb2 x2
    go_wp2_with fail
    go_ret
    exact ⟨rfl, hb3.out⟩
end Go.Proofs.YtcpoglchjkpbpaaDoor


namespace Go.Proofs.YtcpoglchjkpbpaaDoor
set_option linter.unusedVariables false
set_option linter.unusedSimpArgs false
set_option maxRecDepth 100000
open Go.ChangeShapes Go.WideShapes Go.ChangeAt Go.RowKit
set_option linter.unusedVariables false

theorem tab_of_graphBehind {W : World} (h : laidMetH Tryd.prog Rows.graphBehindUptoRow.laid W) : Tab W :=
  tab_is (Lib.tabIs_of_head (rest := []) gTab gTabType Tryd.underlying124 Tryd.underlying5 cellsByte cellsTab h)
theorem graphBehind_met (os : Os) : laidMet Tryd.prog Rows.graphBehindUptoRow.laid ((laidWorld os).forCall (fun _ _ => 0) ⟨#[], #[.agg #[.int .i64 0, .slice none 0 0], .int .i64 0, .int .i64 0], []⟩).memory :=
  laidMet_of_run' 8 (by kernel_rfl) (by kernel_rfl)
theorem graphBehind_reads (os : Os) {H : Type} (enc : TypeId × Value → H) : ∃ places, DataW.whole enc Tryd.prog ((laidWorld os).forCall (fun _ _ => 0) ⟨#[], #[.agg #[.int .i64 0, .slice none 0 0], .int .i64 0, .int .i64 0], []⟩).memory Tryd.f4.params.toList Rows.graphBehindSpec.vars false #[.agg #[.int .i64 0, .slice none 0 0], .int .i64 0, .int .i64 0].toList 8 = some ([.agg [.lit (.int .i64 0), .nil], .lit (.int .i64 0), .lit (.int .i64 0)], [], places) :=
  ⟨[], by kernel_rfl⟩
set_option maxRecDepth 100000 in
theorem graphBehind_lifted (os : Os) (started : os.Started) (H : Type) (enc : TypeId × Value → H) (F : Stop.Interp) :
    ReturnsInHanded {} Tryd.checked os 4 .any ((Rows.OpenSpec.upto Rows.graphBehindSpec).preRow enc Tryd.prog Tryd.f4 Rows.graphBehindUptoRow.domain false Rows.graphBehindUptoRow.laid) (((Rows.OpenSpec.upto Rows.graphBehindSpec).at F).post enc Tryd.prog Tryd.f4 false true false false) := by
  obtain ⟨places, hx⟩ := graphBehind_reads os enc
  refine returnsInHanded_of_row (C := Tryd.checked) (s := (Rows.OpenSpec.upto Rows.graphBehindSpec)) own started (by kernel_rfl) Tryd.func4
    (witness_row_at (enc := enc) (C := Tryd.checked) false (laidWorld os) #[.agg #[.int .i64 0, .slice none 0 0], .int .i64 0, .int .i64 0] rfl (by kernel_rfl) (by kernel_rfl) (by kernel_rfl)
      (OpenSpec.preRow_of_cond 8 hx (by kernel_rfl) (fun k hk => by cases hk; kernel_rfl) (by kernel_rfl) (graphBehind_met os))) ?_
  intro W base args ds gs before hval0 hW _ hcond _ hL _ _
  have hk := hcond _ rfl
  have hT := tab_of_graphBehind hL
  have hval : ∀ (j : Nat) t v, Tryd.f4.params[j]? = some t → args[j]? = some v → Value.okWide Tryd.prog W .any base t v := hval0
  have hW' := hW
  have hlt := hW.lt
  obtain ⟨p, q, hA0, hV, rfl, hfz, hnd⟩ := hW
  have hA : DataW.TrodAll enc Tryd.prog W 0 (fun _ => true) true Tryd.f4.params.toList args.toList ds p := hA0
  rw [Tryd.params4] at hA hval
  obtain ⟨v0, vs0, d0, ds0, p0, q0, hargs, rfl, rfl, h0, r0⟩ := trodAll_cons hA
  obtain ⟨v1, vs1, d1, ds1, p1, q1, rfl, rfl, rfl, h1, r1⟩ := trodAll_cons r0
  obtain ⟨v2, vs2, d2, ds2, p2, q2, rfl, rfl, rfl, h2, r2⟩ := trodAll_cons r1
  obtain ⟨rfl, rfl, rfl⟩ := trodAll_nil r2
  obtain rfl : args = #[v0, v1, v2] := by cases args; simp_all
  obtain ⟨rfl, rfl⟩ := trodVars_none hV
  obtain ⟨n0, es0, A0, c0, rfl, hg0, hs0⟩ := open_arg_graph (hval 0 _ v0 rfl rfl) h0 (fun x hx => by simpa using hlt x (by simp [hx]))
  obtain ⟨n1, rfl, rfl, rfl, wn1⟩ := open_int Tryd.underlying3 (hval 1 _ v1 rfl rfl) h1
  obtain ⟨n2, rfl, rfl, rfl, wn2⟩ := open_int Tryd.underlying3 (hval 2 _ v2 rfl rfl) h2
  have hk' : Rows.uptoBulkAll (d0 :: _) ≤ 1048576 := of_decide_eq_true hk
  rw [Rows.uptoBulkAll] at hk'
  refine (graphBehind_walk W n0 es0 A0 c0 n1 n2 hg0 (by omega) hT).mono fun e W' ⟨he, hb⟩ => ?_
  subst he
  exact ⟨_, rfl, post_true laidOut (by kernel_rfl) Tryd.underlying4 (by decide +kernel) rfl rfl hW' hb⟩

theorem graphBehind_upto : Rows.GraphBehindUptoSaid :=
  OpenClaim.holds_of_cond 4 Tryd.f4 rfl rfl rfl rfl rfl rfl rfl ⟨rfl, rfl, rfl, rfl, rfl⟩ rfl rfl rfl rfl rfl (by kernel_rfl) Tryd.func4 (by kernel_rfl)
    (of_decide_eq_true (by kernel_rfl)) (by unfold Func.isWrapper; first | (rw [if_pos (by decide +kernel)]; kernel_rfl) | (rw [if_neg (by decide +kernel)]; exact ⟨rfl, rfl⟩))
    (fun os started H enc _ F => by rw [OpenClaim.pre_eq_preRow]; exact graphBehind_lifted os started H enc F)
theorem graphBehind_plain (f : FuncId) (fn : Func) (hf : Tryd.pinned.checked.prog.funcNamed "forkwright/forkwrightkeep.GraphBehind" = some f) (hfn : Tryd.pinned.checked.prog.funcs[f]? = some fn) :
    false = Tryd.pinned.checked.prog.looks [] ∧ ∀ (j : Nat) t, fn.params[j]? = some t → Tryd.pinned.checked.prog.wantsStandIn t = false := by
  obtain rfl : f = 4 := Option.some.inj ((show Tryd.prog.funcNamed "forkwright/forkwrightkeep.GraphBehind" = some 4 by kernel_rfl).symm.trans hf) |>.symm
  obtain rfl : fn = Tryd.f4 := (Option.some.inj (Tryd.func4.symm.trans hfn)).symm
  refine ⟨by kernel_rfl, fun j t ht => ?_⟩
  rw [Tryd.params4] at ht
  have hm := Array.mem_of_getElem? ht
  have hm' : t ∈ [24, 3, 3] := by simpa using hm
  have hall : ([24, 3, 3].all fun u => !Tryd.prog.wantsStandIn u) = true := by kernel_rfl
  exact (show Tryd.prog.wantsStandIn t = false by simpa using List.all_eq_true.1 hall t hm')
theorem graphBehind_card : Rows.GraphBehindUptoCardSaid :=
  Claim7.holds_tied_plain_at .later [] _ _ _ _ graphBehind_upto (fun _ h => by cases h) (by kernel_rfl) (fun _ h => by cases h) graphBehindUpto_row_tie rfl ⟨rfl, rfl⟩ (by kernel_rfl) rfl graphBehind_plain (by kernel_rfl)
end Go.Proofs.YtcpoglchjkpbpaaDoor
