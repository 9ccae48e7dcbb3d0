/-
  ExprFold, walked.
-/
import Derived.Test.YtniekhedpdkmiaaExPl
namespace Go.Proofs.Ytniekhedpdkmiaa
set_option linter.unusedVariables false
set_option linter.unusedSimpArgs false
open Go.RowKit

theorem len_of {w : World} {sz n : Nat} {v : Value} {vs : List Value} (h : SlV w sz v n vs) : ∃ A c, v = .slice A n c := by
  obtain ⟨A, c, rfl, -⟩ := h
  exact ⟨A, c, rfl⟩

set_option maxRecDepth 100000 in
set_option maxHeartbeats 4000000 in
theorem exprFold_walk (w : World) (cs : List Value) (e : Ex.X) (v : Value) (zs : List Ex.Bd) (h : XR w.heap.size w cs e) (hv : SlV w 2 v zs.length (Ex.bindcs zs)) (he : e.leaves ≤ 8796093022200) (hr : zs.length ≤ 8796093022200) :
    Calls Try.prog 4 #[.agg cs.toArray, v] w fun r w' => r = .returned (.bool true) ∧ Below w.heap.size w w' := by
  obtain ⟨a0, a1, a2, A3, a4, a5, rfl, -, -⟩ := h.form
  have p0 := Blk.new w 38 (xcells a0 a1 a2 A3 a4 a5)
  have hb0 : Below w.heap.size w (w.alloc (.cells (xcells a0 a1 a2 A3 a4 a5).toArray 38)) := below_alloc (Below.refl _ _) _
  obtain ⟨p, hp⟩ : ∃ p, p = w.heap.size := ⟨_, rfl⟩
  rw [← hp] at p0
  unfold xcells at p0 hb0 h ⊢
  go_enter Try.func4, Try.ntmps4
  go_wp2_with fail
  refine (alive9_any _).mono ?_
  rintro r w1 ⟨rfl, hb1⟩
  have p1 := p0.below hb1
  have hbw1 := below_next hb1 hb0
  have r1 := (h.later hbw1).up hbw1.size
  have hv1 := hv.below hbw1
  clear p0 hb0 hb1
  have x0 := (p1.cell 0).trans rfl
  have x1 := (p1.cell 1).trans rfl
  have x2 := (p1.cell 2).trans rfl
  have x3 := (p1.cell 3).trans rfl
  simp only [List.getElem?_cons_zero, List.getElem?_cons_succ] at x0 x1 x2 x3
  rw [← hp]
  have HP := Lib.hid hp
  clear hp h hv
  go_wp2_with fail
  refine (fold_ok e _ _ r1).mono ?_
  rintro r w2 ⟨vf, rfl, ⟨cf, rfl, hf⟩, hb2⟩
  obtain ⟨c0, c1, c2, C3, c4, c5, rfl, -, -⟩ := hf.form
  have p2 := p1.below hb2
  have hbw2 := below_next hb2 hbw1
  have r2 := (r1.later hb2).up hb2.size
  have hv2 := hv1.below hb2
  clear x0 x1 x2 x3 p1 r1 hv1 hb2 hbw1
  have q3 := Blk.new w2 38 (xcells c0 c1 c2 C3 c4 c5)
  have p3 := p2.alloc (.cells (xcells c0 c1 c2 C3 c4 c5).toArray 38)
  have hb3 := below_alloc hbw2 (.cells (xcells c0 c1 c2 C3 c4 c5).toArray 38)
  have hb3' : Below w2.heap.size w2 (w2.alloc (.cells (xcells c0 c1 c2 C3 c4 c5).toArray 38)) := below_alloc (Below.refl _ _) _
  have r3 := (r2.later hb3').up hb3'.size
  have f3 := (hf.later hb3').up hb3'.size
  have hv3 := hv2.below hb3'
  obtain ⟨q, hq⟩ : ∃ q, q = w2.heap.size := ⟨_, rfl⟩
  have hkind := f3.kind
  clear p2 hbw2 r2 hf hv2 hb3'
  unfold xcells at q3 p3 hb3 r3 f3 hv3 ⊢
  go_wp2_with fail
  rw [← hq] at q3 ⊢
  generalize (w2.alloc (.cells [Value.int .i64 c0, .int .i64 c1, .string c2, .slice C3 c4 c5].toArray 38)) = W at q3 p3 hb3 r3 f3 hv3 hkind ⊢
  clear hq w1 w2
  have HB := Lib.hid hb3
  have keepS : ∀ w', Below W.heap.size W w' → (Below W.heap.size W w' ∧ w'.cell? ⟨p, 0, none⟩ = some (.int .i64 a0) ∧ w'.cell? ⟨p, 1, none⟩ = some (.int .i64 a1) ∧ w'.cell? ⟨p, 2, none⟩ = some (.string a2) ∧ w'.cell? ⟨p, 3, none⟩ = some (.slice A3 a4 a5) ∧ w'.cell? ⟨q, 0, none⟩ = some (.int .i64 c0) ∧ w'.cell? ⟨q, 1, none⟩ = some (.int .i64 c1) ∧ w'.cell? ⟨q, 2, none⟩ = some (.string c2) ∧ w'.cell? ⟨q, 3, none⟩ = some (.slice C3 c4 c5)) := fun w' hb => ⟨hb, ((p3.below hb).cell 0).trans rfl, ((p3.below hb).cell 1).trans rfl, ((p3.below hb).cell 2).trans rfl, ((p3.below hb).cell 3).trans rfl, ((q3.below hb).cell 0).trans rfl, ((q3.below hb).cell 1).trans rfl, ((q3.below hb).cell 2).trans rfl, ((q3.below hb).cell 3).trans rfl⟩
  have gE : ∀ w' (cs' : List Value), Below W.heap.size W w' → (cs' = [.int .i64 a0, .int .i64 a1, .string a2, .slice A3 a4 a5] ∨ cs' = [.int .i64 c0, .int .i64 c1, .string c2, .slice C3 c4 c5]) → Calls Try.prog 14 #[.agg cs'.toArray, v] w' fun r w'' => r = .returned (.int .i64 (Ex.evl (Ex.bs zs) e)) ∧ Below w'.heap.size w' w'' := fun w' cs' hb hor => by
    rcases hor with rfl | rfl
    · exact eval_ok v zs hr e w' _ ((r3.later hb).up hb.size) (hv3.below hb)
    · rw [← Ex.evl_fold]
      exact eval_ok v zs hr (Ex.fold e) w' _ ((f3.later hb).up hb.size).read (hv3.below hb)
  have gN : ∀ w' (cs' : List Value), Below W.heap.size W w' → (cs' = [.int .i64 a0, .int .i64 a1, .string a2, .slice A3 a4 a5] ∨ cs' = [.int .i64 c0, .int .i64 c1, .string c2, .slice C3 c4 c5]) → Calls Try.prog 17 #[.agg cs'.toArray] w' fun r w'' => ∃ v, r = .returned v ∧ SlV w'' 1 v (Ex.names [] e).length (strs (Ex.names [] e)) ∧ Below w'.heap.size w' w'' := fun w' cs' hb hor => by
    rcases hor with rfl | rfl
    · exact names_ok e w' _ ((r3.later hb).up hb.size) he
    · rw [← Ex.names_fold]
      exact names_ok (Ex.fold e) w' _ ((f3.later hb).up hb.size).read (Nat.le_trans (Ex.fold_leaves e) he)
  have gX : ∀ w', Below W.heap.size W w' → IsX (Ex.fold e) (.agg #[.int .i64 c0, .int .i64 c1, .string c2, .slice C3 c4 c5]) w' := fun w' hb => ⟨_, rfl, (f3.later hb).up hb.size⟩
  have gF : ∀ w', Below W.heap.size W w' → Calls Try.prog 13 #[.agg #[.int .i64 c0, .int .i64 c1, .string c2, .slice C3 c4 c5]] w' fun r w'' => ∃ v, r = .returned v ∧ IsX (Ex.fold e) v w'' ∧ Below w'.heap.size w' w'' := fun w' hb => by
    have := fold_call (Ex.fold e) w' _ (gX w' hb)
    rwa [Ex.fold_fold] at this
  have hS0 := keepS _ (below_drew (Below.refl _ _))
  obtain ⟨b, hL, hC⟩ : ∃ b : Bool, (((Ex.names [] e).length : Int) == 0) = b ∧ (c0 == 1) = b := by
    rcases Ex.fold_named e with ⟨n, h1⟩ | ⟨h1, h2⟩
    · refine ⟨true, ?_, ?_⟩
      · rw [← Ex.names_fold, h1]; rfl
      · rcases hkind with ⟨h, rfl, -⟩ | ⟨-, h⟩
        · rfl
        · exact absurd h1 (h n)
    · refine ⟨false, ?_, ?_⟩
      · have h3 := h2 []
        rw [Ex.names_fold] at h3
        have : (Ex.names [] e).length ≠ 0 := fun h => h3 (List.eq_nil_of_length_eq_zero h)
        simp
        exact fun h => h3 h
      · rcases hkind with ⟨h, rfl, -⟩ | ⟨h, -⟩
        · exact absurd h (h1 _)
        · simpa using h
  clear p3 q3 hb3 r3 f3 hv3 hkind
  obtain ⟨xs, hxs⟩ : ∃ xs, xs = Ex.names [] e := ⟨_, rfl⟩
  rw [← hxs] at gN hL
  clear hxs
  refine wp_walk (by kernel_rfl) (by kernel_rfl) (fun w w' => Below w.heap.size w w') (fun w' => (Below W.heap.size W w' ∧ w'.cell? ⟨p, 0, none⟩ = some (.int .i64 a0) ∧ w'.cell? ⟨p, 1, none⟩ = some (.int .i64 a1) ∧ w'.cell? ⟨p, 2, none⟩ = some (.string a2) ∧ w'.cell? ⟨p, 3, none⟩ = some (.slice A3 a4 a5) ∧ w'.cell? ⟨q, 0, none⟩ = some (.int .i64 c0) ∧ w'.cell? ⟨q, 1, none⟩ = some (.int .i64 c1) ∧ w'.cell? ⟨q, 2, none⟩ = some (.string c2) ∧ w'.cell? ⟨q, 3, none⟩ = some (.slice C3 c4 c5))) hS0 ?_
  repeat (first | (refine settle_skip (fun _ => by rfl) ?_; (simp only [Act.put, List.setIfInBounds_toArray, List.set_cons_zero, List.set_cons_succ])) | (refine' settle_run (fun _ _ => Below.refl _ _) (fun _ => by rfl) ?_ ?_; rotate_left; (focus (intro ρ w hS hF; (try dsimp only at hS); go_split_ands; go_simp; try with_reducible rfl)); (simp only [Act.put, List.setIfInBounds_toArray, List.set_cons_zero, List.set_cons_succ])) | (refine' settle_step (fun _ => by rfl) ?_ ?_; rotate_left; (focus (intro ρ w hS hF K hK; (simp only [Act.put, List.setIfInBounds_toArray, List.set_cons_zero, List.set_cons_succ] at hK); go_simp; first | (go_at_call 14; refine (gE _ _ hS.1 (by first | exact .inl rfl | exact .inr rfl)).mono ?_; rintro e w6 ⟨rfl, hb6⟩; have hS' := keepS _ (below_next hb6 hS.1); have hE' := hb6; exact hK _ hS' hE') | (go_at_call 16; refine (equal_call _ _ xs xs true (by simp) _ (hF.2.1 (by rfl)) (hF.1 (by rfl))).mono ?_; rintro e w6 ⟨rfl, m, rfl⟩; have hS' := keepS _ (below_drewN hS.1 m); have hE' := below_drewN (Below.refl w.heap.size w) m; exact hK _ hS' hE') | (go_at_call 15; refine (same_call _ _ true (by simp) _ _ _ (hF.1 (by rfl)) (gX _ hS.1)).mono ?_; rintro e w6 ⟨rfl, hb6⟩; have hS' := keepS _ (below_next hb6 hS.1); have hE' := hb6; exact hK _ hS' hE'))); (simp only [Act.put, List.setIfInBounds_toArray, List.set_cons_zero, List.set_cons_succ])))
  (refine settle_known (FX (Ex.fold e)) (by rfl) (fun _ => by rfl) ?_ ?_; (focus (intro ρ w hS hF K hK; (simp only [Act.put, List.setIfInBounds_toArray, List.set_cons_zero, List.set_cons_succ] at hK); go_simp; (refine (gF _ hS.1).mono ?_; rintro e w' ⟨v, rfl, hF', hb'⟩; exact hK _ _ hF' (keepS _ (below_next hb' hS.1)) hb'))); (simp only [Act.put, List.setIfInBounds_toArray, List.set_cons_zero, List.set_cons_succ]))
  repeat (first | (refine settle_skip (fun _ => by rfl) ?_; (simp only [Act.put, List.setIfInBounds_toArray, List.set_cons_zero, List.set_cons_succ])) | (refine' settle_run (fun _ _ => Below.refl _ _) (fun _ => by rfl) ?_ ?_; rotate_left; (focus (intro ρ w hS hF; (try dsimp only at hS); go_split_ands; go_simp; try with_reducible rfl)); (simp only [Act.put, List.setIfInBounds_toArray, List.set_cons_zero, List.set_cons_succ])) | (refine' settle_step (fun _ => by rfl) ?_ ?_; rotate_left; (focus (intro ρ w hS hF K hK; (simp only [Act.put, List.setIfInBounds_toArray, List.set_cons_zero, List.set_cons_succ] at hK); go_simp; first | (go_at_call 14; refine (gE _ _ hS.1 (by first | exact .inl rfl | exact .inr rfl)).mono ?_; rintro e w6 ⟨rfl, hb6⟩; have hS' := keepS _ (below_next hb6 hS.1); have hE' := hb6; exact hK _ hS' hE') | (go_at_call 16; refine (equal_call _ _ xs xs true (by simp) _ (hF.2.1 (by rfl)) (hF.1 (by rfl))).mono ?_; rintro e w6 ⟨rfl, m, rfl⟩; have hS' := keepS _ (below_drewN hS.1 m); have hE' := below_drewN (Below.refl w.heap.size w) m; exact hK _ hS' hE') | (go_at_call 15; refine (same_call _ _ true (by simp) _ _ _ (hF.1 (by rfl)) (gX _ hS.1)).mono ?_; rintro e w6 ⟨rfl, hb6⟩; have hS' := keepS _ (below_next hb6 hS.1); have hE' := hb6; exact hK _ hS' hE'))); (simp only [Act.put, List.setIfInBounds_toArray, List.set_cons_zero, List.set_cons_succ])))
  (refine settle_known (FSl 1 xs.length (strs xs)) (by rfl) (fun _ => by rfl) ?_ ?_; (focus (intro ρ w hS hF K hK; (simp only [Act.put, List.setIfInBounds_toArray, List.set_cons_zero, List.set_cons_succ] at hK); go_simp; (refine (gN _ _ hS.1 (.inr rfl)).mono ?_; rintro e w' ⟨v, rfl, hF', hb'⟩; exact hK _ _ hF' (keepS _ (below_next hb' hS.1)) hb'))); (simp only [Act.put, List.setIfInBounds_toArray, List.set_cons_zero, List.set_cons_succ]))
  repeat (first | (refine settle_skip (fun _ => by rfl) ?_; (simp only [Act.put, List.setIfInBounds_toArray, List.set_cons_zero, List.set_cons_succ])) | (refine' settle_run (fun _ _ => Below.refl _ _) (fun _ => by rfl) ?_ ?_; rotate_left; (focus (intro ρ w hS hF; (try dsimp only at hS); go_split_ands; go_simp; try with_reducible rfl)); (simp only [Act.put, List.setIfInBounds_toArray, List.set_cons_zero, List.set_cons_succ])) | (refine' settle_step (fun _ => by rfl) ?_ ?_; rotate_left; (focus (intro ρ w hS hF K hK; (simp only [Act.put, List.setIfInBounds_toArray, List.set_cons_zero, List.set_cons_succ] at hK); go_simp; first | (go_at_call 14; refine (gE _ _ hS.1 (by first | exact .inl rfl | exact .inr rfl)).mono ?_; rintro e w6 ⟨rfl, hb6⟩; have hS' := keepS _ (below_next hb6 hS.1); have hE' := hb6; exact hK _ hS' hE') | (go_at_call 16; refine (equal_call _ _ xs xs true (by simp) _ (hF.2.1 (by rfl)) (hF.1 (by rfl))).mono ?_; rintro e w6 ⟨rfl, m, rfl⟩; have hS' := keepS _ (below_drewN hS.1 m); have hE' := below_drewN (Below.refl w.heap.size w) m; exact hK _ hS' hE') | (go_at_call 15; refine (same_call _ _ true (by simp) _ _ _ (hF.1 (by rfl)) (gX _ hS.1)).mono ?_; rintro e w6 ⟨rfl, hb6⟩; have hS' := keepS _ (below_next hb6 hS.1); have hE' := hb6; exact hK _ hS' hE'))); (simp only [Act.put, List.setIfInBounds_toArray, List.set_cons_zero, List.set_cons_succ])))
  (refine settle_known (FSl 1 xs.length (strs xs)) (by rfl) (fun _ => by rfl) ?_ ?_; (focus (intro ρ w hS hF K hK; (simp only [Act.put, List.setIfInBounds_toArray, List.set_cons_zero, List.set_cons_succ] at hK); go_simp; (refine (gN _ _ hS.1 (.inl rfl)).mono ?_; rintro e w' ⟨v, rfl, hF', hb'⟩; exact hK _ _ hF' (keepS _ (below_next hb' hS.1)) hb'))); (simp only [Act.put, List.setIfInBounds_toArray, List.set_cons_zero, List.set_cons_succ]))
  repeat (first | (refine settle_skip (fun _ => by rfl) ?_; (simp only [Act.put, List.setIfInBounds_toArray, List.set_cons_zero, List.set_cons_succ])) | (refine' settle_run (fun _ _ => Below.refl _ _) (fun _ => by rfl) ?_ ?_; rotate_left; (focus (intro ρ w hS hF; (try dsimp only at hS); go_split_ands; go_simp; try with_reducible rfl)); (simp only [Act.put, List.setIfInBounds_toArray, List.set_cons_zero, List.set_cons_succ])) | (refine' settle_step (fun _ => by rfl) ?_ ?_; rotate_left; (focus (intro ρ w hS hF K hK; (simp only [Act.put, List.setIfInBounds_toArray, List.set_cons_zero, List.set_cons_succ] at hK); go_simp; first | (go_at_call 14; refine (gE _ _ hS.1 (by first | exact .inl rfl | exact .inr rfl)).mono ?_; rintro e w6 ⟨rfl, hb6⟩; have hS' := keepS _ (below_next hb6 hS.1); have hE' := hb6; exact hK _ hS' hE') | (go_at_call 16; refine (equal_call _ _ xs xs true (by simp) _ (hF.2.1 (by rfl)) (hF.1 (by rfl))).mono ?_; rintro e w6 ⟨rfl, m, rfl⟩; have hS' := keepS _ (below_drewN hS.1 m); have hE' := below_drewN (Below.refl w.heap.size w) m; exact hK _ hS' hE') | (go_at_call 15; refine (same_call _ _ true (by simp) _ _ _ (hF.1 (by rfl)) (gX _ hS.1)).mono ?_; rintro e w6 ⟨rfl, hb6⟩; have hS' := keepS _ (below_next hb6 hS.1); have hE' := hb6; exact hK _ hS' hE'))); (simp only [Act.put, List.setIfInBounds_toArray, List.set_cons_zero, List.set_cons_succ])))
  (refine settle_known (FSl 1 xs.length (strs xs)) (by rfl) (fun _ => by rfl) ?_ ?_; (focus (intro ρ w hS hF K hK; (simp only [Act.put, List.setIfInBounds_toArray, List.set_cons_zero, List.set_cons_succ] at hK); go_simp; (refine (gN _ _ hS.1 (.inl rfl)).mono ?_; rintro e w' ⟨v, rfl, hF', hb'⟩; exact hK _ _ hF' (keepS _ (below_next hb' hS.1)) hb'))); (simp only [Act.put, List.setIfInBounds_toArray, List.set_cons_zero, List.set_cons_succ]))
  (refine settle_run (v := .int .i64 (xs.length : Int)) (fun _ _ => Below.refl _ _) (fun _ => by rfl) ?_ ?_; (focus (intro ρ w hS hF; obtain ⟨A, c, hρ⟩ := len_of (hF.1 (by rfl)); go_simp)); (simp only [Act.put, List.setIfInBounds_toArray, List.set_cons_zero, List.set_cons_succ]))
  repeat (first | (refine settle_skip (fun _ => by rfl) ?_; (simp only [Act.put, List.setIfInBounds_toArray, List.set_cons_zero, List.set_cons_succ])) | (refine' settle_run (fun _ _ => Below.refl _ _) (fun _ => by rfl) ?_ ?_; rotate_left; (focus (intro ρ w hS hF; (try dsimp only at hS); go_split_ands; go_simp; try with_reducible rfl)); (simp only [Act.put, List.setIfInBounds_toArray, List.set_cons_zero, List.set_cons_succ])) | (refine' settle_step (fun _ => by rfl) ?_ ?_; rotate_left; (focus (intro ρ w hS hF K hK; (simp only [Act.put, List.setIfInBounds_toArray, List.set_cons_zero, List.set_cons_succ] at hK); go_simp; first | (go_at_call 14; refine (gE _ _ hS.1 (by first | exact .inl rfl | exact .inr rfl)).mono ?_; rintro e w6 ⟨rfl, hb6⟩; have hS' := keepS _ (below_next hb6 hS.1); have hE' := hb6; exact hK _ hS' hE') | (go_at_call 16; refine (equal_call _ _ xs xs true (by simp) _ (hF.2.1 (by rfl)) (hF.1 (by rfl))).mono ?_; rintro e w6 ⟨rfl, m, rfl⟩; have hS' := keepS _ (below_drewN hS.1 m); have hE' := below_drewN (Below.refl w.heap.size w) m; exact hK _ hS' hE') | (go_at_call 15; refine (same_call _ _ true (by simp) _ _ _ (hF.1 (by rfl)) (gX _ hS.1)).mono ?_; rintro e w6 ⟨rfl, hb6⟩; have hS' := keepS _ (below_next hb6 hS.1); have hE' := hb6; exact hK _ hS' hE'))); (simp only [Act.put, List.setIfInBounds_toArray, List.set_cons_zero, List.set_cons_succ])))
  refine settle_nil ?_
  intro ρ w4 hS _
  have hS1 := hS.1
  clear keepS gX gE gN gF hS hS0
  dsimp only
  go_wp2
  go_ret
  exact ⟨rfl, HB.out.trans (hS1.mono HB.out.size)⟩
end Go.Proofs.Ytniekhedpdkmiaa
