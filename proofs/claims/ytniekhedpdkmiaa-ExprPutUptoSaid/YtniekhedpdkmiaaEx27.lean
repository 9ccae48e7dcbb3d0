/-
  ExprNames, walked.
-/
import Derived.Test.YtniekhedpdkmiaaEx26
namespace Go.Proofs.Ytniekhedpdkmiaa
set_option linter.unusedVariables false
set_option linter.unusedSimpArgs false
open Go.RowKit

theorem Ex.occ_names (t : ByteArray) (e : Ex.X) : Ex.has t (Ex.names [] e) = Ex.occ t.data.toList e := by rw [Ex.has_occ]; rfl

theorem names_call (e : Ex.X) (w : World) (va : Value) (ha : IsX e va w) (hn : e.leaves ≤ 8796093022200) : Calls Try.prog 17 #[va] w fun r w' => ∃ v, r = .returned v ∧ SlV w' 1 v (Ex.names [] e).length (strs (Ex.names [] e)) ∧ Below w.heap.size w w' := by
  obtain ⟨ca, rfl, h1⟩ := ha
  exact names_ok e w ca h1.read hn
set_option maxRecDepth 100000 in
set_option maxHeartbeats 4000000 in
theorem exprNames_walk (w : World) (cs : List Value) (e : Ex.X) (t : ByteArray) (x : Int) (v : Value) (zs : List Ex.Bd) (h : XR w.heap.size w cs e) (hv : SlV w 2 v zs.length (Ex.bindcs zs)) (he : e.leaves ≤ 8796093022200) (hr : zs.length + 1 ≤ 1000000000000) :
    Calls Try.prog 7 #[.agg cs.toArray, v, .agg #[.string t, .int .i64 x]] w fun r w' => r = .returned (.bool true) ∧ Below w.heap.size w w' := by
  obtain ⟨a0, a1, a2, A3, a4, a5, rfl, -, -⟩ := h.form
  obtain ⟨p0, q0, hz, hb0⟩ := allocs2 w (xcells a0 a1 a2 A3 a4 a5) [.string t, .int .i64 x] 38 54
  obtain ⟨p, hp⟩ : ∃ p, p = w.heap.size := ⟨_, rfl⟩
  rw [← hp] at p0 q0
  unfold xcells at p0 q0 hb0 h ⊢
  clear hz
  go_enter Try.func7, Try.ntmps7
  go_wp2_with fail
  refine (alive9_any _).mono ?_
  rintro r W ⟨rfl, hb1⟩
  have p1 := p0.below hb1
  have q1 := q0.below hb1
  have hbw1 := below_next hb1 hb0
  have r1 := (h.later hbw1).up hbw1.size
  have hv1 := hv.below hbw1
  rw [← hp]
  clear p0 q0 hb0 hb1 hp h hv
  have HB := Lib.hid hbw1
  have keepS : ∀ w', Below W.heap.size W w' → (Below W.heap.size W w' ∧ w'.cell? ⟨p, 0, none⟩ = some (.int .i64 a0) ∧ w'.cell? ⟨p, 1, none⟩ = some (.int .i64 a1) ∧ w'.cell? ⟨p, 2, none⟩ = some (.string a2) ∧ w'.cell? ⟨p, 3, none⟩ = some (.slice A3 a4 a5) ∧ w'.cell? ⟨p + 1, 0, none⟩ = some (.string t) ∧ w'.cell? ⟨p + 1, 1, none⟩ = some (.int .i64 x)) := fun w' hb => ⟨hb, ((p1.below hb).cell 0).trans rfl, ((p1.below hb).cell 1).trans rfl, ((p1.below hb).cell 2).trans rfl, ((p1.below hb).cell 3).trans rfl, ((q1.below hb).cell 0).trans rfl, ((q1.below hb).cell 1).trans rfl⟩
  have gN : ∀ w', Below W.heap.size W w' → Calls Try.prog 17 #[(.agg #[.int .i64 a0, .int .i64 a1, .string a2, .slice A3 a4 a5])] w' fun r w'' => ∃ v, r = .returned v ∧ SlV w'' 1 v (Ex.names [] e).length (strs (Ex.names [] e)) ∧ Below w'.heap.size w' w'' := fun w' hb =>
    names_ok e w' _ ((r1.later hb).up hb.size) he
  have gQ : ∀ (w' : World) (n : Int), Below W.heap.size W w' → Ex.rng n → Calls Try.prog 22 #[(.agg #[.int .i64 a0, .int .i64 a1, .string a2, .slice A3 a4 a5]), .string t, .agg (xcells 1 n ⟨#[]⟩ none 0 0).toArray] w' fun r w'' => ∃ v, r = .returned v ∧ IsX (Ex.put t.data.toList (.num n) e) v w'' ∧ Below w'.heap.size w' w'' := fun w' n hb hn =>
    put_ok e (.num n) w' _ _ t ((r1.later hb).up hb.size) (.num n ⟨#[]⟩ none 0 0 (Nat.le_refl _) (Nat.zero_le _) hn)
  have gQ0 : ∀ (w' : World), Below W.heap.size W w' → Calls Try.prog 22 #[(.agg #[.int .i64 a0, .int .i64 a1, .string a2, .slice A3 a4 a5]), .string ⟨#[]⟩, .agg (xcells 2 0 ⟨#[]⟩ none 0 0).toArray] w' fun r w'' => ∃ v, r = .returned v ∧ IsX (Ex.copy e) v w'' ∧ Below w'.heap.size w' w'' := fun w' hb => by
    have := put_ok e (.name (⟨#[]⟩ : ByteArray).data.toList) w' _ _ ⟨#[]⟩ ((r1.later hb).up hb.size) (.name 0 ⟨#[]⟩ none 0 0 (Nat.le_refl _) (Nat.zero_le _))
    rwa [Ex.put_same] at this
  have hS0 := keepS _ (below_drew (Below.refl _ _))
  have ho := Ex.occ_names t e
  rcases hocc : Ex.occ t.data.toList e with _ | _
  · have hno : Ex.put t.data.toList (.num 1) e = Ex.copy e := Ex.put_none _ _ e hocc
    obtain ⟨y, hyy⟩ : ∃ y, y = Ex.evl (Ex.bs zs) e := ⟨_, rfl⟩
    have hy2 : Ex.evl (Ex.bs (zs ++ [(t, x)])) e = y := by rw [hyy, Ex.bs_snoc]; exact Ex.evl_none _ _ _ e hocc
    have gB : ∀ w', Below W.heap.size W w' → Calls Try.prog 14 #[(.agg #[.int .i64 a0, .int .i64 a1, .string a2, .slice A3 a4 a5]), v] w' fun r w'' => r = .returned (.int .i64 y) ∧ Below w'.heap.size w' w'' := fun w' hb => by
      rw [hyy]
      exact eval_ok v zs (by omega) e w' _ ((r1.later hb).up hb.size) (hv1.below hb)
    have gA : ∀ w' v', Below W.heap.size W w' → SlV w' 2 v' (zs.length + 1) (Ex.bindcs (zs ++ [(t, x)])) → Calls Try.prog 14 #[(.agg #[.int .i64 a0, .int .i64 a1, .string a2, .slice A3 a4 a5]), v'] w' fun r w'' => r = .returned (.int .i64 y) ∧ Below w'.heap.size w' w'' := fun w' v' hb hs => by
      rw [← hy2]
      exact eval_ok v' (zs ++ [(t, x)]) (by simp; omega) e w' _ ((r1.later hb).up hb.size) (by simpa using hs)
    have gC : ∀ B w', Below W.heap.size W w' → B ≤ w'.heap.size → Calls Try.prog 23 #[v] w' fun r w'' => ∃ u, r = .returned u ∧ w''.ownsRow B 54 2 u zs.length (Ex.bindcs zs) ∧ Below w'.heap.size w' w'' := fun B w' hb hB =>
      (clone_bind v zs.length _ w' (hv1.below hb) (bindcs_one zs) (by omega)).mono fun r w'' ⟨u, h1, h2, h3⟩ => ⟨u, h1, own_base h2 hB, h3⟩
    have n63 : zs.length + 1 ≤ maxLen := by unfold maxLen; omega
    have n47 : (zs.length + 1) * 24 ≤ 140737488355328 := by omega
    rw [hocc] at ho
    have HO := Lib.hid ho
    have HN := Lib.hid hno
    have keepF : ∀ w1, Below W.heap.size W w1 → ∀ w', Below w1.heap.size w1 w' → (Below w1.heap.size w1 w' ∧ w'.cell? ⟨p, 0, none⟩ = some (.int .i64 a0) ∧ w'.cell? ⟨p, 1, none⟩ = some (.int .i64 a1) ∧ w'.cell? ⟨p, 2, none⟩ = some (.string a2) ∧ w'.cell? ⟨p, 3, none⟩ = some (.slice A3 a4 a5) ∧ w'.cell? ⟨p + 1, 0, none⟩ = some (.string t) ∧ w'.cell? ⟨p + 1, 1, none⟩ = some (.int .i64 x)) := fun w1 hb1 w' hb => ⟨hb, keepS w' (below_next hb hb1) |>.2⟩
    have hS1 := fun w1 (hb : Below W.heap.size W w1) => keepF w1 hb _ (below_drew (Below.refl _ _))
    clear p1 q1 hbw1 r1 hv1 hyy hy2 ho hno hocc
    go_wp2_with fail
    refine wp_walk (by kernel_rfl) (by kernel_rfl) (fun w w' => Below w.heap.size w w') (fun w' => (Below W.heap.size W w' ∧ w'.cell? ⟨p, 0, none⟩ = some (.int .i64 a0) ∧ w'.cell? ⟨p, 1, none⟩ = some (.int .i64 a1) ∧ w'.cell? ⟨p, 2, none⟩ = some (.string a2) ∧ w'.cell? ⟨p, 3, none⟩ = some (.slice A3 a4 a5) ∧ w'.cell? ⟨p + 1, 0, none⟩ = some (.string t) ∧ w'.cell? ⟨p + 1, 1, none⟩ = some (.int .i64 x))) hS0 ?_
    repeat (first | (refine settle_skip (fun _ => by rfl) ?_; (simp only [Act.put, List.setIfInBounds_toArray, List.set_cons_zero, List.set_cons_succ])) | (refine' settle_run (fun _ _ => Below.refl _ _) (fun _ => by rfl) ?_ ?_; rotate_left; (focus (intro ρ w hS hF; (try dsimp only at hS); go_split_ands; go_simp; try with_reducible rfl)); (simp only [Act.put, List.setIfInBounds_toArray, List.set_cons_zero, List.set_cons_succ])))
    (refine settle_known (FSl 1 (Ex.names [] e).length (strs (Ex.names [] e))) (by rfl) (fun _ => by rfl) ?_ ?_; (focus (intro ρ w hS hF K hK; (simp only [Act.put, List.setIfInBounds_toArray, List.set_cons_zero, List.set_cons_succ] at hK); go_simp; (refine (gN _ hS.1).mono ?_; rintro e w' ⟨v, rfl, hF', hb'⟩; exact hK _ _ hF' (keepS _ (below_next hb' hS.1)) hb'))); (simp only [Act.put, List.setIfInBounds_toArray, List.set_cons_zero, List.set_cons_succ]))
    repeat (first | (refine settle_skip (fun _ => by rfl) ?_; (simp only [Act.put, List.setIfInBounds_toArray, List.set_cons_zero, List.set_cons_succ])) | (refine' settle_run (fun _ _ => Below.refl _ _) (fun _ => by rfl) ?_ ?_; rotate_left; (focus (intro ρ w hS hF; (try dsimp only at hS); go_split_ands; go_simp; try with_reducible rfl)); (simp only [Act.put, List.setIfInBounds_toArray, List.set_cons_zero, List.set_cons_succ])))
    (refine' settle_step (fun _ => by rfl) ?_ ?_; rotate_left; (focus (intro ρ w hS hF K hK; (simp only [Act.put, List.setIfInBounds_toArray, List.set_cons_zero, List.set_cons_succ] at hK); go_simp; go_at_call 24; refine (contains_str _ _ t _ (hF.1 (by rfl))).mono ?_; rw [HO.out]; rintro e w6 ⟨rfl, m, rfl⟩; have hS' := keepS _ (below_drewN hS.1 m); have hE' := below_drewN (Below.refl w.heap.size w) m; exact hK _ hS' hE')); (simp only [Act.put, List.setIfInBounds_toArray, List.set_cons_zero, List.set_cons_succ]))
    repeat (first | (refine settle_skip (fun _ => by rfl) ?_; (simp only [Act.put, List.setIfInBounds_toArray, List.set_cons_zero, List.set_cons_succ])) | (refine' settle_run (fun _ _ => Below.refl _ _) (fun _ => by rfl) ?_ ?_; rotate_left; (focus (intro ρ w hS hF; (try dsimp only at hS); go_split_ands; go_simp; try with_reducible rfl)); (simp only [Act.put, List.setIfInBounds_toArray, List.set_cons_zero, List.set_cons_succ])))
    refine settle_nil ?_
    intro ρ W1 hS _
    have hbW1 := hS.1
    have hS2 := hS1 _ hbW1
    clear hS hS0 hS1
    dsimp only
    go_wp2_with fail
    refine wp_walk_marks (fun i => [8].contains i) (fun i => ([3] : List Nat).contains i) [8] (by intro m h; simpa using h) (by kernel_rfl) (by kernel_rfl) (by kernel_rfl) (fun w w' => Below w.heap.size w w') (fun w' => (Below W1.heap.size W1 w' ∧ w'.cell? ⟨p, 0, none⟩ = some (.int .i64 a0) ∧ w'.cell? ⟨p, 1, none⟩ = some (.int .i64 a1) ∧ w'.cell? ⟨p, 2, none⟩ = some (.string a2) ∧ w'.cell? ⟨p, 3, none⟩ = some (.slice A3 a4 a5) ∧ w'.cell? ⟨p + 1, 0, none⟩ = some (.string t) ∧ w'.cell? ⟨p + 1, 1, none⟩ = some (.int .i64 x))) hS2 ?_
    repeat (first | (refine msettle_skip (by rfl) (fun _ => by rfl) ?_; (simp only [Act.put, List.setIfInBounds_toArray, List.set_cons_zero, List.set_cons_succ])) | (refine' msettle_run (by rfl) (fun _ _ => Below.refl _ _) (fun _ => by rfl) ?_ ?_; rotate_left; (focus (intro ρ w hS hF; (try dsimp only at hS); go_split_ands; go_simp; try with_reducible rfl)); (simp only [Act.put, List.setIfInBounds_toArray, List.set_cons_zero, List.set_cons_succ])))
    (refine' msettle_step (by rfl) (fun _ => by rfl) ?_ ?_; rotate_left; (focus (intro ρ w hS hF K hK; (simp only [Act.put, List.setIfInBounds_toArray, List.set_cons_zero, List.set_cons_succ] at hK); go_simp; go_at_call 14; refine (gB _ (below_next hS.1 hbW1)).mono ?_; rintro e w6 ⟨rfl, hb6⟩; have hS' := keepF _ hbW1 _ (below_next hb6 hS.1); have hE' := hb6; exact hK _ hS' hE')); (simp only [Act.put, List.setIfInBounds_toArray, List.set_cons_zero, List.set_cons_succ]))
    repeat (first | (refine msettle_skip (by rfl) (fun _ => by rfl) ?_; (simp only [Act.put, List.setIfInBounds_toArray, List.set_cons_zero, List.set_cons_succ])) | (refine' msettle_run (by rfl) (fun _ _ => Below.refl _ _) (fun _ => by rfl) ?_ ?_; rotate_left; (focus (intro ρ w hS hF; (try dsimp only at hS); go_split_ands; go_simp; try with_reducible rfl)); (simp only [Act.put, List.setIfInBounds_toArray, List.set_cons_zero, List.set_cons_succ])))
    (refine msettle_known (FRow W1.heap.size 54 2 zs.length (Ex.bindcs zs)) (by rfl) (by rfl) (fun _ => by rfl) ?_ ?_; (focus (intro ρ w hS hF K hK; (simp only [Act.put, List.setIfInBounds_toArray, List.set_cons_zero, List.set_cons_succ] at hK); go_simp; (refine (gC W1.heap.size _ (below_next hS.1 hbW1) hS.1.size).mono ?_; rintro e w' ⟨v, rfl, hF', hb'⟩; exact hK _ _ hF' (keepF _ hbW1 _ (below_next hb' hS.1)) hb'))); (simp only [Act.put, List.setIfInBounds_toArray, List.set_cons_zero, List.set_cons_succ]))
    repeat (first | (refine msettle_skip (by rfl) (fun _ => by rfl) ?_; (simp only [Act.put, List.setIfInBounds_toArray, List.set_cons_zero, List.set_cons_succ])) | (refine' msettle_run (by rfl) (fun _ _ => Below.refl _ _) (fun _ => by rfl) ?_ ?_; rotate_left; (focus (intro ρ w hS hF; (try dsimp only at hS); go_split_ands; go_simp; try with_reducible rfl)); (simp only [Act.put, List.setIfInBounds_toArray, List.set_cons_zero, List.set_cons_succ])))
    (refine msettle_known (FSl 2 1 [.string t, .int .i64 x]) (by rfl) (by rfl) (fun _ => by rfl) ?_ ?_; (focus (intro ρ w hS hF K hK; (simp only [Act.put, List.setIfInBounds_toArray, List.set_cons_zero, List.set_cons_succ] at hK); go_simp; exact hK _ _ (SlV.lit _ [.string t, .int .i64 x] _ 2 1 rfl (by decide)) (keepF _ hbW1 _ (below_alloc hS.1 _)) (below_alloc (Below.refl _ _) _))); (simp only [Act.put, List.setIfInBounds_toArray, List.set_cons_zero, List.set_cons_succ]))
    (refine msettle_mark (FSl 2 (zs.length + 1) (Ex.bindcs (zs ++ [(t, x)]))) (by rfl) (by rfl) (fun _ => by rfl) ?_ ?_; (focus (intro ρ w hS hF K hK; refine oper_append (.tmp 29) (.tmp 31) W1.heap.size _ _ _ _ _ Try.underlying39 info_bind rfl (by decide) (hF.2.1 (by rfl)) (hF.1 (by rfl)) (bindcs_one [(t, x)]) n63 n47 hS.1.size rfl rfl rfl ?_; intro v' w' hown _ _ hb; exact hK v' w' (by rw [Ex.bindcs_snoc]; exact SlV.of_own hown) (keepF _ hbW1 _ (hS.1.trans hb)))); (simp only [Act.put, List.setIfInBounds_toArray, List.set_cons_zero, List.set_cons_succ]))
    (refine' msettle_step (by rfl) (fun _ => by rfl) ?_ ?_; rotate_left; (focus (intro ρ w hS hF K hK; (simp only [Act.put, List.setIfInBounds_toArray, List.set_cons_zero, List.set_cons_succ] at hK); go_simp; go_at_call 14; refine (gA _ _ (below_next hS.1 hbW1) (hF.1 (by rfl))).mono ?_; rintro e w6 ⟨rfl, hb6⟩; have hS' := keepF _ hbW1 _ (below_next hb6 hS.1); have hE' := hb6; exact hK _ hS' hE')); (simp only [Act.put, List.setIfInBounds_toArray, List.set_cons_zero, List.set_cons_succ]))
    repeat (first | (refine msettle_skip (by rfl) (fun _ => by rfl) ?_; (simp only [Act.put, List.setIfInBounds_toArray, List.set_cons_zero, List.set_cons_succ])) | (refine' msettle_run (by rfl) (fun _ _ => Below.refl _ _) (fun _ => by rfl) ?_ ?_; rotate_left; (focus (intro ρ w hS hF; (try dsimp only at hS); go_split_ands; go_simp; try with_reducible rfl)); (simp only [Act.put, List.setIfInBounds_toArray, List.set_cons_zero, List.set_cons_succ])))
    (refine' msettle_step (by rfl) (fun _ => by rfl) ?_ ?_; rotate_left; (focus (intro ρ w hS hF K hK; (simp only [Act.put, List.setIfInBounds_toArray, List.set_cons_zero, List.set_cons_succ] at hK); go_simp; go_at_call 25; refine (num_any _ _).mono ?_; rintro e w6 ⟨rfl, hb6⟩; have hS' := keepF _ hbW1 _ (below_next hb6 hS.1); have hE' := hb6; exact hK _ hS' hE')); (simp only [Act.put, List.setIfInBounds_toArray, List.set_cons_zero, List.set_cons_succ]))
    (refine msettle_known (FX (Ex.copy e)) (by rfl) (by rfl) (fun _ => by rfl) ?_ ?_; (focus (intro ρ w hS hF K hK; (simp only [Act.put, List.setIfInBounds_toArray, List.set_cons_zero, List.set_cons_succ] at hK); go_simp; (refine (gQ _ 1 (below_next hS.1 hbW1) (by unfold Ex.rng; omega)).mono ?_; rw [HN.out]; rintro e w' ⟨v, rfl, hF', hb'⟩; exact hK _ _ hF' (keepF _ hbW1 _ (below_next hb' hS.1)) hb'))); (simp only [Act.put, List.setIfInBounds_toArray, List.set_cons_zero, List.set_cons_succ]))
    repeat (first | (refine msettle_skip (by rfl) (fun _ => by rfl) ?_; (simp only [Act.put, List.setIfInBounds_toArray, List.set_cons_zero, List.set_cons_succ])) | (refine' msettle_run (by rfl) (fun _ _ => Below.refl _ _) (fun _ => by rfl) ?_ ?_; rotate_left; (focus (intro ρ w hS hF; (try dsimp only at hS); go_split_ands; go_simp; try with_reducible rfl)); (simp only [Act.put, List.setIfInBounds_toArray, List.set_cons_zero, List.set_cons_succ])))
    (refine' msettle_step (by rfl) (fun _ => by rfl) ?_ ?_; rotate_left; (focus (intro ρ w hS hF K hK; (simp only [Act.put, List.setIfInBounds_toArray, List.set_cons_zero, List.set_cons_succ] at hK); go_simp; go_at_call 26; refine (nam_any _ _).mono ?_; rintro e w6 ⟨rfl, hb6⟩; have hS' := keepF _ hbW1 _ (below_next hb6 hS.1); have hE' := hb6; exact hK _ hS' hE')); (simp only [Act.put, List.setIfInBounds_toArray, List.set_cons_zero, List.set_cons_succ]))
    (refine msettle_known (FX (Ex.copy e)) (by rfl) (by rfl) (fun _ => by rfl) ?_ ?_; (focus (intro ρ w hS hF K hK; (simp only [Act.put, List.setIfInBounds_toArray, List.set_cons_zero, List.set_cons_succ] at hK); go_simp; (refine (gQ0 _ (below_next hS.1 hbW1)).mono ?_; rintro e w' ⟨v, rfl, hF', hb'⟩; exact hK _ _ hF' (keepF _ hbW1 _ (below_next hb' hS.1)) hb'))); (simp only [Act.put, List.setIfInBounds_toArray, List.set_cons_zero, List.set_cons_succ]))
    (refine' msettle_step (by rfl) (fun _ => by rfl) ?_ ?_; rotate_left; (focus (intro ρ w hS hF K hK; (simp only [Act.put, List.setIfInBounds_toArray, List.set_cons_zero, List.set_cons_succ] at hK); go_simp; go_at_call 15; refine (same_call _ _ true (by simp) _ _ _ (hF.2.1 (by rfl)) (hF.1 (by rfl))).mono ?_; rintro e w6 ⟨rfl, hb6⟩; have hS' := keepF _ hbW1 _ (below_next hb6 hS.1); have hE' := hb6; exact hK _ hS' hE')); (simp only [Act.put, List.setIfInBounds_toArray, List.set_cons_zero, List.set_cons_succ]))
    repeat (first | (refine msettle_skip (by rfl) (fun _ => by rfl) ?_; (simp only [Act.put, List.setIfInBounds_toArray, List.set_cons_zero, List.set_cons_succ])) | (refine' msettle_run (by rfl) (fun _ _ => Below.refl _ _) (fun _ => by rfl) ?_ ?_; rotate_left; (focus (intro ρ w hS hF; (try dsimp only at hS); go_split_ands; go_simp; try with_reducible rfl)); (simp only [Act.put, List.setIfInBounds_toArray, List.set_cons_zero, List.set_cons_succ])))
    refine msettle_nil ?_
    intro ρ w4 hS _
    have hS1 := below_next hS.1 hbW1
    clear keepS keepF gA gB gC gN gQ gQ0 hS hS2
    dsimp only
    go_wp2
    go_ret
    exact ⟨rfl, HB.out.trans (hS1.mono HB.out.size)⟩
  · have hno : Ex.has t (Ex.names [] (Ex.put t.data.toList (.num 1) e)) = false := by rw [Ex.occ_names]; exact Ex.occ_put _ _ e
    have hlv : (Ex.put t.data.toList (.num 1) e).leaves ≤ 8796093022200 := by rw [Ex.put_leaves]; exact he
    rw [hocc] at ho
    have HO := Lib.hid ho
    have HN := Lib.hid hno
    have keepF : ∀ w1, Below W.heap.size W w1 → ∀ w', Below w1.heap.size w1 w' → (Below w1.heap.size w1 w' ∧ w'.cell? ⟨p, 0, none⟩ = some (.int .i64 a0) ∧ w'.cell? ⟨p, 1, none⟩ = some (.int .i64 a1) ∧ w'.cell? ⟨p, 2, none⟩ = some (.string a2) ∧ w'.cell? ⟨p, 3, none⟩ = some (.slice A3 a4 a5) ∧ w'.cell? ⟨p + 1, 0, none⟩ = some (.string t) ∧ w'.cell? ⟨p + 1, 1, none⟩ = some (.int .i64 x)) := fun w1 hb1 w' hb => ⟨hb, keepS w' (below_next hb hb1) |>.2⟩
    have hS1 := fun w1 (hb : Below W.heap.size W w1) => keepF w1 hb _ (below_drew (Below.refl _ _))
    clear p1 q1 hbw1 r1 hv1 ho hno hocc
    go_wp2_with fail
    refine wp_walk (by kernel_rfl) (by kernel_rfl) (fun w w' => Below w.heap.size w w') (fun w' => (Below W.heap.size W w' ∧ w'.cell? ⟨p, 0, none⟩ = some (.int .i64 a0) ∧ w'.cell? ⟨p, 1, none⟩ = some (.int .i64 a1) ∧ w'.cell? ⟨p, 2, none⟩ = some (.string a2) ∧ w'.cell? ⟨p, 3, none⟩ = some (.slice A3 a4 a5) ∧ w'.cell? ⟨p + 1, 0, none⟩ = some (.string t) ∧ w'.cell? ⟨p + 1, 1, none⟩ = some (.int .i64 x))) hS0 ?_
    repeat (first | (refine settle_skip (fun _ => by rfl) ?_; (simp only [Act.put, List.setIfInBounds_toArray, List.set_cons_zero, List.set_cons_succ])) | (refine' settle_run (fun _ _ => Below.refl _ _) (fun _ => by rfl) ?_ ?_; rotate_left; (focus (intro ρ w hS hF; (try dsimp only at hS); go_split_ands; go_simp; try with_reducible rfl)); (simp only [Act.put, List.setIfInBounds_toArray, List.set_cons_zero, List.set_cons_succ])))
    (refine settle_known (FSl 1 (Ex.names [] e).length (strs (Ex.names [] e))) (by rfl) (fun _ => by rfl) ?_ ?_; (focus (intro ρ w hS hF K hK; (simp only [Act.put, List.setIfInBounds_toArray, List.set_cons_zero, List.set_cons_succ] at hK); go_simp; (refine (gN _ hS.1).mono ?_; rintro e w' ⟨v, rfl, hF', hb'⟩; exact hK _ _ hF' (keepS _ (below_next hb' hS.1)) hb'))); (simp only [Act.put, List.setIfInBounds_toArray, List.set_cons_zero, List.set_cons_succ]))
    repeat (first | (refine settle_skip (fun _ => by rfl) ?_; (simp only [Act.put, List.setIfInBounds_toArray, List.set_cons_zero, List.set_cons_succ])) | (refine' settle_run (fun _ _ => Below.refl _ _) (fun _ => by rfl) ?_ ?_; rotate_left; (focus (intro ρ w hS hF; (try dsimp only at hS); go_split_ands; go_simp; try with_reducible rfl)); (simp only [Act.put, List.setIfInBounds_toArray, List.set_cons_zero, List.set_cons_succ])))
    (refine' settle_step (fun _ => by rfl) ?_ ?_; rotate_left; (focus (intro ρ w hS hF K hK; (simp only [Act.put, List.setIfInBounds_toArray, List.set_cons_zero, List.set_cons_succ] at hK); go_simp; go_at_call 24; refine (contains_str _ _ t _ (hF.1 (by rfl))).mono ?_; rw [HO.out]; rintro e w6 ⟨rfl, m, rfl⟩; have hS' := keepS _ (below_drewN hS.1 m); have hE' := below_drewN (Below.refl w.heap.size w) m; exact hK _ hS' hE')); (simp only [Act.put, List.setIfInBounds_toArray, List.set_cons_zero, List.set_cons_succ]))
    repeat (first | (refine settle_skip (fun _ => by rfl) ?_; (simp only [Act.put, List.setIfInBounds_toArray, List.set_cons_zero, List.set_cons_succ])) | (refine' settle_run (fun _ _ => Below.refl _ _) (fun _ => by rfl) ?_ ?_; rotate_left; (focus (intro ρ w hS hF; (try dsimp only at hS); go_split_ands; go_simp; try with_reducible rfl)); (simp only [Act.put, List.setIfInBounds_toArray, List.set_cons_zero, List.set_cons_succ])))
    refine settle_nil ?_
    intro ρ W1 hS _
    have hbW1 := hS.1
    have hS2 := hS1 _ hbW1
    clear hS hS0 hS1
    dsimp only
    go_wp2_with fail
    refine wp_walk (by kernel_rfl) (by kernel_rfl) (fun w w' => Below w.heap.size w w') (fun w' => (Below W1.heap.size W1 w' ∧ w'.cell? ⟨p, 0, none⟩ = some (.int .i64 a0) ∧ w'.cell? ⟨p, 1, none⟩ = some (.int .i64 a1) ∧ w'.cell? ⟨p, 2, none⟩ = some (.string a2) ∧ w'.cell? ⟨p, 3, none⟩ = some (.slice A3 a4 a5) ∧ w'.cell? ⟨p + 1, 0, none⟩ = some (.string t) ∧ w'.cell? ⟨p + 1, 1, none⟩ = some (.int .i64 x))) hS2 ?_
    repeat (first | (refine settle_skip (fun _ => by rfl) ?_; (simp only [Act.put, List.setIfInBounds_toArray, List.set_cons_zero, List.set_cons_succ])) | (refine' settle_run (fun _ _ => Below.refl _ _) (fun _ => by rfl) ?_ ?_; rotate_left; (focus (intro ρ w hS hF; (try dsimp only at hS); go_split_ands; go_simp; try with_reducible rfl)); (simp only [Act.put, List.setIfInBounds_toArray, List.set_cons_zero, List.set_cons_succ])))
    (refine' settle_step (fun _ => by rfl) ?_ ?_; rotate_left; (focus (intro ρ w hS hF K hK; (simp only [Act.put, List.setIfInBounds_toArray, List.set_cons_zero, List.set_cons_succ] at hK); go_simp; go_at_call 25; refine (num_any _ _).mono ?_; rintro e w6 ⟨rfl, hb6⟩; have hS' := keepF _ hbW1 _ (below_next hb6 hS.1); have hE' := hb6; exact hK _ hS' hE')); (simp only [Act.put, List.setIfInBounds_toArray, List.set_cons_zero, List.set_cons_succ]))
    (refine settle_known (FX (Ex.put t.data.toList (.num 1) e)) (by rfl) (fun _ => by rfl) ?_ ?_; (focus (intro ρ w hS hF K hK; (simp only [Act.put, List.setIfInBounds_toArray, List.set_cons_zero, List.set_cons_succ] at hK); go_simp; (refine (gQ _ 1 (below_next hS.1 hbW1) (by unfold Ex.rng; omega)).mono ?_; rintro e w' ⟨v, rfl, hF', hb'⟩; exact hK _ _ hF' (keepF _ hbW1 _ (below_next hb' hS.1)) hb'))); (simp only [Act.put, List.setIfInBounds_toArray, List.set_cons_zero, List.set_cons_succ]))
    (refine settle_known (FSl 1 (Ex.names [] (Ex.put t.data.toList (.num 1) e)).length (strs (Ex.names [] (Ex.put t.data.toList (.num 1) e)))) (by rfl) (fun _ => by rfl) ?_ ?_; (focus (intro ρ w hS hF K hK; (simp only [Act.put, List.setIfInBounds_toArray, List.set_cons_zero, List.set_cons_succ] at hK); go_simp; (refine (names_call _ _ _ (hF.1 (by rfl)) hlv).mono ?_; rintro e w' ⟨v, rfl, hF', hb'⟩; exact hK _ _ hF' (keepF _ hbW1 _ (below_next hb' hS.1)) hb'))); (simp only [Act.put, List.setIfInBounds_toArray, List.set_cons_zero, List.set_cons_succ]))
    repeat (first | (refine settle_skip (fun _ => by rfl) ?_; (simp only [Act.put, List.setIfInBounds_toArray, List.set_cons_zero, List.set_cons_succ])) | (refine' settle_run (fun _ _ => Below.refl _ _) (fun _ => by rfl) ?_ ?_; rotate_left; (focus (intro ρ w hS hF; (try dsimp only at hS); go_split_ands; go_simp; try with_reducible rfl)); (simp only [Act.put, List.setIfInBounds_toArray, List.set_cons_zero, List.set_cons_succ])))
    (refine' settle_step (fun _ => by rfl) ?_ ?_; rotate_left; (focus (intro ρ w hS hF K hK; (simp only [Act.put, List.setIfInBounds_toArray, List.set_cons_zero, List.set_cons_succ] at hK); go_simp; go_at_call 24; refine (contains_str _ _ t _ (hF.1 (by rfl))).mono ?_; rw [HN.out]; rintro e w6 ⟨rfl, m, rfl⟩; have hS' := keepF _ hbW1 _ (below_drewN hS.1 m); have hE' := below_drewN (Below.refl w.heap.size w) m; exact hK _ hS' hE')); (simp only [Act.put, List.setIfInBounds_toArray, List.set_cons_zero, List.set_cons_succ]))
    repeat (first | (refine settle_skip (fun _ => by rfl) ?_; (simp only [Act.put, List.setIfInBounds_toArray, List.set_cons_zero, List.set_cons_succ])) | (refine' settle_run (fun _ _ => Below.refl _ _) (fun _ => by rfl) ?_ ?_; rotate_left; (focus (intro ρ w hS hF; (try dsimp only at hS); go_split_ands; go_simp; try with_reducible rfl)); (simp only [Act.put, List.setIfInBounds_toArray, List.set_cons_zero, List.set_cons_succ])))
    refine settle_nil ?_
    intro ρ w4 hS _
    have hS1 := below_next hS.1 hbW1
    clear keepS keepF gN gQ gQ0 hS hS2
    dsimp only
    go_wp2
    go_ret
    exact ⟨rfl, HB.out.trans (hS1.mono HB.out.size)⟩
end Go.Proofs.Ytniekhedpdkmiaa
