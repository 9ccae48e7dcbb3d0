/-
  What the laws hang on: that the package is alive.
-/
import Derived.Test.YtniekhedpdkmiaaEx23
namespace Go.Proofs.Ytniekhedpdkmiaa
set_option linter.unusedVariables false
set_option linter.unusedSimpArgs false
open Go.RowKit

def FSl (sz n : Nat) (vs : List Value) : Fact (fun w w' => Below w.heap.size w w') := ⟨fun v w => SlV w sz v n vs, fun _ _ _ h k => h.below k⟩
def Ex.fold (e : Ex.X) : Ex.X := Ex.reb (fun x => x) Ex.fcb e
def Ex.alive : Ex.X := .two 3 (.num 2) (.two 5 (.num 3) (.name [120]))
def Ex.two5 : List Ex.Bd := [(⟨#[120]⟩, 5), (⟨#[120]⟩, 4)]
theorem Ex.alive_evl : Ex.evl (Ex.bs Ex.two5) Ex.alive = 14 := by decide +kernel
theorem Ex.alive_names : Ex.names [] Ex.alive = [⟨#[120]⟩] := by decide +kernel
theorem Ex.alive_fold : Ex.fold (Ex.put (⟨#[120]⟩ : ByteArray).data.toList (.num 1) Ex.alive) = .num 5 := by decide +kernel
theorem same_call (e f : Ex.X) (b : Bool) (hb : b = true ↔ e = f) (w : World) (va vb : Value) (ha : IsX e va w) (hb' : IsX f vb w) : Calls Try.prog 15 #[va, vb] w fun r w' => r = .returned (.bool b) ∧ Below w.heap.size w w' := by
  obtain ⟨ca, rfl, h1⟩ := ha
  obtain ⟨cb, rfl, h2⟩ := hb'
  exact same_ok e f b hb w ca cb h1 h2
theorem fold_call (e : Ex.X) (w : World) (va : Value) (ha : IsX e va w) : Calls Try.prog 13 #[va] w fun r w' => ∃ v, r = .returned v ∧ IsX (Ex.fold e) v w' ∧ Below w.heap.size w w' := by
  obtain ⟨ca, rfl, h1⟩ := ha
  exact fold_ok e w ca h1.read
theorem equal_call (v v' : Value) (xs ys : List ByteArray) (b : Bool) (hb : (decide (xs = ys)) = b) (w : World) (h : SlV w 1 v xs.length (strs xs)) (h' : SlV w 1 v' ys.length (strs ys)) :
    Calls Try.prog 16 #[v, v'] w fun e w' => e = .returned (.bool b) ∧ ∃ m, w' = w.drewN m := by
  subst hb
  exact equal_strs v v' xs ys w h h'
theorem num_is (n : Int) (hn : Ex.rng n) (w : World) : IsX (.num n) (.agg (xcells 1 n ⟨#[]⟩ none 0 0).toArray) w := ⟨_, rfl, .num n ⟨#[]⟩ none 0 0 (Nat.le_refl _) (Nat.zero_le _) hn⟩

set_option maxRecDepth 100000 in
set_option maxHeartbeats 4000000 in
theorem alive9_any (w : World) : Calls Try.prog 12 #[] w fun e w' => e = .returned (.bool true) ∧ Below w.heap.size w w' := by
  go_enter Try.func12, Try.ntmps12
  go_wp2_with fail
  refine (num_any 2 _).mono ?_
  rintro e w1 ⟨rfl, hb1⟩
  go_wp2_with fail
  refine (num_any 3 _).mono ?_
  rintro e w2 ⟨rfl, hb2⟩
  go_wp2_with fail
  refine (nam_any _ _).mono ?_
  rintro e w3 ⟨rfl, hb3⟩
  go_wp2_with fail
  refine (both_any (N := true) 5 _ _ (.num 3) (.name [120]) w3 (.num 3 ⟨#[]⟩ none 0 0 (Nat.le_refl _) (Nat.zero_le _) (by unfold Ex.rng; omega)) (.name 0 ⟨#[120]⟩ none 0 0 (Nat.le_refl _) (Nat.zero_le _)) (by omega) (by omega)).mono ?_
  rintro e w4 ⟨ca, rfl, ha, hb4⟩
  go_wp2_with fail
  refine (both_any (N := true) 3 _ _ (.num 2) _ w4 (.num 2 ⟨#[]⟩ none 0 0 (Nat.le_refl _) (Nat.zero_le _) (by unfold Ex.rng; omega)) ha (by omega) (by omega)).mono ?_
  rintro e w5 ⟨cs, rfl, hx, hb5⟩
  have hb : Below w.heap.size w w5 := below_next hb5 (below_next hb4 (below_next hb3 (below_next hb2 hb1)))
  obtain ⟨c0, c1, c2, C3, c4, c5, rfl, -, -⟩ := hx.form
  have p := Blk.new w5 38 (xcells c0 c1 c2 C3 c4 c5)
  have hx6 := (hx.alloc (Nat.le_refl _) (.cells (xcells c0 c1 c2 C3 c4 c5).toArray 38)).up (B' := (w5.alloc (.cells (xcells c0 c1 c2 C3 c4 c5).toArray 38)).heap.size) (by simp)
  have hb6 := below_alloc hb (.cells (xcells c0 c1 c2 C3 c4 c5).toArray 38)
  obtain ⟨q, hq⟩ : ∃ q, q = w5.heap.size := ⟨_, rfl⟩
  clear hb1 hb2 hb3 hb4 hb5 ha hx hb
  unfold xcells at p hx6 hb6 ⊢
  go_wp2_with fail
  rw [← hq] at p ⊢
  generalize (w5.alloc (.cells [Value.int .i64 c0, .int .i64 c1, .string c2, .slice C3 c4 c5].toArray 38)) = W at p hx6 hb6 ⊢
  clear hq w1 w2 w3 w4 w5
  have HB := Lib.hid hb6
  have keepS : ∀ w', Below W.heap.size W w' → (Below W.heap.size W w' ∧ w'.cell? ⟨q, 0, none⟩ = some (.int .i64 c0) ∧ w'.cell? ⟨q, 1, none⟩ = some (.int .i64 c1) ∧ w'.cell? ⟨q, 2, none⟩ = some (.string c2) ∧ w'.cell? ⟨q, 3, none⟩ = some (.slice C3 c4 c5)) := fun w' hb => ⟨hb, ((p.below hb).cell 0).trans rfl, ((p.below hb).cell 1).trans rfl, ((p.below hb).cell 2).trans rfl, ((p.below hb).cell 3).trans rfl⟩
  have gX : ∀ w', Below W.heap.size W w' → IsX Ex.alive (.agg #[.int .i64 c0, .int .i64 c1, .string c2, .slice C3 c4 c5]) w' := fun w' hb => ⟨_, rfl, (hx6.later hb).up hb.size⟩
  have gR : ∀ w', Below W.heap.size W w' → XR w'.heap.size w' [.int .i64 c0, .int .i64 c1, .string c2, .slice C3 c4 c5] Ex.alive := fun w' hb => ((hx6.later hb).up hb.size).read
  have hS0 := keepS _ (below_drew (Below.refl _ _))
  clear hx6 hb6 p
  refine wp_walk (by kernel_rfl) (by kernel_rfl) (fun w w' => Below w.heap.size w w') (fun w' => (Below W.heap.size W w' ∧ w'.cell? ⟨q, 0, none⟩ = some (.int .i64 c0) ∧ w'.cell? ⟨q, 1, none⟩ = some (.int .i64 c1) ∧ w'.cell? ⟨q, 2, none⟩ = some (.string c2) ∧ w'.cell? ⟨q, 3, none⟩ = some (.slice C3 c4 c5))) hS0 ?_
  repeat (first | (refine settle_skip (fun _ => by rfl) ?_; (simp only [Act.put, List.setIfInBounds_toArray, List.set_cons_zero, List.set_cons_succ])) | (refine' settle_run (fun _ _ => Below.refl _ _) (fun _ => by rfl) ?_ ?_; rotate_left; (focus (intro ρ w hS hF; (try dsimp only at hS); go_split_ands; go_simp; try with_reducible rfl)); (simp only [Act.put, List.setIfInBounds_toArray, List.set_cons_zero, List.set_cons_succ])) | (refine' settle_step (fun _ => by rfl) ?_ ?_; rotate_left; (focus (intro ρ w hS hF K hK; (simp only [Act.put, List.setIfInBounds_toArray, List.set_cons_zero, List.set_cons_succ] at hK); go_simp; first | (go_at_call 14; refine (eval_ok _ Ex.two5 (by decide) Ex.alive _ _ (gR _ hS.1) (hF.1 (by rfl))).mono ?_; rw [Ex.alive_evl]; rintro e w6 ⟨rfl, hb6⟩; have hS' := keepS _ (below_next hb6 hS.1); have hE' := hb6; exact hK _ hS' hE') | (go_at_call 16; refine (equal_call _ _ (Ex.names [] Ex.alive) [⟨#[120]⟩] true (by rw [Ex.alive_names]; rfl) _ (hF.2.1 (by rfl)) (hF.1 (by rfl))).mono ?_; rintro e w6 ⟨rfl, m, rfl⟩; have hS' := keepS _ (below_drewN hS.1 m); have hE' := below_drewN (Below.refl w.heap.size w) m; exact hK _ hS' hE') | (go_at_call 25; refine (num_any _ _).mono ?_; rintro e w6 ⟨rfl, hb6⟩; have hS' := keepS _ (below_next hb6 hS.1); have hE' := hb6; exact hK _ hS' hE') | (go_at_call 15; refine (same_call _ _ true (by rw [Ex.alive_fold]; simp) _ _ _ (hF.1 (by rfl)) (num_is 5 (by unfold Ex.rng; omega) _)).mono ?_; rintro e w6 ⟨rfl, hb6⟩; have hS' := keepS _ (below_next hb6 hS.1); have hE' := hb6; exact hK _ hS' hE'))); (simp only [Act.put, List.setIfInBounds_toArray, List.set_cons_zero, List.set_cons_succ])))
  (refine settle_known (FSl 2 2 (Ex.bindcs Ex.two5)) (by rfl) (fun _ => by rfl) ?_ ?_; (focus (intro ρ w hS hF K hK; (simp only [Act.put, List.setIfInBounds_toArray, List.set_cons_zero, List.set_cons_succ] at hK); go_simp; exact hK _ _ (SlV.lit _ (Ex.bindcs Ex.two5) _ 2 2 rfl (by decide)) (keepS _ (below_alloc hS.1 _)) (below_alloc (Below.refl _ _) _))); (simp only [Act.put, List.setIfInBounds_toArray, List.set_cons_zero, List.set_cons_succ]))
  repeat (first | (refine settle_skip (fun _ => by rfl) ?_; (simp only [Act.put, List.setIfInBounds_toArray, List.set_cons_zero, List.set_cons_succ])) | (refine' settle_run (fun _ _ => Below.refl _ _) (fun _ => by rfl) ?_ ?_; rotate_left; (focus (intro ρ w hS hF; (try dsimp only at hS); go_split_ands; go_simp; try with_reducible rfl)); (simp only [Act.put, List.setIfInBounds_toArray, List.set_cons_zero, List.set_cons_succ])) | (refine' settle_step (fun _ => by rfl) ?_ ?_; rotate_left; (focus (intro ρ w hS hF K hK; (simp only [Act.put, List.setIfInBounds_toArray, List.set_cons_zero, List.set_cons_succ] at hK); go_simp; first | (go_at_call 14; refine (eval_ok _ Ex.two5 (by decide) Ex.alive _ _ (gR _ hS.1) (hF.1 (by rfl))).mono ?_; rw [Ex.alive_evl]; rintro e w6 ⟨rfl, hb6⟩; have hS' := keepS _ (below_next hb6 hS.1); have hE' := hb6; exact hK _ hS' hE') | (go_at_call 16; refine (equal_call _ _ (Ex.names [] Ex.alive) [⟨#[120]⟩] true (by rw [Ex.alive_names]; rfl) _ (hF.2.1 (by rfl)) (hF.1 (by rfl))).mono ?_; rintro e w6 ⟨rfl, m, rfl⟩; have hS' := keepS _ (below_drewN hS.1 m); have hE' := below_drewN (Below.refl w.heap.size w) m; exact hK _ hS' hE') | (go_at_call 25; refine (num_any _ _).mono ?_; rintro e w6 ⟨rfl, hb6⟩; have hS' := keepS _ (below_next hb6 hS.1); have hE' := hb6; exact hK _ hS' hE') | (go_at_call 15; refine (same_call _ _ true (by rw [Ex.alive_fold]; simp) _ _ _ (hF.1 (by rfl)) (num_is 5 (by unfold Ex.rng; omega) _)).mono ?_; rintro e w6 ⟨rfl, hb6⟩; have hS' := keepS _ (below_next hb6 hS.1); have hE' := hb6; exact hK _ hS' hE'))); (simp only [Act.put, List.setIfInBounds_toArray, List.set_cons_zero, List.set_cons_succ])))
  (refine settle_known (FSl 1 (Ex.names [] Ex.alive).length (strs (Ex.names [] Ex.alive))) (by rfl) (fun _ => by rfl) ?_ ?_; (focus (intro ρ w hS hF K hK; (simp only [Act.put, List.setIfInBounds_toArray, List.set_cons_zero, List.set_cons_succ] at hK); go_simp; (refine (names_ok Ex.alive _ _ (gR _ hS.1) (by decide)).mono ?_; rintro e w' ⟨v, rfl, hF', hb'⟩; exact hK _ _ hF' (keepS _ (below_next hb' hS.1)) hb'))); (simp only [Act.put, List.setIfInBounds_toArray, List.set_cons_zero, List.set_cons_succ]))
  (refine settle_known (FSl 1 1 (strs [⟨#[120]⟩])) (by rfl) (fun _ => by rfl) ?_ ?_; (focus (intro ρ w hS hF K hK; (simp only [Act.put, List.setIfInBounds_toArray, List.set_cons_zero, List.set_cons_succ] at hK); go_simp; exact hK _ _ (SlV.lit _ (strs [⟨#[120]⟩]) _ 1 1 rfl (by decide)) (keepS _ (below_alloc hS.1 _)) (below_alloc (Below.refl _ _) _))); (simp only [Act.put, List.setIfInBounds_toArray, List.set_cons_zero, List.set_cons_succ]))
  repeat (first | (refine settle_skip (fun _ => by rfl) ?_; (simp only [Act.put, List.setIfInBounds_toArray, List.set_cons_zero, List.set_cons_succ])) | (refine' settle_run (fun _ _ => Below.refl _ _) (fun _ => by rfl) ?_ ?_; rotate_left; (focus (intro ρ w hS hF; (try dsimp only at hS); go_split_ands; go_simp; try with_reducible rfl)); (simp only [Act.put, List.setIfInBounds_toArray, List.set_cons_zero, List.set_cons_succ])) | (refine' settle_step (fun _ => by rfl) ?_ ?_; rotate_left; (focus (intro ρ w hS hF K hK; (simp only [Act.put, List.setIfInBounds_toArray, List.set_cons_zero, List.set_cons_succ] at hK); go_simp; first | (go_at_call 14; refine (eval_ok _ Ex.two5 (by decide) Ex.alive _ _ (gR _ hS.1) (hF.1 (by rfl))).mono ?_; rw [Ex.alive_evl]; rintro e w6 ⟨rfl, hb6⟩; have hS' := keepS _ (below_next hb6 hS.1); have hE' := hb6; exact hK _ hS' hE') | (go_at_call 16; refine (equal_call _ _ (Ex.names [] Ex.alive) [⟨#[120]⟩] true (by rw [Ex.alive_names]; rfl) _ (hF.2.1 (by rfl)) (hF.1 (by rfl))).mono ?_; rintro e w6 ⟨rfl, m, rfl⟩; have hS' := keepS _ (below_drewN hS.1 m); have hE' := below_drewN (Below.refl w.heap.size w) m; exact hK _ hS' hE') | (go_at_call 25; refine (num_any _ _).mono ?_; rintro e w6 ⟨rfl, hb6⟩; have hS' := keepS _ (below_next hb6 hS.1); have hE' := hb6; exact hK _ hS' hE') | (go_at_call 15; refine (same_call _ _ true (by rw [Ex.alive_fold]; simp) _ _ _ (hF.1 (by rfl)) (num_is 5 (by unfold Ex.rng; omega) _)).mono ?_; rintro e w6 ⟨rfl, hb6⟩; have hS' := keepS _ (below_next hb6 hS.1); have hE' := hb6; exact hK _ hS' hE'))); (simp only [Act.put, List.setIfInBounds_toArray, List.set_cons_zero, List.set_cons_succ])))
  (refine settle_known (FX (Ex.put (⟨#[120]⟩ : ByteArray).data.toList (.num 1) Ex.alive)) (by rfl) (fun _ => by rfl) ?_ ?_; (focus (intro ρ w hS hF K hK; (simp only [Act.put, List.setIfInBounds_toArray, List.set_cons_zero, List.set_cons_succ] at hK); go_simp; (refine (put_ok Ex.alive (.num 1) _ _ _ _ (gR _ hS.1) (.num 1 ⟨#[]⟩ none 0 0 (Nat.le_refl _) (Nat.zero_le _) (by unfold Ex.rng; omega))).mono ?_; rintro e w' ⟨v, rfl, hF', hb'⟩; exact hK _ _ hF' (keepS _ (below_next hb' hS.1)) hb'))); (simp only [Act.put, List.setIfInBounds_toArray, List.set_cons_zero, List.set_cons_succ]))
  (refine settle_known (FX (Ex.fold (Ex.put (⟨#[120]⟩ : ByteArray).data.toList (.num 1) Ex.alive))) (by rfl) (fun _ => by rfl) ?_ ?_; (focus (intro ρ w hS hF K hK; (simp only [Act.put, List.setIfInBounds_toArray, List.set_cons_zero, List.set_cons_succ] at hK); go_simp; (refine (fold_call _ _ _ (hF.1 (by rfl))).mono ?_; rintro e w' ⟨v, rfl, hF', hb'⟩; exact hK _ _ hF' (keepS _ (below_next hb' hS.1)) hb'))); (simp only [Act.put, List.setIfInBounds_toArray, List.set_cons_zero, List.set_cons_succ]))
  repeat (first | (refine settle_skip (fun _ => by rfl) ?_; (simp only [Act.put, List.setIfInBounds_toArray, List.set_cons_zero, List.set_cons_succ])) | (refine' settle_run (fun _ _ => Below.refl _ _) (fun _ => by rfl) ?_ ?_; rotate_left; (focus (intro ρ w hS hF; (try dsimp only at hS); go_split_ands; go_simp; try with_reducible rfl)); (simp only [Act.put, List.setIfInBounds_toArray, List.set_cons_zero, List.set_cons_succ])) | (refine' settle_step (fun _ => by rfl) ?_ ?_; rotate_left; (focus (intro ρ w hS hF K hK; (simp only [Act.put, List.setIfInBounds_toArray, List.set_cons_zero, List.set_cons_succ] at hK); go_simp; first | (go_at_call 14; refine (eval_ok _ Ex.two5 (by decide) Ex.alive _ _ (gR _ hS.1) (hF.1 (by rfl))).mono ?_; rw [Ex.alive_evl]; rintro e w6 ⟨rfl, hb6⟩; have hS' := keepS _ (below_next hb6 hS.1); have hE' := hb6; exact hK _ hS' hE') | (go_at_call 16; refine (equal_call _ _ (Ex.names [] Ex.alive) [⟨#[120]⟩] true (by rw [Ex.alive_names]; rfl) _ (hF.2.1 (by rfl)) (hF.1 (by rfl))).mono ?_; rintro e w6 ⟨rfl, m, rfl⟩; have hS' := keepS _ (below_drewN hS.1 m); have hE' := below_drewN (Below.refl w.heap.size w) m; exact hK _ hS' hE') | (go_at_call 25; refine (num_any _ _).mono ?_; rintro e w6 ⟨rfl, hb6⟩; have hS' := keepS _ (below_next hb6 hS.1); have hE' := hb6; exact hK _ hS' hE') | (go_at_call 15; refine (same_call _ _ true (by rw [Ex.alive_fold]; simp) _ _ _ (hF.1 (by rfl)) (num_is 5 (by unfold Ex.rng; omega) _)).mono ?_; rintro e w6 ⟨rfl, hb6⟩; have hS' := keepS _ (below_next hb6 hS.1); have hE' := hb6; exact hK _ hS' hE'))); (simp only [Act.put, List.setIfInBounds_toArray, List.set_cons_zero, List.set_cons_succ])))
  refine settle_nil ?_
  intro ρ w4 hS _
  have hS1 := hS.1
  clear keepS gX gR hS hS0
  dsimp only
  go_wp2
  go_ret
  exact ⟨rfl, HB.out.trans (hS1.mono HB.out.size)⟩
end Go.Proofs.Ytniekhedpdkmiaa
