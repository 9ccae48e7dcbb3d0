/-
  expr.rebuilt, for any two functions: what has two.
-/
import Derived.Test.YtniekhedpdkmiaaEx8
namespace Go.Proofs.Ytniekhedpdkmiaa
set_option linter.unusedVariables false
set_option linter.unusedSimpArgs false
open Go.RowKit

/-- what a function value does with what has two -/
structure Combs (S : World → Prop) (kg : Nat) (bg : Array Value) (cb : Int → Ex.X → Ex.X → Ex.X) : Prop where
  ent : ∀ args w, (callFunc kg args).run Try.prog w = .ok (.enter kg args) w
  two : ∀ (w : World) (k : Int) (va vb : Value) (ea eb : Ex.X), S w → 3 ≤ k → k ≤ 9 → IsX ea va w → IsX eb vb w → Calls Try.prog kg (#[.int .i64 k, va, vb] ++ bg) w fun e w' => ∃ v, e = .returned v ∧ IsX (cb k ea eb) v w' ∧ Below w.heap.size w w'

set_option maxHeartbeats 2000000 in
theorem reb_two (S : World → Prop) (hS : ∀ w w', S w → Below w.heap.size w w' → S w') (kf kg : Nat) (bf bg : Array Value) (lf : Ex.X → Ex.X) (cb : Int → Ex.X → Ex.X → Ex.X) (hc : Combs S kg bg cb) (k : Int) (e0 e1 : Ex.X) (ih0 : RebOK S kf kg bf bg lf cb e0) (ih1 : RebOK S kf kg bf bg lf cb e1) : RebOK S kf kg bf bg lf cb (.two k e0 e1) := by
  intro w cs hs0 h
  have h' := h
  cases h with
  | two k n s g o len cap d0 d1 e0 e1 hle hm hk3 hk9 hl2 hg h5 h6 r0 r1 =>
  clear h5 h6 r0 r1 hg hl2 hle hm
  obtain ⟨q0, q1, hz, hbw⟩ := allocs2 w (xcells k n s (some ⟨g, o, none⟩) len cap) Ex.zeros 38 38
  have h2 := h'.later hbw
  clear h'
  unfold xcells Ex.zeros at q0 q1 hz hbw h2
  go_enter Try.func31, Try.ntmps31
  unfold xcells
  go_wp2_with fail
  refine (two_yes _ _ _ k e0 e1 h2 (by rw [hz]; omega)).mono ?_
  rintro e w1 ⟨c0, c1, rfl, r0, r1, hb1⟩
  have p0 := q0.below hb1
  have p1 := q1.below hb1
  have hbw1 := below_next hb1 hbw
  have hz1 := hb1.size
  rw [hz] at hz1
  replace r0 := (r0.later (hb1.mono (by rw [hz]; omega))).up (Nat.le_trans (by omega) hz1)
  replace r1 := (r1.later (hb1.mono (by rw [hz]; omega))).up (Nat.le_trans (by omega) hz1)
  clear q0 q1 hz hb1 hbw h2
  obtain ⟨B0, B1, hz3, hb3⟩ := allocs2 w1 c0 c1 38 38
  replace p0 := (p0.alloc (.cells c0.toArray 38)).alloc (.cells c1.toArray 38)
  replace p1 := (p1.alloc (.cells c0.toArray 38)).alloc (.cells c1.toArray 38)
  have hbw3 := below_next hb3 hbw1
  replace r0 := (r0.later hb3).up (show w1.heap.size ≤ ((w1.alloc (.cells c0.toArray 38)).alloc (.cells c1.toArray 38)).heap.size by omega)
  replace r1 := (r1.later hb3).up (show w1.heap.size ≤ ((w1.alloc (.cells c0.toArray 38)).alloc (.cells c1.toArray 38)).heap.size by omega)
  have hs3 := hS _ _ hs0 hbw3
  obtain ⟨a0, a1, a2, A3, a4, a5, rfl, -, -⟩ := r0.form
  obtain ⟨b0, b1, b2, B3, b4, b5, rfl, -, -⟩ := r1.form
  unfold xcells at B0 B1 p0 p1 hz3 hbw3 hb3 r0 r1 hs3 ⊢
  clear hb3 hbw1 hs0
  obtain ⟨q0, hq0⟩ : ∃ q, q = w.heap.size := ⟨_, rfl⟩
  obtain ⟨q1, hq1⟩ : ∃ q, q = w1.heap.size := ⟨_, rfl⟩
  go_wp2_with fail
  rw [← hq0] at p0 p1 hz1 ⊢
  rw [← hq1] at B0 B1 hz1 hz3 ⊢
  generalize (w1.alloc (.cells [Value.int .i64 a0, .int .i64 a1, .string a2, .slice A3 a4 a5].toArray 38)).alloc (.cells [Value.int .i64 b0, .int .i64 b1, .string b2, .slice B3 b4 b5].toArray 38) = W at B0 B1 p0 p1 hz3 hbw3 r0 r1 hs3 ⊢
  clear hq1 w1
  rw [← hq0] at hbw3
  have HQ := Lib.hid hq0
  clear hq0
  have keepS : ∀ w', Below W.heap.size W w' → (Below W.heap.size W w' ∧ w'.cell? ⟨q0, 0, none⟩ = some (.int .i64 k) ∧ w'.cell? ⟨q1, 0, none⟩ = some (.int .i64 a0) ∧ w'.cell? ⟨q1, 1, none⟩ = some (.int .i64 a1) ∧ w'.cell? ⟨q1, 2, none⟩ = some (.string a2) ∧ w'.cell? ⟨q1, 3, none⟩ = some (.slice A3 a4 a5) ∧ w'.cell? ⟨q1 + 1, 0, none⟩ = some (.int .i64 b0) ∧ w'.cell? ⟨q1 + 1, 1, none⟩ = some (.int .i64 b1) ∧ w'.cell? ⟨q1 + 1, 2, none⟩ = some (.string b2) ∧ w'.cell? ⟨q1 + 1, 3, none⟩ = some (.slice B3 b4 b5)) := fun w' hb =>
    ⟨hb, ((p0.below hb).cell 0).trans rfl, ((B0.below hb).cell 0).trans rfl, ((B0.below hb).cell 1).trans rfl, ((B0.below hb).cell 2).trans rfl, ((B0.below hb).cell 3).trans rfl, ((B1.below hb).cell 0).trans rfl, ((B1.below hb).cell 1).trans rfl, ((B1.below hb).cell 2).trans rfl, ((B1.below hb).cell 3).trans rfl⟩
  have gE : ∀ (w' : World) (cs : List Value) (e : Ex.X), Below W.heap.size W w' → ((cs = [.int .i64 a0, .int .i64 a1, .string a2, .slice A3 a4 a5] ∧ e = e0) ∨ (cs = [.int .i64 b0, .int .i64 b1, .string b2, .slice B3 b4 b5] ∧ e = e1)) →
      Calls Try.prog 31 #[.agg cs.toArray, .func (.func kf) #[] bf, .func (.func kg) #[] bg] w' fun r w'' => ∃ v, r = .returned v ∧ IsX (Ex.reb lf cb e) v w'' ∧ Below w'.heap.size w' w'' := fun w' cs e hb hor => by
    rcases hor with ⟨rfl, rfl⟩ | ⟨rfl, rfl⟩
    · exact ih0 w' _ (hS _ _ hs3 hb) ((r0.later hb).up hb.size)
    · exact ih1 w' _ (hS _ _ hs3 hb) ((r1.later hb).up hb.size)
  have gG : ∀ (w' : World) (va vb : Value) (ea eb : Ex.X), Below W.heap.size W w' → IsX ea va w' → IsX eb vb w' → Calls Try.prog kg (#[.int .i64 k, va, vb] ++ bg) w' fun r w'' => ∃ v, r = .returned v ∧ IsX (cb k ea eb) v w'' ∧ Below w'.heap.size w' w'' := fun w' va vb ea eb hb ha hb' => hc.two w' k va vb ea eb (hS _ _ hs3 hb) hk3 hk9 ha hb'
  have hS0 := keepS _ (below_drew (Below.refl _ _))
  clear r0 r1 hs3 B0 B1 ih0 ih1 p0
  refine wp_walk_last (by kernel_rfl) (by kernel_rfl) (fun w w' => Below w.heap.size w w') (fun w' => (Below W.heap.size W w' ∧ w'.cell? ⟨q0, 0, none⟩ = some (.int .i64 k) ∧ w'.cell? ⟨q1, 0, none⟩ = some (.int .i64 a0) ∧ w'.cell? ⟨q1, 1, none⟩ = some (.int .i64 a1) ∧ w'.cell? ⟨q1, 2, none⟩ = some (.string a2) ∧ w'.cell? ⟨q1, 3, none⟩ = some (.slice A3 a4 a5) ∧ w'.cell? ⟨q1 + 1, 0, none⟩ = some (.int .i64 b0) ∧ w'.cell? ⟨q1 + 1, 1, none⟩ = some (.int .i64 b1) ∧ w'.cell? ⟨q1 + 1, 2, none⟩ = some (.string b2) ∧ w'.cell? ⟨q1 + 1, 3, none⟩ = some (.slice B3 b4 b5))) hS0 ?_
  simp only [List.length_cons, List.length_nil, Nat.reduceAdd, Nat.reduceSub, List.take_succ_cons, List.take_zero, List.drop_succ_cons, List.drop_zero]
  repeat (first | (refine settle_skip (fun _ => by rfl) ?_; (simp only [Act.put, List.setIfInBounds_toArray, List.set_cons_zero, List.set_cons_succ])) | (refine' settle_run (fun _ _ => Below.refl _ _) (fun _ => by rfl) ?_ ?_; rotate_left; (focus (intro ρ w hS hF; (try dsimp only at hS); go_split_ands; go_simp; try with_reducible rfl)); (simp only [Act.put, List.setIfInBounds_toArray, List.set_cons_zero, List.set_cons_succ])))
  (refine settle_known (FX (Ex.reb lf cb e0)) (by rfl) (fun _ => by rfl) ?_ ?_; (focus (intro ρ w hS hF K hK; (simp only [Act.put, List.setIfInBounds_toArray, List.set_cons_zero, List.set_cons_succ] at hK); go_simp; (refine (gE _ _ _ hS.1 (.inl ⟨rfl, rfl⟩)).mono ?_; rintro e w' ⟨v, rfl, hF', hb'⟩; exact hK _ _ hF' (keepS _ (below_next hb' hS.1)) hb'))); (simp only [Act.put, List.setIfInBounds_toArray, List.set_cons_zero, List.set_cons_succ]))
  repeat (first | (refine settle_skip (fun _ => by rfl) ?_; (simp only [Act.put, List.setIfInBounds_toArray, List.set_cons_zero, List.set_cons_succ])) | (refine' settle_run (fun _ _ => Below.refl _ _) (fun _ => by rfl) ?_ ?_; rotate_left; (focus (intro ρ w hS hF; (try dsimp only at hS); go_split_ands; go_simp; try with_reducible rfl)); (simp only [Act.put, List.setIfInBounds_toArray, List.set_cons_zero, List.set_cons_succ])))
  (refine settle_known (FX (Ex.reb lf cb e1)) (by rfl) (fun _ => by rfl) ?_ ?_; (focus (intro ρ w hS hF K hK; (simp only [Act.put, List.setIfInBounds_toArray, List.set_cons_zero, List.set_cons_succ] at hK); go_simp; (refine (gE _ _ _ hS.1 (.inr ⟨rfl, rfl⟩)).mono ?_; rintro e w' ⟨v, rfl, hF', hb'⟩; exact hK _ _ hF' (keepS _ (below_next hb' hS.1)) hb'))); (simp only [Act.put, List.setIfInBounds_toArray, List.set_cons_zero, List.set_cons_succ]))
  repeat (first | (refine settle_skip (fun _ => by rfl) ?_; (simp only [Act.put, List.setIfInBounds_toArray, List.set_cons_zero, List.set_cons_succ])) | (refine' settle_run (fun _ _ => Below.refl _ _) (fun _ => by rfl) ?_ ?_; rotate_left; (focus (intro ρ w hS hF; (try dsimp only at hS); go_split_ands; go_simp; try with_reducible rfl)); (simp only [Act.put, List.setIfInBounds_toArray, List.set_cons_zero, List.set_cons_succ])))
  (refine settle_known (FX (cb k (Ex.reb lf cb e0) (Ex.reb lf cb e1))) (by rfl) (fun _ => by rfl) ?_ ?_; (focus (intro ρ w hS hF K hK; (simp only [Act.put, List.setIfInBounds_toArray, List.set_cons_zero, List.set_cons_succ] at hK); go_simp; (rw [hc.ent, Oper.upon_enter]; refine (gG _ _ _ _ _ hS.1 (hF.2.1 (by rfl)) (hF.1 (by rfl))).mono ?_; rintro e w' ⟨v, rfl, hF', hb'⟩; exact hK _ _ hF' (keepS _ (below_next hb' hS.1)) hb'))); (simp only [Act.put, List.setIfInBounds_toArray, List.set_cons_zero, List.set_cons_succ]))
  refine settle_nil ?_
  intro ρ w4 hS hF
  obtain ⟨cs, e29, hx⟩ := hF 29 (FX (cb k (Ex.reb lf cb e0) (Ex.reb lf cb e1))) (by repeat (first | exact List.mem_cons_self | apply List.mem_cons_of_mem))
  have p4 := p1.below hS.1
  have hbw4 : Below q0 w w4 := hbw3.trans (hS.1.mono (by omega))
  have hsz4 := hS.1.size
  clear keepS gE gG hS hS0 p1 hbw3 hF
  obtain ⟨c0, c1, c2, C3, c4, c5, rfl, -, -⟩ := hx.form
  dsimp only
  rw [e29]
  clear e29
  unfold xcells at hx ⊢
  refine wpl_put_blk p4 [.int .i64 c0, .int .i64 c1, .string c2, .slice C3 c4 c5] (by kernel_rfl) rfl (xcells_one c0 c1 c2 C3 c4 c5) rfl rfl rfl rfl ?_
  intro w5 hB5 hg5
  go_wp2
  exact ret_blk hB5 rfl rfl Try.underlying38 rfl (by kernel_rfl) rfl ⟨_, rfl, ⟨_, rfl, hx.put p4 hg5⟩, by rw [← HQ.out]; exact hbw4.trans (below_of_grown hg5 (by omega) (by omega))⟩

/-- **expr.rebuilt** -/
theorem reb_ok (S : World → Prop) (hS : ∀ w w', S w → Below w.heap.size w w' → S w') (kf kg : Nat) (bf bg : Array Value) (lf : Ex.X → Ex.X) (cb : Int → Ex.X → Ex.X → Ex.X) (hl : Leafs S kf bf lf) (hc : Combs S kg bg cb) : ∀ e : Ex.X, RebOK S kf kg bf bg lf cb e
  | .num n => reb_num S hS kf kg bf bg lf cb hl n
  | .name s => reb_name S hS kf kg bf bg lf cb hl s
  | .bad => reb_bad S hS kf kg bf bg lf cb
  | .two k a b => reb_two S hS kf kg bf bg lf cb hc k a b (reb_ok S hS kf kg bf bg lf cb hl hc a) (reb_ok S hS kf kg bf bg lf cb hl hc b)
end Go.Proofs.Ytniekhedpdkmiaa
