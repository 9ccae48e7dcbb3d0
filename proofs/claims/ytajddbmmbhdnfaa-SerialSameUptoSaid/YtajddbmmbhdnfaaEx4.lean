/-
  expr.Eval, walked: what is no name.
-/
import Derived.Test.YtajddbmmbhdnfaaEx3
namespace Go.Proofs.Ytajddbmmbhdnfaa
set_option linter.unusedVariables false
set_option linter.unusedSimpArgs false
set_option maxRecDepth 100000
open Go.RowKit

namespace Ex
/-- what an expression is worth -/
def evl (env : List (Bs × Int)) : X → Int
  | .num n => n
  | .name s => look s env
  | .two k a b => doo k (evl env a) (evl env b)
  | .bad => 0
end Ex

theorem eval_num (n : Int) (s : ByteArray) (A : Option Addr) (len cap : Nat) (v : Value) (w : World) (hle : len ≤ cap) (hm : cap ≤ maxLen) :
    Calls Try.prog 47 #[.agg (xcells 1 n s A len cap).toArray, v] w fun e w' => e = .returned (.int .i64 n) ∧ Below w.heap.size w w' := by
  have hb := Blk.new w 64 (xcells 1 n s A len cap)
  go_enter Try.func47, Try.ntmps47
  unfold xcells
  go_wp2_with fail
  refine (two_no _ 1 n s A len cap (by omega) hle hm).mono ?_
  rintro e w1 ⟨rfl, hb1⟩
  unfold Ex.zeros
  obtain ⟨q0, q1, hz, hbw⟩ := allocs2 w (xcells 1 n s A len cap) [.int .i64 0] 64 3
  unfold xcells at q0 q1 hz hbw
  have p0 := q0.below hb1
  have p1 := q1.below hb1
  have hbw1 := below_next hb1 hbw
  have hz1 := hb1.size
  rw [hz] at hz1
  clear q0 q1 hz hb1 hb hbw
  have x0 : ∀ o o' : Obj, ((w1.alloc o).alloc o').cell? ⟨w.heap.size, 0, none⟩ = some (.int .i64 1) := fun o o' => (((p0.alloc o).alloc o').cell 0).trans rfl
  have x1 : ∀ o o' : Obj, ((w1.alloc o).alloc o').cell? ⟨w.heap.size, 1, none⟩ = some (.int .i64 n) := fun o o' => (((p0.alloc o).alloc o').cell 1).trans rfl
  have y0 : ∀ o o' : Obj, ((w1.alloc o).alloc o').cell? ⟨w.heap.size + 1, 0, none⟩ = some (.int .i64 0) := fun o o' => (((p1.alloc o).alloc o').cell 0).trans rfl
  have yf : ∀ o o' : Obj, ((w1.alloc o).alloc o').frozen? ⟨w.heap.size + 1, 0, none⟩ = false := fun o o' => ((p1.alloc o).alloc o').frozen 0
  go_wp2
  have hc5 := fun o o' => World.cell?_setCell_same' ((w1.alloc o).alloc o') ⟨w.heap.size + 1, 0, none⟩ (.int .i64 n) (by rw [y0]; rfl)
  exact bodyPost_ret (v := .int .i64 n) (by simp [results, Try.results47, go_sem, hc5]) rfl ⟨rfl, (below_alloc (below_alloc hbw1 _) _).setCell (p := ⟨w.heap.size + 1, 0, none⟩) (by simp) _⟩

theorem eval_bad (k n : Int) (s : ByteArray) (A : Option Addr) (len cap : Nat) (v : Value) (w : World) (hle : len ≤ cap) (hm : cap ≤ maxLen) (h1 : k ≠ 1) (h2 : k ≠ 2) (hno : ¬ ((3 ≤ k ∧ k ≤ 9) ∧ 2 ≤ len)) :
    Calls Try.prog 47 #[.agg (xcells k n s A len cap).toArray, v] w fun e w' => e = .returned (.int .i64 0) ∧ Below w.heap.size w w' := by
  have b1 : (k == 1) = false := by simpa using h1
  have b2 : (k == 2) = false := by simpa using h2
  go_enter Try.func47, Try.ntmps47
  unfold xcells
  go_wp2_with fail
  refine (two_no _ k n s A len cap hno hle hm).mono ?_
  rintro e w1 ⟨rfl, hb1⟩
  clear hno
  unfold Ex.zeros
  obtain ⟨q0, q1, hz, hbw⟩ := allocs2 w (xcells k n s A len cap) [.int .i64 0] 64 3
  unfold xcells at q0 q1 hz hbw
  have p0 := q0.below hb1
  have p1 := q1.below hb1
  have hbw1 := below_next hb1 hbw
  have hz1 := hb1.size
  rw [hz] at hz1
  clear q0 q1 hz hb1 hbw
  have x0 : ∀ o o' : Obj, ((w1.alloc o).alloc o').cell? ⟨w.heap.size, 0, none⟩ = some (.int .i64 k) := fun o o' => (((p0.alloc o).alloc o').cell 0).trans rfl
  have y0 : ∀ o o' : Obj, ((w1.alloc o).alloc o').cell? ⟨w.heap.size + 1, 0, none⟩ = some (.int .i64 0) := fun o o' => (((p1.alloc o).alloc o').cell 0).trans rfl
  have yf : ∀ o o' : Obj, ((w1.alloc o).alloc o').frozen? ⟨w.heap.size + 1, 0, none⟩ = false := fun o o' => ((p1.alloc o).alloc o').frozen 0
  go_wp2
  have hc5 := fun o o' => World.cell?_setCell_same' ((w1.alloc o).alloc o') ⟨w.heap.size + 1, 0, none⟩ (.int .i64 0) (by rw [y0]; rfl)
  exact bodyPost_ret (v := .int .i64 0) (by simp [results, Try.results47, go_sem, hc5]) rfl ⟨rfl, (below_alloc (below_alloc hbw1 _) _).setCell (p := ⟨w.heap.size + 1, 0, none⟩) (by simp) _⟩

def EvalOK (v : Value) (zs : List Ex.Bd) (env : List (Ex.Bs × Int)) (e : Ex.X) : Prop := ∀ (w : World) (cs : List Value), XR w.heap.size w cs e → SlV w 2 v zs.length (Ex.bindcs zs) →
  Calls Try.prog 47 #[.agg cs.toArray, v] w fun r w' => r = .returned (.int .i64 (Ex.evl env e)) ∧ Below w.heap.size w w'

set_option maxHeartbeats 2000000 in
theorem eval_two (v : Value) (zs : List Ex.Bd) (env : List (Ex.Bs × Int)) (k : Int) (e0 e1 : Ex.X) (ih0 : EvalOK v zs env e0) (ih1 : EvalOK v zs env e1) : EvalOK v zs env (.two k e0 e1) := by
  intro w cs h hv
  have h' := h
  cases h with
  | two k n s g o len cap d0 d1 e0 e1 hle hm hk3 hk9 hl2 hg h5 h6 r0 r1 =>
  clear h5 h6 r0 r1 hg hk3 hk9 hl2 hle hm
  obtain ⟨q0, q1, hz, hbw⟩ := allocs2 w (xcells k n s (some ⟨g, o, none⟩) len cap) [.int .i64 0] 64 3
  have h2 := h'.later hbw
  clear h'
  unfold xcells at q0 q1 hz hbw h2
  go_enter Try.func47, Try.ntmps47
  unfold xcells
  go_wp2_with fail
  refine (two_yes _ _ _ k e0 e1 h2 (by rw [hz]; omega)).mono ?_
  rintro e w1 ⟨c0, c1, rfl, r0, r1, hb1⟩
  have p0 := q0.below hb1
  have p1 := q1.below hb1
  have hbw1 := below_next hb1 hbw
  have hz1 := hb1.size
  rw [hz] at hz1
  replace r0 := (r0.later (hb1.mono (by rw [hz]; omega))).up (Nat.le_trans (by omega) hz1)
  replace r1 := (r1.later (hb1.mono (by rw [hz]; omega))).up (Nat.le_trans (by omega) hz1)
  clear q0 q1 hz hb1 hbw h2
  obtain ⟨B0, B1, hz3, hb3⟩ := allocs2 w1 c0 c1 64 64
  replace p0 := (p0.alloc (.cells c0.toArray 64)).alloc (.cells c1.toArray 64)
  replace p1 := (p1.alloc (.cells c0.toArray 64)).alloc (.cells c1.toArray 64)
  have hbw3 := below_next hb3 hbw1
  replace r0 := (r0.later hb3).up (show w1.heap.size ≤ ((w1.alloc (.cells c0.toArray 64)).alloc (.cells c1.toArray 64)).heap.size by omega)
  replace r1 := (r1.later hb3).up (show w1.heap.size ≤ ((w1.alloc (.cells c0.toArray 64)).alloc (.cells c1.toArray 64)).heap.size by omega)
  have hv3 := hv.below hbw3
  obtain ⟨a0, a1, a2, A3, a4, a5, rfl, -, -⟩ := r0.form
  obtain ⟨b0, b1, b2, B3, b4, b5, rfl, -, -⟩ := r1.form
  unfold xcells at B0 B1 p0 p1 hz3 hbw3 hb3 r0 r1 hv3 ⊢
  clear hb3 hbw1 hv
  obtain ⟨q0, hq0⟩ : ∃ q, q = w.heap.size := ⟨_, rfl⟩
  obtain ⟨q1, hq1⟩ : ∃ q, q = w1.heap.size := ⟨_, rfl⟩
  go_wp2_with fail
  rw [← hq0] at p0 p1 hz1 ⊢
  rw [← hq1] at B0 B1 hz1 hz3 ⊢
  generalize (w1.alloc (.cells [Value.int .i64 a0, .int .i64 a1, .string a2, .slice A3 a4 a5].toArray 64)).alloc (.cells [Value.int .i64 b0, .int .i64 b1, .string b2, .slice B3 b4 b5].toArray 64) = W at B0 B1 p0 p1 hz3 hbw3 r0 r1 hv3 ⊢
  clear hq1 w1
  rw [← hq0] at hbw3
  have HQ := Lib.hid hq0
  clear hq0
  have keepS : ∀ w', Below W.heap.size W w' → (Below W.heap.size W w' ∧ w'.cell? ⟨q0, 0, none⟩ = some (.int .i64 k) ∧ w'.cell? ⟨q1, 0, none⟩ = some (.int .i64 a0) ∧ w'.cell? ⟨q1, 1, none⟩ = some (.int .i64 a1) ∧ w'.cell? ⟨q1, 2, none⟩ = some (.string a2) ∧ w'.cell? ⟨q1, 3, none⟩ = some (.slice A3 a4 a5) ∧ w'.cell? ⟨q1 + 1, 0, none⟩ = some (.int .i64 b0) ∧ w'.cell? ⟨q1 + 1, 1, none⟩ = some (.int .i64 b1) ∧ w'.cell? ⟨q1 + 1, 2, none⟩ = some (.string b2) ∧ w'.cell? ⟨q1 + 1, 3, none⟩ = some (.slice B3 b4 b5)) := fun w' hb =>
    ⟨hb, ((p0.below hb).cell 0).trans rfl, ((B0.below hb).cell 0).trans rfl, ((B0.below hb).cell 1).trans rfl, ((B0.below hb).cell 2).trans rfl, ((B0.below hb).cell 3).trans rfl, ((B1.below hb).cell 0).trans rfl, ((B1.below hb).cell 1).trans rfl, ((B1.below hb).cell 2).trans rfl, ((B1.below hb).cell 3).trans rfl⟩
  have gE : ∀ (w' : World) (cs : List Value) (e : Ex.X), Below W.heap.size W w' → ((cs = [.int .i64 a0, .int .i64 a1, .string a2, .slice A3 a4 a5] ∧ e = e0) ∨ (cs = [.int .i64 b0, .int .i64 b1, .string b2, .slice B3 b4 b5] ∧ e = e1)) →
      Calls Try.prog 47 #[.agg cs.toArray, v] w' fun r w'' => r = .returned (.int .i64 (Ex.evl env e)) ∧ Below w'.heap.size w' w'' := fun w' cs e hb hor => by
    rcases hor with ⟨rfl, rfl⟩ | ⟨rfl, rfl⟩
    · exact ih0 w' _ ((r0.later hb).up hb.size) (hv3.below hb)
    · exact ih1 w' _ ((r1.later hb).up hb.size) (hv3.below hb)
  have hS0 := keepS _ (below_drew (Below.refl _ _))
  clear r0 r1 hv3 B0 B1 ih0 ih1 p0
  refine wp_walk_last (by kernel_rfl) (by kernel_rfl) (fun _ _ => True) (fun w' => (Below W.heap.size W w' ∧ w'.cell? ⟨q0, 0, none⟩ = some (.int .i64 k) ∧ w'.cell? ⟨q1, 0, none⟩ = some (.int .i64 a0) ∧ w'.cell? ⟨q1, 1, none⟩ = some (.int .i64 a1) ∧ w'.cell? ⟨q1, 2, none⟩ = some (.string a2) ∧ w'.cell? ⟨q1, 3, none⟩ = some (.slice A3 a4 a5) ∧ w'.cell? ⟨q1 + 1, 0, none⟩ = some (.int .i64 b0) ∧ w'.cell? ⟨q1 + 1, 1, none⟩ = some (.int .i64 b1) ∧ w'.cell? ⟨q1 + 1, 2, none⟩ = some (.string b2) ∧ w'.cell? ⟨q1 + 1, 3, none⟩ = some (.slice B3 b4 b5))) hS0 ?_
  simp only [List.length_cons, List.length_nil, Nat.reduceAdd, Nat.reduceSub, List.take_succ_cons, List.take_zero, List.drop_succ_cons, List.drop_zero]
  repeat (first | (refine settle_skip (fun _ => by rfl) ?_; (simp only [Act.put, List.setIfInBounds_toArray, List.set_cons_zero, List.set_cons_succ])) | (refine' settle_run (fun _ _ => trivial) (fun _ => by rfl) ?_ ?_; rotate_left; (focus (intro ρ w hS hF; (try dsimp only at hS); go_split_ands; go_simp; try with_reducible rfl)); (simp only [Act.put, List.setIfInBounds_toArray, List.set_cons_zero, List.set_cons_succ])) | (refine' settle_step (fun _ => by rfl) ?_ ?_; rotate_left; (focus (intro ρ w hS hF K hK; (simp only [Act.put, List.setIfInBounds_toArray, List.set_cons_zero, List.set_cons_succ] at hK); go_simp; first | (go_at_call 47; refine (gE _ _ _ hS.1 (by first | exact .inl ⟨rfl, rfl⟩ | exact .inr ⟨rfl, rfl⟩)).mono ?_; rintro e w6 ⟨rfl, hb6⟩; have hS' := keepS _ (below_next hb6 hS.1); have hE' := True.intro; exact hK _ hS' hE') | (go_at_call 53; refine (do_any _ _ _ _).mono ?_; rintro e w6 ⟨rfl, rfl⟩; have hS' := hS; have hE' := True.intro; exact hK _ hS' hE'))); (simp only [Act.put, List.setIfInBounds_toArray, List.set_cons_zero, List.set_cons_succ])))
  refine settle_nil ?_
  intro ρ w4 hS _
  have p4 := p1.below hS.1
  have hbw4 : Below q0 w w4 := hbw3.trans (hS.1.mono (by omega))
  clear keepS gE hS hS0 p1 hbw3
  have y0 : w4.cell? ⟨q0 + 1, 0, none⟩ = some (.int .i64 0) := (p4.cell 0).trans rfl
  have yf : w4.frozen? ⟨q0 + 1, 0, none⟩ = false := p4.frozen 0
  dsimp only
  go_wp2
  have hc5 := World.cell?_setCell_same' w4 ⟨q0 + 1, 0, none⟩ (.int .i64 (Ex.doo k (Ex.evl env e0) (Ex.evl env e1))) (by rw [y0]; rfl)
  exact bodyPost_ret (v := .int .i64 (Ex.doo k (Ex.evl env e0) (Ex.evl env e1))) (by simp [results, Try.results47, go_sem, hc5]) rfl ⟨rfl, by rw [← HQ.out]; exact hbw4.setCell (p := ⟨q0 + 1, 0, none⟩) (by simp) _⟩
end Go.Proofs.Ytajddbmmbhdnfaa
