/-
  Statements in memory, read; an argument that is a list of statements, opened.
-/
import Derived.Test.YtkjmddgnfgbioaaDoorUsP1
import Derived.Test.YtkjmddgnfgbioaaDoorRows

namespace Go.Proofs.YtkjmddgnfgbioaaDoor
set_option linter.unusedVariables false
set_option linter.unusedSimpArgs false
set_option maxRecDepth 100000
open Go.RowKit

namespace Ex
/-- what an expression is worth -/
def evl (env : List (Bs × Int)) : X → Int
  | .num n => n
  | .name s => look s env
  | .two k a b => doo k (evl env a) (evl env b)
  | .bad => 0
end Ex

theorem eval_num (n : Int) (s : ByteArray) (A : Option Addr) (len cap : Nat) (v : Value) (w : World) (hle : len ≤ cap) (hm : cap ≤ maxLen) :
    Calls Tryd.prog 112 #[.agg (xcells 1 n s A len cap).toArray, v] w fun e w' => e = .returned (.int .i64 n) ∧ Below w.heap.size w w' := by
  have hb := Blk.new w 38 (xcells 1 n s A len cap)
  go_enter Tryd.func112, Tryd.ntmps112
  unfold xcells
  go_wp2_with fail
  refine (two_no _ 1 n s A len cap (by omega) hle hm).mono ?_
  rintro e w1 ⟨rfl, hb1⟩
  unfold Ex.zeros
  obtain ⟨q0, q1, hz, hbw⟩ := allocs2 w (xcells 1 n s A len cap) [.int .i64 0] 38 3
  unfold xcells at q0 q1 hz hbw
  have p0 := q0.below hb1
  have p1 := q1.below hb1
  have hbw1 := below_next hb1 hbw
  have hz1 := hb1.size
  rw [hz] at hz1
  clear q0 q1 hz hb1 hb hbw
  have x0 : ∀ o o' : Obj, ((w1.alloc o).alloc o').cell? ⟨w.heap.size, 0, none⟩ = some (.int .i64 1) := fun o o' => (((p0.alloc o).alloc o').cell 0).trans rfl
  have x1 : ∀ o o' : Obj, ((w1.alloc o).alloc o').cell? ⟨w.heap.size, 1, none⟩ = some (.int .i64 n) := fun o o' => (((p0.alloc o).alloc o').cell 1).trans rfl
  have y0 : ∀ o o' : Obj, ((w1.alloc o).alloc o').cell? ⟨w.heap.size + 1, 0, none⟩ = some (.int .i64 0) := fun o o' => (((p1.alloc o).alloc o').cell 0).trans rfl
  have yf : ∀ o o' : Obj, ((w1.alloc o).alloc o').frozen? ⟨w.heap.size + 1, 0, none⟩ = false := fun o o' => ((p1.alloc o).alloc o').frozen 0
  go_wp2
  have hc5 := fun o o' => World.cell?_setCell_same' ((w1.alloc o).alloc o') ⟨w.heap.size + 1, 0, none⟩ (.int .i64 n) (by rw [y0]; rfl)
  exact bodyPost_ret (v := .int .i64 n) (by simp [results, Tryd.results112, go_sem, hc5]) rfl ⟨rfl, (below_alloc (below_alloc hbw1 _) _).setCell (p := ⟨w.heap.size + 1, 0, none⟩) (by simp) _⟩

theorem eval_bad (k n : Int) (s : ByteArray) (A : Option Addr) (len cap : Nat) (v : Value) (w : World) (hle : len ≤ cap) (hm : cap ≤ maxLen) (h1 : k ≠ 1) (h2 : k ≠ 2) (hno : ¬ ((3 ≤ k ∧ k ≤ 9) ∧ 2 ≤ len)) :
    Calls Tryd.prog 112 #[.agg (xcells k n s A len cap).toArray, v] w fun e w' => e = .returned (.int .i64 0) ∧ Below w.heap.size w w' := by
  have b1 : (k == 1) = false := by simpa using h1
  have b2 : (k == 2) = false := by simpa using h2
  go_enter Tryd.func112, Tryd.ntmps112
  unfold xcells
  go_wp2_with fail
  refine (two_no _ k n s A len cap hno hle hm).mono ?_
  rintro e w1 ⟨rfl, hb1⟩
  clear hno
  unfold Ex.zeros
  obtain ⟨q0, q1, hz, hbw⟩ := allocs2 w (xcells k n s A len cap) [.int .i64 0] 38 3
  unfold xcells at q0 q1 hz hbw
  have p0 := q0.below hb1
  have p1 := q1.below hb1
  have hbw1 := below_next hb1 hbw
  have hz1 := hb1.size
  rw [hz] at hz1
  clear q0 q1 hz hb1 hbw
  have x0 : ∀ o o' : Obj, ((w1.alloc o).alloc o').cell? ⟨w.heap.size, 0, none⟩ = some (.int .i64 k) := fun o o' => (((p0.alloc o).alloc o').cell 0).trans rfl
  have y0 : ∀ o o' : Obj, ((w1.alloc o).alloc o').cell? ⟨w.heap.size + 1, 0, none⟩ = some (.int .i64 0) := fun o o' => (((p1.alloc o).alloc o').cell 0).trans rfl
  have yf : ∀ o o' : Obj, ((w1.alloc o).alloc o').frozen? ⟨w.heap.size + 1, 0, none⟩ = false := fun o o' => ((p1.alloc o).alloc o').frozen 0
  go_wp2
  have hc5 := fun o o' => World.cell?_setCell_same' ((w1.alloc o).alloc o') ⟨w.heap.size + 1, 0, none⟩ (.int .i64 0) (by rw [y0]; rfl)
  exact bodyPost_ret (v := .int .i64 0) (by simp [results, Tryd.results112, go_sem, hc5]) rfl ⟨rfl, (below_alloc (below_alloc hbw1 _) _).setCell (p := ⟨w.heap.size + 1, 0, none⟩) (by simp) _⟩

def EvalOK (v : Value) (zs : List Ex.Bd) (env : List (Ex.Bs × Int)) (e : Ex.X) : Prop := ∀ (w : World) (cs : List Value), XR w.heap.size w cs e → SlV w 2 v zs.length (Ex.bindcs zs) →
  Calls Tryd.prog 112 #[.agg cs.toArray, v] w fun r w' => r = .returned (.int .i64 (Ex.evl env e)) ∧ Below w.heap.size w w'

set_option maxHeartbeats 2000000 in
theorem eval_two (v : Value) (zs : List Ex.Bd) (env : List (Ex.Bs × Int)) (k : Int) (e0 e1 : Ex.X) (ih0 : EvalOK v zs env e0) (ih1 : EvalOK v zs env e1) : EvalOK v zs env (.two k e0 e1) := by
  intro w cs h hv
  have h' := h
  cases h with
  | two k n s g o len cap d0 d1 e0 e1 hle hm hk3 hk9 hl2 hg h5 h6 r0 r1 =>
  clear h5 h6 r0 r1 hg hk3 hk9 hl2 hle hm
  obtain ⟨q0, q1, hz, hbw⟩ := allocs2 w (xcells k n s (some ⟨g, o, none⟩) len cap) [.int .i64 0] 38 3
  have h2 := h'.later hbw
  clear h'
  unfold xcells at q0 q1 hz hbw h2
  go_enter Tryd.func112, Tryd.ntmps112
  unfold xcells
  go_wp2_with fail
  refine (two_yes _ _ _ k e0 e1 h2 (by rw [hz]; omega)).mono ?_
  rintro e w1 ⟨c0, c1, rfl, r0, r1, hb1⟩
  have p0 := q0.below hb1
  have p1 := q1.below hb1
  have hbw1 := below_next hb1 hbw
  have hz1 := hb1.size
  rw [hz] at hz1
  replace r0 := (r0.later (hb1.mono (by rw [hz]; omega))).up (Nat.le_trans (by omega) hz1)
  replace r1 := (r1.later (hb1.mono (by rw [hz]; omega))).up (Nat.le_trans (by omega) hz1)
  clear q0 q1 hz hb1 hbw h2
  obtain ⟨B0, B1, hz3, hb3⟩ := allocs2 w1 c0 c1 38 38
  replace p0 := (p0.alloc (.cells c0.toArray 38)).alloc (.cells c1.toArray 38)
  replace p1 := (p1.alloc (.cells c0.toArray 38)).alloc (.cells c1.toArray 38)
  have hbw3 := below_next hb3 hbw1
  replace r0 := (r0.later hb3).up (show w1.heap.size ≤ ((w1.alloc (.cells c0.toArray 38)).alloc (.cells c1.toArray 38)).heap.size by omega)
  replace r1 := (r1.later hb3).up (show w1.heap.size ≤ ((w1.alloc (.cells c0.toArray 38)).alloc (.cells c1.toArray 38)).heap.size by omega)
  have hv3 := hv.below hbw3
  obtain ⟨a0, a1, a2, A3, a4, a5, rfl, -, -⟩ := r0.form
  obtain ⟨b0, b1, b2, B3, b4, b5, rfl, -, -⟩ := r1.form
  unfold xcells at B0 B1 p0 p1 hz3 hbw3 hb3 r0 r1 hv3 ⊢
  clear hb3 hbw1 hv
  obtain ⟨q0, hq0⟩ : ∃ q, q = w.heap.size := ⟨_, rfl⟩
  obtain ⟨q1, hq1⟩ : ∃ q, q = w1.heap.size := ⟨_, rfl⟩
  go_wp2_with fail
  rw [← hq0] at p0 p1 hz1 ⊢
  rw [← hq1] at B0 B1 hz1 hz3 ⊢
  generalize (w1.alloc (.cells [Value.int .i64 a0, .int .i64 a1, .string a2, .slice A3 a4 a5].toArray 38)).alloc (.cells [Value.int .i64 b0, .int .i64 b1, .string b2, .slice B3 b4 b5].toArray 38) = W at B0 B1 p0 p1 hz3 hbw3 r0 r1 hv3 ⊢
  clear hq1 w1
  rw [← hq0] at hbw3
  have HQ := Lib.hid hq0
  clear hq0
  have keepS : ∀ w', Below W.heap.size W w' → (Below W.heap.size W w' ∧ w'.cell? ⟨q0, 0, none⟩ = some (.int .i64 k) ∧ w'.cell? ⟨q1, 0, none⟩ = some (.int .i64 a0) ∧ w'.cell? ⟨q1, 1, none⟩ = some (.int .i64 a1) ∧ w'.cell? ⟨q1, 2, none⟩ = some (.string a2) ∧ w'.cell? ⟨q1, 3, none⟩ = some (.slice A3 a4 a5) ∧ w'.cell? ⟨q1 + 1, 0, none⟩ = some (.int .i64 b0) ∧ w'.cell? ⟨q1 + 1, 1, none⟩ = some (.int .i64 b1) ∧ w'.cell? ⟨q1 + 1, 2, none⟩ = some (.string b2) ∧ w'.cell? ⟨q1 + 1, 3, none⟩ = some (.slice B3 b4 b5)) := fun w' hb =>
    ⟨hb, ((p0.below hb).cell 0).trans rfl, ((B0.below hb).cell 0).trans rfl, ((B0.below hb).cell 1).trans rfl, ((B0.below hb).cell 2).trans rfl, ((B0.below hb).cell 3).trans rfl, ((B1.below hb).cell 0).trans rfl, ((B1.below hb).cell 1).trans rfl, ((B1.below hb).cell 2).trans rfl, ((B1.below hb).cell 3).trans rfl⟩
  have gE : ∀ (w' : World) (cs : List Value) (e : Ex.X), Below W.heap.size W w' → ((cs = [.int .i64 a0, .int .i64 a1, .string a2, .slice A3 a4 a5] ∧ e = e0) ∨ (cs = [.int .i64 b0, .int .i64 b1, .string b2, .slice B3 b4 b5] ∧ e = e1)) →
      Calls Tryd.prog 112 #[.agg cs.toArray, v] w' fun r w'' => r = .returned (.int .i64 (Ex.evl env e)) ∧ Below w'.heap.size w' w'' := fun w' cs e hb hor => by
    rcases hor with ⟨rfl, rfl⟩ | ⟨rfl, rfl⟩
    · exact ih0 w' _ ((r0.later hb).up hb.size) (hv3.below hb)
    · exact ih1 w' _ ((r1.later hb).up hb.size) (hv3.below hb)
  have hS0 := keepS _ (below_drew (Below.refl _ _))
  clear r0 r1 hv3 B0 B1 ih0 ih1 p0
  refine wp_walk_last (by kernel_rfl) (by kernel_rfl) (fun _ _ => True) (fun w' => (Below W.heap.size W w' ∧ w'.cell? ⟨q0, 0, none⟩ = some (.int .i64 k) ∧ w'.cell? ⟨q1, 0, none⟩ = some (.int .i64 a0) ∧ w'.cell? ⟨q1, 1, none⟩ = some (.int .i64 a1) ∧ w'.cell? ⟨q1, 2, none⟩ = some (.string a2) ∧ w'.cell? ⟨q1, 3, none⟩ = some (.slice A3 a4 a5) ∧ w'.cell? ⟨q1 + 1, 0, none⟩ = some (.int .i64 b0) ∧ w'.cell? ⟨q1 + 1, 1, none⟩ = some (.int .i64 b1) ∧ w'.cell? ⟨q1 + 1, 2, none⟩ = some (.string b2) ∧ w'.cell? ⟨q1 + 1, 3, none⟩ = some (.slice B3 b4 b5))) hS0 ?_
  simp only [List.length_cons, List.length_nil, Nat.reduceAdd, Nat.reduceSub, List.take_succ_cons, List.take_zero, List.drop_succ_cons, List.drop_zero]
  repeat (first | (refine settle_skip (fun _ => by rfl) ?_; (simp only [Act.put, List.setIfInBounds_toArray, List.set_cons_zero, List.set_cons_succ])) | (refine' settle_run (fun _ _ => trivial) (fun _ => by rfl) ?_ ?_; rotate_left; (focus (intro ρ w hS hF; (try dsimp only at hS); go_split_ands; go_simp; try with_reducible rfl)); (simp only [Act.put, List.setIfInBounds_toArray, List.set_cons_zero, List.set_cons_succ])) | (refine' settle_step (fun _ => by rfl) ?_ ?_; rotate_left; (focus (intro ρ w hS hF K hK; (simp only [Act.put, List.setIfInBounds_toArray, List.set_cons_zero, List.set_cons_succ] at hK); go_simp; first | (go_at_call 112; refine (gE _ _ _ hS.1 (by first | exact .inl ⟨rfl, rfl⟩ | exact .inr ⟨rfl, rfl⟩)).mono ?_; rintro e w6 ⟨rfl, hb6⟩; have hS' := keepS _ (below_next hb6 hS.1); have hE' := True.intro; exact hK _ hS' hE') | (go_at_call 143; refine (do_any _ _ _ _).mono ?_; rintro e w6 ⟨rfl, rfl⟩; have hS' := hS; have hE' := True.intro; exact hK _ hS' hE'))); (simp only [Act.put, List.setIfInBounds_toArray, List.set_cons_zero, List.set_cons_succ])))
  refine settle_nil ?_
  intro ρ w4 hS _
  have p4 := p1.below hS.1
  have hbw4 : Below q0 w w4 := hbw3.trans (hS.1.mono (by omega))
  clear keepS gE hS hS0 p1 hbw3
  have y0 : w4.cell? ⟨q0 + 1, 0, none⟩ = some (.int .i64 0) := (p4.cell 0).trans rfl
  have yf : w4.frozen? ⟨q0 + 1, 0, none⟩ = false := p4.frozen 0
  dsimp only
  go_wp2
  have hc5 := World.cell?_setCell_same' w4 ⟨q0 + 1, 0, none⟩ (.int .i64 (Ex.doo k (Ex.evl env e0) (Ex.evl env e1))) (by rw [y0]; rfl)
  exact bodyPost_ret (v := .int .i64 (Ex.doo k (Ex.evl env e0) (Ex.evl env e1))) (by simp [results, Tryd.results112, go_sem, hc5]) rfl ⟨rfl, by rw [← HQ.out]; exact hbw4.setCell (p := ⟨q0 + 1, 0, none⟩) (by simp) _⟩
end Go.Proofs.YtkjmddgnfgbioaaDoor


namespace Go.Proofs.YtkjmddgnfgbioaaDoor
set_option linter.unusedVariables false
set_option linter.unusedSimpArgs false
set_option maxRecDepth 100000
open Go.RowKit Go.Shelf

attribute [local go_sem] Oper.semAt_some

theorem eval_name_in (n : Int) (s : ByteArray) (A : Option Addr) (len cap : Nat) (w : World) (hle : len ≤ cap) (hm : cap ≤ maxLen) (zs : List Ex.Bd) (V : Option Addr) (vc : Nat) (hc : Cells w w.heap.size V (Ex.bindcs zs)) (hr : zs.length ≤ 8796093022200) :
    Calls Tryd.prog 112 #[.agg (xcells 2 n s A len cap).toArray, .slice V zs.length vc] w fun e w' => (∃ r, e = .returned (.int .i64 r) ∧ ((r = 0 ∧ ∀ p ∈ Ex.down zs 0, (p.2.1.toList == s.toList) = false) ∨ (∃ m ini x, m ≤ zs.length ∧ Ex.down zs m = ini ++ [(x : Nat × Ex.Bd)] ∧ (x.2.1.toList == s.toList) = true ∧ (∀ p ∈ ini, (p.2.1.toList == s.toList) = false) ∧ r = x.2.2))) ∧ Below w.heap.size w w' := by
  refine (callsIn_wide (n := 3)).1 ?_
  have h1 : 1 ≤ 3 := by omega
  refine callsIn_of_wp_marks Tryd.func112 rfl trivial ?_ rfl
  simp only [Tryd.ntmps112, List.size_toArray, List.length_cons, List.length_nil, Nat.reduceAdd, Nat.reduceSub, Array.replicate_succ, Array.replicate_zero, List.push_toArray, List.append_toArray, List.nil_append, List.cons_append]
  unfold xcells
  gi_wp2_with fail
  refine ⟨trivial, (callsIn_wide.2 (two_no _ 2 n s A len cap (by omega) hle hm)).mono ?_⟩
  rintro e w1 ⟨rfl, hb1⟩
  unfold Ex.zeros
  obtain ⟨q0, q1, hz, hbw⟩ := allocs2 w (xcells 2 n s A len cap) [.int .i64 0] 38 3
  unfold xcells at q0 q1 hz hbw
  have p0 := q0.below hb1
  have p1 := q1.below hb1
  have hbw1 := below_next hb1 hbw
  have hz1 := hb1.size
  rw [hz] at hz1
  clear q0 q1 hz hb1 hbw
  have x0 : ∀ o o' : Obj, ((w1.alloc o).alloc o').cell? ⟨w.heap.size, 0, none⟩ = some (.int .i64 2) := fun o o' => (((p0.alloc o).alloc o').cell 0).trans rfl
  gi_wp2_with fail
  refine ⟨trivial, (backward_in Fence.wide _ trivial rfl _ _ _ _).mono ?_⟩
  rintro e w' ⟨rfl, rfl⟩
  have p0 := ((p0.alloc (.cells Ex.zeros.toArray 38)).alloc (.cells Ex.zeros.toArray 38)).alloc (.cells #[.slice V zs.length vc] 162)
  have p1 := ((p1.alloc (.cells Ex.zeros.toArray 38)).alloc (.cells Ex.zeros.toArray 38)).alloc (.cells #[.slice V zs.length vc] 162)
  have hbw3 : Below w.heap.size w (((w1.alloc (.cells Ex.zeros.toArray 38)).alloc (.cells Ex.zeros.toArray 38)).alloc (.cells #[.slice V zs.length vc] 162)) := below_alloc (below_alloc (below_alloc hbw1 _) _) _
  have p2 := Blk.new ((w1.alloc (.cells Ex.zeros.toArray 38)).alloc (.cells Ex.zeros.toArray 38)) 162 [.slice V zs.length vc]
  unfold Ex.zeros at p0 p1 hbw3 p2
  gi_wp2_with fail
  simp only [World.size_alloc] at p2
  obtain ⟨k1, hk1⟩ : ∃ k, k = w1.heap.size := ⟨_, rfl⟩
  simp only [← hk1] at *
  generalize ((w1.alloc (.cells #[.int .i64 0, .int .i64 0, .string ⟨#[]⟩, .slice none 0 0] 38)).alloc (.cells #[.int .i64 0, .int .i64 0, .string ⟨#[]⟩, .slice none 0 0] 38)).alloc (.cells #[.slice V zs.length vc] 162) = W0 at *
  clear x0 hbw1
  have l2 := p2.lt
  have hx2 : W0.cell? ⟨w.heap.size, 2, none⟩ = some (.string s) := (p0.cell 2).trans rfl
  have y0 : W0.cell? ⟨w.heap.size + 1, 0, none⟩ = some (.int .i64 0) := (p1.cell 0).trans rfl
  have yf : W0.frozen? ⟨w.heap.size + 1, 0, none⟩ = false := p1.frozen 0
  have hcW : Cells W0 W0.heap.size V (Ex.bindcs zs) := hc.keep (by omega) (fun p hp => hbw3.cell hp)
  refine wpIn_rangeFunc_ownH rfl (by omega) (gf := 161) (lb := #[.pointer (some ⟨k1 + 1 + 1, 0, none⟩)]) rfl trivial (enters_of Tryd.func161 (by kernel_rfl) rfl)
    (backward_stops Fence.wide 2 trivial rfl (by omega) (k1 + 1 + 1) W0.heap.size vc V zs hr W0 l2 (Nat.le_refl _) ((p2.cell 0).trans rfl) hcW) belowK_t (belowK_b (Nat.le_refl _)) (Below.refl _ _) (fun _ => rfl)
    (fun pre W => ((∀ p ∈ pre, (p.2.1.toList == s.toList) = false) ∧ W.cell? ⟨w.heap.size, 2, none⟩ = some (.string s) ∧ W.cell? ⟨w.heap.size + 1, 0, none⟩ = some (.int .i64 0) ∧ W.frozen? ⟨w.heap.size + 1, 0, none⟩ = false) ∧ Below W0.heap.size W0 W)
    (fun c pre W => (c = .ret ∧ ∃ ini x, pre = ini ++ [(x : Nat × Ex.Bd)] ∧ (∀ p ∈ ini, (p.2.1.toList == s.toList) = false) ∧ (x.2.1.toList == s.toList) = true ∧ W.cell? ⟨w.heap.size + 1, 0, none⟩ = some (.int .i64 x.2.2)) ∧ Below w.heap.size w W)
    (OwnFrom.and (Own.from (fun s A B row hs hg hr => ⟨hs.1, cell_kept hs.2.1 hg hr, cell_kept hs.2.2.1 hg hr, (frozen_kept hs.2.2.1 hg hr).trans hs.2.2.2⟩) _) (ownFrom_below (Nat.le_refl _) (Nat.le_refl _)))
    (fun c => OwnFrom.and (Own.from (fun s A B row hs hg hr => by obtain ⟨hc, ini, x, e1, e2, e3, e4⟩ := hs; exact ⟨hc, ini, x, e1, e2, e3, cell_kept e4 hg hr⟩) _) (ownFrom_below (Nat.le_refl _) (by omega)))
    ⟨⟨by simp, hx2, y0, yf⟩, Below.refl _ _⟩
    (fun x a' W => ∃ Bx, w.heap.size + 1 < Bx ∧ (W.cell? ⟨Bx, 0, none⟩ = some (.string x.2.1) ∧ W.cell? ⟨Bx, 1, none⟩ = some (.int .i64 x.2.2)) ∧ a' = { tmps := #[(.agg #[.int .i64 2, .int .i64 n, .string s, .slice A len cap]), .slice V zs.length vc, (.pointer (some ⟨w.heap.size, 0, none⟩)), undef, (.pointer (some ⟨w.heap.size + 1, 0, none⟩)), (.pointer (some ⟨k1, 0, none⟩)), (.pointer (some ⟨k1 + 1, 0, none⟩)), .bool false, undef, (.pointer (some ⟨Bx, 0, none⟩)), (.tuple #[(.agg #[.int .i64 0, .int .i64 0, .string ⟨#[]⟩, .slice none 0 0]), (.agg #[.int .i64 0, .int .i64 0, .string ⟨#[]⟩, .slice none 0 0]), .bool false]), (.agg #[.int .i64 2, .int .i64 n, .string s, .slice A len cap]), (.tuple #[(.agg #[.int .i64 0, .int .i64 0, .string ⟨#[]⟩, .slice none 0 0]), (.agg #[.int .i64 0, .int .i64 0, .string ⟨#[]⟩, .slice none 0 0]), .bool false]), (.agg #[.int .i64 0, .int .i64 0, .string ⟨#[]⟩, .slice none 0 0]), (.agg #[.int .i64 0, .int .i64 0, .string ⟨#[]⟩, .slice none 0 0]), .bool false, .bool false, .bool false, undef, undef, undef, undef, undef, undef, undef, undef, undef, .bool false, (.pointer (some ⟨w.heap.size, 0, none⟩)), .int .i64 2, .bool false, undef, undef, .bool true, (.pointer (some ⟨w.heap.size, 0, none⟩)), .int .i64 2, .bool true, .slice V zs.length vc, (.func (.func 161) #[] #[(.pointer (some ⟨k1 + 1 + 1, 0, none⟩))]), .int .i64 (x.1 : Int), (.agg #[.string x.2.1, .int .i64 x.2.2]), undef, undef, undef, undef, undef, undef, undef], defers := [] })
    (fun x a' _ X Y row hs hg hr => by obtain ⟨Bx, h1, ⟨h2, h3⟩, h4⟩ := hs; exact ⟨Bx, h1, ⟨cell_kept h2 hg (fun r e => (hr r e).2), cell_kept h3 hg (fun r e => (hr r e).2)⟩, h4⟩)
    ?assign ?body ?done ?stop
  case assign =>
    rintro l pre x W K ⟨⟨i1, i2, i3, i4⟩, i5⟩ hK
    gi_wp2
    have hs5 := i5.size
    have ha := fun (o : Obj) => (Below.refl W.heap.size W).alloc (Nat.le_refl _) o
    have hB := Blk.new W 203 [.string x.2.1, .int .i64 x.2.2]
    refine hK _ _ ((KeepsOthers.alloc _ _).from _) ((Below.refl _ W).alloc hs5 _) ⟨⟨i1, ((ha _).cell (p := ⟨w.heap.size, 2, none⟩) (show w.heap.size < W.heap.size by omega)).trans i2, ((ha _).cell (p := ⟨w.heap.size + 1, 0, none⟩) (show w.heap.size + 1 < W.heap.size by omega)).trans i3, ((ha _).frozen (p := ⟨w.heap.size + 1, 0, none⟩) (show w.heap.size + 1 < W.heap.size by omega)).trans i4⟩, i5.alloc hs5 _⟩ ⟨W.heap.size, by omega, ⟨(hB.cell 0).trans rfl, (hB.cell 1).trans rfl⟩, rfl⟩
  case body =>
    rintro l pre x a' W hl ⟨r, hr⟩ ⟨⟨i1, i2, i3, i4⟩, i5⟩ ⟨Bx, hBx, ⟨bx0, bx1⟩, rfl⟩ hlt
    rcases hq : (x.2.1.toList == s.toList) with _ | _
    · gi_wp2
      exact ⟨KeepsFrom.refl _ _, Below.refl _ _, ⟨fun p hp => (List.mem_append.1 hp).elim (i1 p) (fun e => by simp at e; subst e; exact hq), i2, i3, i4⟩, i5⟩
    · have i6 := hbw3.trans (i5.mono (show w.heap.size ≤ W0.heap.size by omega))
      gi_wp2
      exact ⟨(KeepsOthers.setCell _ _ _).from _, ⟨rfl, pre, x, rfl, i1, hq, World.cell?_setCell_same' _ _ _ (by rw [i3]; rfl)⟩, i6.setCell (p := ⟨w.heap.size + 1, 0, none⟩) (by simp) _⟩
  case done =>
    rintro D ys W hD rfl ⟨⟨i1, i2, i3, i4⟩, i0⟩ hK
    have i5 := hbw3.trans (i0.mono (show w.heap.size ≤ W0.heap.size by omega))
    clear i0
    gi_wp2
    have hK' := (KeepsOthers.setCell W ⟨w.heap.size + 1, 0, none⟩ (.int .i64 0)).same D _ hK rfl
    refine ⟨by simp, .inl ⟨_, _, rfl, run_takeDeferred hK', ?_⟩⟩
    have hc5 := cell_kept (World.cell?_setCell_same' W ⟨w.heap.size + 1, 0, none⟩ (.int .i64 0) (by rw [i3]; rfl)) (grownBy_putObj' _ D (.deferred none)) (fun r e => by cases e; exact ⟨_, hK', rfl⟩)
    refine ⟨.int .i64 0, by simp [results, Tryd.results112, go_sem, hc5], ⟨0, rfl, .inl ⟨rfl, i1⟩⟩, (i5.setCell (p := ⟨w.heap.size + 1, 0, none⟩) (by simp) _).trans (belowK_b (w := w) (Nat.le_refl _) _ D _ _ (by omega) hK' rfl rfl)⟩
  case stop =>
    rintro D c pre W hD ⟨m, hm, rfl⟩ ⟨⟨rfl, ini, x, e1, e2, e3, e4⟩, i5⟩ hK
    gi_wp2
    refine ⟨by simp, .inl ⟨_, _, rfl, run_takeDeferred hK, ?_⟩⟩
    have hc5 := cell_kept e4 (grownBy_putObj' _ D (.deferred none)) (fun r e => by cases e; exact ⟨_, hK, rfl⟩)
    refine ⟨.int .i64 x.2.2, by simp [results, Tryd.results112, go_sem, hc5], ⟨_, rfl, .inr ⟨m, ini, x, hm, e1, e3, e2, rfl⟩⟩, i5.trans (belowK_b (w := w) (Nat.le_refl _) W D _ _ (by omega) hK rfl rfl)⟩
end Go.Proofs.YtkjmddgnfgbioaaDoor


namespace Go.Proofs.YtkjmddgnfgbioaaDoor
set_option linter.unusedVariables false
set_option linter.unusedSimpArgs false
set_option maxRecDepth 100000
open Go.RowKit

namespace Ex
def bs (zs : List Bd) : List (Bs × Int) := zs.map fun z => (z.1.data.toList, z.2)
theorem look_none (s : Bs) : ∀ l : List (Bs × Int), (∀ b ∈ l, (b.1 == s) = false) → look s l = 0
  | [], _ => rfl
  | b :: l, h => by
    have ha : l.any (fun x => x.1 == s) = false := by simpa using fun x y hx => by simpa using h (x, y) (List.mem_cons_of_mem _ hx)
    unfold look
    rw [ha, h b List.mem_cons_self]
    rfl
theorem look_last (s : Bs) (b : Bs × Int) (r : List (Bs × Int)) (hb : (b.1 == s) = true) (hr : ∀ b ∈ r, (b.1 == s) = false) : ∀ p : List (Bs × Int), look s (p ++ b :: r) = b.2
  | [] => by
    have ha : r.any (fun x => x.1 == s) = false := by simpa using fun x y hx => by simpa using hr (x, y) hx
    rw [List.nil_append, look, ha, hb]
    rfl
  | c :: p => by
    have ha : (p ++ b :: r).any (fun x => x.1 == s) = true := by simp only [List.any_append, List.any_cons, hb, Bool.true_or, Bool.or_true]
    rw [List.cons_append, look, ha]
    exact look_last s b r hb hr p
theorem mem_down {zs : List Bd} {m : Nat} {z : Bd} (h : z ∈ zs.drop m) : ∃ p ∈ down zs m, p.2 = z := by
  have : z ∈ (down zs m).map Prod.snd := by rw [down_snd]; exact List.mem_reverse.2 h
  exact List.mem_map.1 this
theorem look_down_none (s : ByteArray) (zs : List Bd) (h : ∀ p ∈ down zs 0, (p.2.1.toList == s.toList) = false) : look s.data.toList (bs zs) = 0 := by
  refine look_none _ _ fun b hb => ?_
  obtain ⟨z, hz, rfl⟩ := List.mem_map.1 hb
  obtain ⟨p, hp, rfl⟩ := mem_down (zs := zs) (m := 0) (by simpa using hz)
  simpa [ByteArray.toList_eq] using h p hp
theorem look_down_some (s : ByteArray) (zs : List Bd) (m : Nat) (ini : List (Nat × Bd)) (x : Nat × Bd) (h : down zs m = ini ++ [x]) (hx : (x.2.1.toList == s.toList) = true) (hi : ∀ p ∈ ini, (p.2.1.toList == s.toList) = false) : look s.data.toList (bs zs) = x.2.2 := by
  have h1 := down_snd zs m
  rw [h, List.map_append] at h1
  have h2 : zs.drop m = x.2 :: (ini.map Prod.snd).reverse := by
    have := congrArg List.reverse h1
    simpa using this.symm
  have h3 : zs = zs.take m ++ x.2 :: (ini.map Prod.snd).reverse := by rw [← h2, List.take_append_drop]
  have h4 : bs zs = bs (zs.take m) ++ (x.2.1.data.toList, x.2.2) :: bs (ini.map Prod.snd).reverse := by
    conv => lhs; rw [h3]
    simp [bs]
  rw [h4]
  refine look_last _ _ _ (by simpa [ByteArray.toList_eq] using hx) (fun b hb => ?_) _
  obtain ⟨z, hz, rfl⟩ := List.mem_map.1 hb
  obtain ⟨p, hp, rfl⟩ := List.mem_map.1 (List.mem_reverse.1 hz)
  simpa [ByteArray.toList_eq] using hi p hp
end Ex

/-- **expr.Eval** -/
theorem eval_ok (v : Value) (zs : List Ex.Bd) (hr : zs.length ≤ 8796093022200) : ∀ e : Ex.X, EvalOK v zs (Ex.bs zs) e
  | .num n => fun w cs h hv => by
    cases h with
    | num n s A len cap h1 h2 h3 => exact eval_num n s A len cap v w h1 h2
  | .bad => fun w cs h hv => by
    cases h with
    | bad k n s A len cap h1 h2 h3 h4 h5 => exact eval_bad k n s A len cap v w h1 h2 h3 h4 h5
  | .two k a b => eval_two v zs _ k a b (eval_ok v zs hr a) (eval_ok v zs hr b)
  | .name s => fun w cs h hv => by
    cases h with
    | name n s A len cap h1 h2 =>
      obtain ⟨V, c, rfl, -, -, -, hc⟩ := hv
      refine (eval_name_in n s A len cap w h1 h2 zs V c hc hr).mono ?_
      rintro e w' ⟨⟨r, rfl, ⟨rfl, h⟩ | ⟨m, ini, x, hm, h, hx, hi, rfl⟩⟩, hb⟩
      · exact ⟨by rw [Ex.evl, Ex.look_down_none s zs h], hb⟩
      · exact ⟨by rw [Ex.evl, Ex.look_down_some s zs m ini x h hx hi], hb⟩
end Go.Proofs.YtkjmddgnfgbioaaDoor


namespace Go.Proofs.YtkjmddgnfgbioaaDoor.St
set_option linter.unusedVariables false
set_option linter.unusedSimpArgs false
set_option maxRecDepth 100000
open Ex

/-- statements one behind the other: the first one's kind, name, expressions, body, else; and the rest -/
inductive P where
  | nil
  | cons (k : Int) (name : Bs) (a b : X) (body els rest : P)

def P.length : P → Nat
  | .nil => 0
  | .cons _ _ _ _ _ _ r => r.length + 1
/-- how much there is to read -/
def P.size : P → Nat
  | .nil => 0
  | .cons _ _ a b body els r => 1 + a.leaves + b.leaves + body.size + els.size + r.size
theorem P.length_le : ∀ p : P, p.length ≤ p.size
  | .nil => Nat.le_refl _
  | .cons _ _ a b body els r => by
    have := r.length_le
    unfold P.length P.size
    omega
def P.append : P → P → P
  | .nil, q => q
  | .cons k n a b body els r, q => .cons k n a b body els (r.append q)
instance : Append P := ⟨P.append⟩
theorem P.nil_append (q : P) : P.nil ++ q = q := rfl
theorem P.cons_append (k : Int) (n : Bs) (a b : X) (body els r q : P) : P.cons k n a b body els r ++ q = .cons k n a b body els (r ++ q) := rfl
theorem P.append_nil : ∀ p : P, p ++ P.nil = p
  | .nil => rfl
  | .cons k n a b body els r => by rw [P.cons_append, r.append_nil]
theorem P.append_assoc : ∀ p q r : P, p ++ q ++ r = p ++ (q ++ r)
  | .nil, q, r => rfl
  | .cons k n a b body els s, q, r => by rw [P.cons_append, P.cons_append, P.cons_append, P.append_assoc s]
theorem P.length_append : ∀ p q : P, (p ++ q).length = p.length + q.length
  | .nil, q => by rw [P.nil_append]; simp [P.length]
  | .cons k n a b body els r, q => by rw [P.cons_append, P.length, P.length, r.length_append]; omega
theorem P.size_append : ∀ p q : P, (p ++ q).size = p.size + q.size
  | .nil, q => by rw [P.nil_append]; simp [P.size]
  | .cons k n a b body els r, q => by rw [P.cons_append, P.size, P.size, r.size_append]; omega
end Go.Proofs.YtkjmddgnfgbioaaDoor.St


namespace Go.Proofs.YtkjmddgnfgbioaaDoor.St
set_option linter.unusedVariables false
set_option linter.unusedSimpArgs false
set_option maxRecDepth 100000
open Ex

/-- how many labels a statement has, its lists of statements having so many -/
def lab1 (k : Int) (b e : Nat) : Nat := if k = 2 ∨ k = 3 then 1 else if k = 4 ∨ k = 5 ∨ k = 7 then b else if k = 6 then b + e else 0
def labels : P → Nat
  | .nil => 0
  | .cons k _ _ _ body els r => lab1 k (labels body) (labels els) + labels r
theorem lab1_le (k : Int) (b e : Nat) : lab1 k b e ≤ 1 + b + e := by
  unfold lab1
  split
  · omega
  · split
    · omega
    · split <;> omega
theorem labels_le : ∀ p : P, labels p ≤ p.size
  | .nil => Nat.le_refl _
  | .cons k _ a b body els r => by
    have h1 := labels_le body
    have h2 := labels_le els
    have h3 := labels_le r
    have h4 := lab1_le k (labels body) (labels els)
    unfold labels P.size
    omega
theorem labels_append : ∀ p q : P, labels (p ++ q) = labels p + labels q
  | .nil, q => by rw [P.nil_append]; simp [labels]
  | .cons k n a b body els r, q => by rw [P.cons_append, labels, labels, labels_append r]; omega

/-- i, j: of one of both -/
def mixed (A B : Nat → Prop) (i j : Nat) : Prop := ∃ x y, A x ∧ B y ∧ i = min x y ∧ j = max x y
def span (l n : Nat) (x : Nat) : Prop := l ≤ x ∧ x < l + n
def none_ (_ : Nat) : Prop := False
def both (A B : Nat → Prop) (x : Nat) : Prop := A x ∨ B x

/-- what a statement leaves to be done, its lists leaving so much -/
def news1 (k : Int) (l n : Nat) (B E : Nat → Prop) (x : Nat) : Prop := (k = 4 ∧ span l n x) ∨ (k = 6 ∧ (B x ∨ E x)) ∨ (k = 7 ∧ B x)
def news : Nat → P → Nat → Prop
  | _, .nil => none_
  | l, .cons k _ _ _ body els r => both (news1 k l (lab1 k (labels body) (labels els)) (news l body) (news (l + labels body) els)) (news (l + lab1 k (labels body) (labels els)) r)
/-- what is done at once within a statement -/
def in1 (k : Int) (l n : Nat) (A : Nat → Prop) (B E : Nat → Nat → Prop) (i j : Nat) : Prop :=
  ((k = 4 ∨ k = 5) ∧ B i j) ∨ (k = 6 ∧ (B i j ∨ E i j)) ∨ (k = 7 ∧ (B i j ∨ mixed A (span l n) i j))
def noted : Nat → (Nat → Prop) → P → Nat → Nat → Prop
  | _, _, .nil, _, _ => False
  | l, O, .cons k _ _ _ body els r, i, j =>
    mixed O (span l (lab1 k (labels body) (labels els))) i j ∨
    in1 k l (lab1 k (labels body) (labels els)) (news l body) (noted l none_ body) (noted (l + labels body) none_ els) i j ∨
    noted (l + lab1 k (labels body) (labels els)) (both O (news1 k l (lab1 k (labels body) (labels els)) (news l body) (news (l + labels body) els))) r i j

/-! ### they lie where they ought -/
theorem news_span : ∀ (p : P) (l x : Nat), news l p x → span l (labels p) x
  | .nil, _, _, h => h.elim
  | .cons k _ _ _ body els r, l, x, h => by
    unfold labels
    rcases h with h | h
    · rcases h with ⟨hk, h⟩ | ⟨hk, h | h⟩ | ⟨hk, h⟩
      · unfold span at h ⊢; omega
      · have := news_span body l x h
        subst hk
        simp only [lab1, span] at this ⊢
        simp
        omega
      · have := news_span els _ x h
        subst hk
        simp only [lab1, span] at this ⊢
        simp
        omega
      · have := news_span body l x h
        subst hk
        simp only [lab1, span] at this ⊢
        simp
        omega
    · have := news_span r _ x h
      unfold span at this ⊢
      omega

theorem mixed_lt {A B : Nat → Prop} {n i j : Nat} (hA : ∀ x, A x → x < n) (hB : ∀ x, B x → x < n) (h : mixed A B i j) : i < n ∧ j < n := by
  obtain ⟨x, y, hx, hy, rfl, rfl⟩ := h
  have := hA x hx
  have := hB y hy
  omega

/-! ### laws -/
theorem mixed_none (B : Nat → Prop) (i j : Nat) : ¬ mixed none_ B i j := fun ⟨_, _, h, _⟩ => h
theorem mixed_mono {A A' B : Nat → Prop} (h : ∀ x, A x → A' x) {i j : Nat} (hm : mixed A B i j) : mixed A' B i j := by
  obtain ⟨x, y, hx, hy, e⟩ := hm
  exact ⟨x, y, h x hx, hy, e⟩
theorem noted_mono : ∀ (p : P) (l : Nat) (O O' : Nat → Prop) (_ : ∀ x, O x → O' x) (i j : Nat), noted l O p i j → noted l O' p i j
  | .nil, _, _, _, _, _, _, h => h
  | .cons k _ _ _ body els r, l, O, O', hO, i, j, h => by
    rcases h with h | h | h
    · exact .inl (mixed_mono hO h)
    · exact .inr (.inl h)
    · exact .inr (.inr (noted_mono r _ _ _ (fun x hx => hx.imp (hO x) id) i j h))

theorem both_assoc (A B C : Nat → Prop) (x : Nat) : both (both A B) C x ↔ both A (both B C) x := by unfold both; exact or_assoc
theorem noted_iff (p : P) (l : Nat) {O O' : Nat → Prop} (h : ∀ x, O x ↔ O' x) (i j : Nat) : noted l O p i j ↔ noted l O' p i j :=
  ⟨noted_mono p l O O' (fun x => (h x).1) i j, noted_mono p l O' O (fun x => (h x).2) i j⟩
theorem both_none (A : Nat → Prop) (x : Nat) : both A none_ x ↔ A x := by unfold both none_; simp
theorem none_both (A : Nat → Prop) (x : Nat) : both none_ A x ↔ A x := by unfold both none_; simp

theorem noted_append : ∀ (p q : P) (l : Nat) (O : Nat → Prop) (i j : Nat), noted l O (p ++ q) i j ↔ noted l O p i j ∨ noted (l + labels p) (both O (news l p)) q i j
  | .nil, q, l, O, i, j => by
    rw [P.nil_append]
    simp only [noted, false_or, labels, Nat.add_zero]
    exact noted_iff q l (fun x => (both_none O x).symm) i j
  | .cons k n a b body els r, q, l, O, i, j => by
    rw [P.cons_append]
    simp only [noted]
    rw [noted_append r q]
    rw [or_assoc, or_assoc]
    refine or_congr Iff.rfl (or_congr Iff.rfl (or_congr Iff.rfl ?_))
    rw [labels, ← Nat.add_assoc]
    exact noted_iff q _ (fun x => both_assoc _ _ _ x) i j
theorem news_append : ∀ (p q : P) (l x : Nat), news l (p ++ q) x ↔ news l p x ∨ news (l + labels p) q x
  | .nil, q, l, x => by
    rw [P.nil_append]
    simp [news, none_, labels]
  | .cons k n a b body els r, q, l, x => by
    rw [P.cons_append]
    simp only [news, both]
    rw [news_append r q, labels, ← Nat.add_assoc, or_assoc]

/-- all that is open is at once with all that comes -/
theorem mixed_noted : ∀ (p : P) (l : Nat) (O : Nat → Prop) (i j : Nat), mixed O (span l (labels p)) i j → noted l O p i j
  | .nil, l, O, i, j, h => by
    obtain ⟨x, y, _, hy, _⟩ := h
    unfold span labels at hy
    omega
  | .cons k n a b body els r, l, O, i, j, h => by
    obtain ⟨x, y, hx, hy, hi, hj⟩ := h
    by_cases hlt : y < l + lab1 k (labels body) (labels els)
    · exact .inl ⟨x, y, hx, ⟨hy.1, hlt⟩, hi, hj⟩
    · refine .inr (.inr (mixed_noted r _ _ i j ⟨x, y, .inl hx, ?_, hi, hj⟩))
      unfold span labels at hy
      unfold span
      omega

/-- one statement -/
def fin (b : P) : P := .cons 5 [] .bad .bad b .nil .nil
theorem labels_cons5 (n : Bs) (x y : X) (b e : P) : labels (.cons 5 n x y b e .nil) = labels b := by simp [labels, lab1]
theorem noted_fin (n : Bs) (x y : X) (b e : P) (l : Nat) (O : Nat → Prop) (i j : Nat) : noted l O (.cons 5 n x y b e .nil) i j ↔ mixed O (span l (labels b)) i j ∨ noted l none_ b i j := by
  simp [noted, in1, lab1]
theorem news_fin (n : Bs) (x y : X) (b e : P) (l z : Nat) : ¬ news l (.cons 5 n x y b e .nil) z := by
  simp [news, both, news1, none_]

theorem more (a b c : P) (n : Bs) (x y : X) (e : P) (i j : Nat) (h : noted 0 none_ (a ++ (.cons 5 n x y b e .nil ++ c)) i j) : noted 0 none_ (a ++ (b ++ c)) i j := by
  rw [noted_append] at h ⊢
  refine h.imp id fun h => ?_
  rw [noted_append] at h ⊢
  rcases h with h | h
  · rw [noted_fin] at h
    rcases h with h | h
    · exact .inl (mixed_noted _ _ _ _ _ h)
    · exact .inl (noted_mono _ _ _ _ (fun x hx => hx.elim) _ _ h)
  · rw [labels_cons5] at h
    refine .inr (noted_mono _ _ _ _ (fun x hx => hx.imp id fun hx => ?_) _ _ h)
    exact (news_fin _ _ _ _ _ _ _ hx).elim

/-- a round of the program's loop over statements -/
theorem round {k : Int} {nm : Bs} {a b : X} {body els rest p : P} {l l' m : Nat} {O O' O5 : Nat → Prop} {R R' R5 : Nat → Nat → Prop} (hm : m = lab1 k (labels body) (labels els))
    (h2 : ∀ x, O' x → x < l') (h3 : l' + labels (.cons k nm a b body els rest) = l + labels p) (h4 : ∀ x, both O' (news l' (.cons k nm a b body els rest)) x ↔ both O (news l p) x)
    (h5 : ∀ i j, (R' i j ∨ noted l' O' (.cons k nm a b body els rest) i j) ↔ (R i j ∨ noted l O p i j))
    (hO : ∀ x, O5 x ↔ both O' (news1 k l' m (news l' body) (news (l' + labels body) els)) x)
    (hR : ∀ i j, R5 i j ↔ (R' i j ∨ mixed O' (span l' m) i j) ∨ in1 k l' m (news l' body) (noted l' none_ body) (noted (l' + labels body) none_ els) i j) :
    (∀ x, O5 x → x < l' + m) ∧ l' + m + labels rest = l + labels p ∧ (∀ x, both O5 (news (l' + m) rest) x ↔ both O (news l p) x) ∧ (∀ i j, (R5 i j ∨ noted (l' + m) O5 rest i j) ↔ (R i j ∨ noted l O p i j)) := by
  subst hm
  refine ⟨fun x hx => ?_, ?_, fun x => ?_, fun i j => ?_⟩
  · rcases (hO x).1 hx with h | h
    · have := h2 x h
      omega
    · have := news_span (.cons k nm a b body els .nil) l' x (.inl h)
      simp only [labels, span] at this
      omega
  · rw [← h3, labels]
    omega
  · rw [← h4 x]
    simp only [news]
    rw [← both_assoc]
    exact or_congr (hO x) Iff.rfl
  · rw [← h5 i j]
    simp only [noted]
    rw [hR i j, or_assoc, or_assoc]
    refine or_congr Iff.rfl (or_congr Iff.rfl (or_congr Iff.rfl ?_))
    exact noted_iff rest _ hO i j

/-! ### the two turned programs -/
def plain : P → P
  | .nil => .nil
  | .cons k n a b body els r => if k = 4 ∨ k = 5 then .cons 6 [] (.num 1) .bad (plain body) .nil (plain r) else .cons k n a b (plain body) (plain els) (plain r)
def calm : P → P
  | .nil => .nil
  | .cons k n a b body els r => if k = 4 then .cons 5 [] .bad .bad (.cons 4 n a b (calm body) (calm els) .nil) .nil (calm r) else .cons k n a b (calm body) (calm els) (calm r)

theorem plain_quiet : ∀ (p : P), (∀ l x, ¬ news l (plain p) x) ∧ (∀ l i j, ¬ noted l none_ (plain p) i j)
  | .nil => ⟨fun _ _ h => h, fun _ _ _ h => h⟩
  | .cons k n a b body els r => by
    obtain ⟨b1, b2⟩ := plain_quiet body
    obtain ⟨e1, e2⟩ := plain_quiet els
    obtain ⟨r1, r2⟩ := plain_quiet r
    unfold plain
    split
    · have hn : ∀ l x, ¬ both none_ (news1 6 l (lab1 6 (labels (plain body)) (labels P.nil)) (news l (plain body)) (news (l + labels (plain body)) .nil)) x := fun l x h => by
        rcases h with h | ⟨h, _⟩ | ⟨_, h | h⟩ | ⟨h, _⟩
        · exact h
        · exact absurd h (by decide)
        · exact b1 _ _ h
        · exact h
        · exact absurd h (by decide)
      refine ⟨fun l x h => ?_, fun l i j h => ?_⟩
      · rcases h with h | h
        · exact hn l x (.inr h)
        · exact r1 _ _ h
      · rcases h with h | (⟨h, _⟩ | ⟨_, h | h⟩ | ⟨h, _⟩) | h
        · exact mixed_none _ _ _ h
        · exact absurd h (by decide)
        · exact b2 _ _ _ h
        · exact h
        · exact absurd h (by decide)
        · exact r2 _ _ _ (noted_mono _ _ _ _ (fun x hx => hn l x hx) _ _ h)
    · rename_i hk
      have hn : ∀ l m x, ¬ both none_ (news1 k l m (news l (plain body)) (news (l + labels (plain body)) (plain els))) x := fun l m x h => by
        rcases h with h | ⟨h, _⟩ | ⟨_, h | h⟩ | ⟨_, h⟩
        · exact h
        · exact hk (.inl h)
        · exact b1 _ _ h
        · exact e1 _ _ h
        · exact b1 _ _ h
      refine ⟨fun l x h => ?_, fun l i j h => ?_⟩
      · rcases h with h | h
        · exact hn l _ x (.inr h)
        · exact r1 _ _ h
      · rcases h with h | (⟨_, h⟩ | ⟨_, h | h⟩ | ⟨_, h | h⟩) | h
        · exact mixed_none _ _ _ h
        · exact b2 _ _ _ h
        · exact b2 _ _ _ h
        · exact e2 _ _ _ h
        · exact b2 _ _ _ h
        · obtain ⟨x, y, hx, _⟩ := h
          exact b1 _ _ hx
        · exact r2 _ _ _ (noted_mono _ _ _ _ (fun x hx => hn l _ x hx) _ _ h)

theorem calm_quiet : ∀ (p : P), (∀ l x, ¬ news l (calm p) x) ∧ (∀ l i j, ¬ noted l none_ (calm p) i j)
  | .nil => ⟨fun _ _ h => h, fun _ _ _ h => h⟩
  | .cons k n a b body els r => by
    obtain ⟨b1, b2⟩ := calm_quiet body
    obtain ⟨e1, e2⟩ := calm_quiet els
    obtain ⟨r1, r2⟩ := calm_quiet r
    unfold calm
    split
    · refine ⟨fun l x h => ?_, fun l i j h => ?_⟩
      · rcases h with h | h
        · simp [news1] at h
        · exact r1 _ _ h
      · rcases h with h | (⟨_, h⟩ | ⟨h, _⟩ | ⟨h, _⟩) | h
        · exact mixed_none _ _ _ h
        · rcases h with h | (⟨_, h⟩ | ⟨h, _⟩ | ⟨h, _⟩) | h
          · exact mixed_none _ _ _ h
          · exact b2 _ _ _ h
          · exact absurd h (by decide)
          · exact absurd h (by decide)
          · exact h
        · exact absurd h (by decide)
        · exact absurd h (by decide)
        · refine r2 _ _ _ (noted_mono _ _ _ _ (fun x hx => ?_) _ _ h)
          rcases hx with h | h
          · exact h
          · simp [news1] at h
    · rename_i hk
      have hn : ∀ l m x, ¬ both none_ (news1 k l m (news l (calm body)) (news (l + labels (calm body)) (calm els))) x := fun l m x h => by
        rcases h with h | ⟨h, _⟩ | ⟨_, h | h⟩ | ⟨_, h⟩
        · exact h
        · exact hk h
        · exact b1 _ _ h
        · exact e1 _ _ h
        · exact b1 _ _ h
      refine ⟨fun l x h => ?_, fun l i j h => ?_⟩
      · rcases h with h | h
        · exact hn l _ x (.inr h)
        · exact r1 _ _ h
      · rcases h with h | (⟨_, h⟩ | ⟨_, h | h⟩ | ⟨_, h | h⟩) | h
        · exact mixed_none _ _ _ h
        · exact b2 _ _ _ h
        · exact b2 _ _ _ h
        · exact e2 _ _ _ h
        · exact b2 _ _ _ h
        · obtain ⟨x, y, hx, _⟩ := h
          exact b1 _ _ hx
        · exact r2 _ _ _ (noted_mono _ _ _ _ (fun x hx => hn l _ x hx) _ _ h)

/-! ### what the program answers -/
open Classical in
noncomputable def listOf (n : Nat) (S : Nat → Prop) : List Nat := (List.range n).filter fun j => decide (S j)
open Classical in
noncomputable def pairsOf (n : Nat) (R : Nat → Nat → Prop) : List (Nat × Nat) := (List.range n).flatMap fun i => (listOf n (R i)).map fun j => (i, j)
noncomputable def pairs (p : P) : List (Nat × Nat) := if 65535 < labels p then [] else pairsOf (labels p) (noted 0 none_ p)
noncomputable def open_ (p : P) : List Nat := if 65535 < labels p then [] else listOf (labels p) (news 0 p)
theorem mem_listOf {n : Nat} {S : Nat → Prop} {j : Nat} : j ∈ listOf n S ↔ j < n ∧ S j := by simp [listOf]
theorem mem_pairsOf {n : Nat} {R : Nat → Nat → Prop} {x : Nat × Nat} : x ∈ pairsOf n R ↔ x.1 < n ∧ x.2 < n ∧ R x.1 x.2 := by
  obtain ⟨i, j⟩ := x
  simp only [pairsOf, List.mem_flatMap, List.mem_range, List.mem_map, Prod.mk.injEq, mem_listOf]
  constructor
  · rintro ⟨i', h1, j', ⟨h2, h3⟩, rfl, rfl⟩
    exact ⟨h1, h2, h3⟩
  · rintro ⟨h1, h2, h3⟩
    exact ⟨i, h1, j, ⟨h2, h3⟩, rfl, rfl⟩
theorem pairs_none {p : P} (h : ∀ i j, ¬ noted 0 none_ p i j) : pairs p = [] := by
  unfold pairs
  split
  · rfl
  · exact List.eq_nil_iff_forall_not_mem.2 fun x hx => h _ _ (mem_pairsOf.1 hx).2.2
theorem pairs_plain (p : P) : pairs (plain p) = [] := pairs_none ((plain_quiet p).2 0)
theorem pairs_calm (p : P) : pairs (calm p) = [] := pairs_none ((calm_quiet p).2 0)
theorem open_all (n : Bs) (x y : X) (b e : P) : open_ (.cons 5 n x y b e .nil) = [] := by
  unfold open_
  split
  · rfl
  · exact List.eq_nil_iff_forall_not_mem.2 fun z hz => news_fin n x y b e 0 z (mem_listOf.1 hz).2
theorem pairs_all (n : Bs) (x y : X) (b e : P) : pairs (.cons 5 n x y b e .nil) = pairs b := by
  unfold pairs
  rw [labels_cons5]
  have h : noted 0 none_ (.cons 5 n x y b e .nil) = noted 0 none_ b := by
    funext i j
    refine propext ((noted_fin n x y b e 0 none_ i j).trans ⟨fun h => h.resolve_left (mixed_none _ _ _), .inr⟩)
  rw [h]
theorem pairs_more (a b c : P) (n : Bs) (x y : X) (e : P) : ∀ z ∈ pairs (a ++ (.cons 5 n x y b e .nil ++ c)), z ∈ pairs (a ++ (b ++ c)) := by
  intro z hz
  unfold pairs at hz ⊢
  have e1 : labels (a ++ (.cons 5 n x y b e .nil ++ c)) = labels (a ++ (b ++ c)) := by rw [labels_append, labels_append, labels_append, labels_append, labels_cons5]
  rw [e1] at hz
  split
  · rename_i h; rw [if_pos h] at hz; exact hz
  · rename_i h
    rw [if_neg h] at hz
    obtain ⟨h1, h2, h3⟩ := mem_pairsOf.1 hz
    exact mem_pairsOf.2 ⟨h1, h2, more a b c n x y e _ _ h3⟩
end Go.Proofs.YtkjmddgnfgbioaaDoor.St


namespace Go.Proofs.YtkjmddgnfgbioaaDoor.Sp
set_option linter.unusedVariables false
set_option linter.unusedSimpArgs false
set_option maxRecDepth 100000

inductive T where
  | nil
  | one (c : Int) (wr : Bool) (lb : Int)
  | two (par : Bool) (l r : T)

abbrev Acc := Int × Bool × Int

def T.leaves : T → List Acc
  | .nil => []
  | .one c b l => [(c, b, l)]
  | .two _ l r => l.leaves ++ r.leaves
def T.size (t : T) : Nat := t.leaves.length
def T.span : T → Nat
  | .nil => 0
  | .one _ _ _ => 1
  | .two par l r => if par then max l.span r.span else l.span + r.span
def T.width : T → Nat
  | .nil => 0
  | .one _ _ _ => 1
  | .two par l r => if par then l.width + r.width else max l.width r.width

theorem T.size_two (p : Bool) (l r : T) : (T.two p l r).size = l.size + r.size := by simp [T.size, T.leaves]
def T.cnt : T → Nat
  | .nil => 1
  | .one _ _ _ => 1
  | .two _ l r => 1 + l.cnt + r.cnt
theorem T.size_le_cnt (t : T) : t.size ≤ t.cnt := by
  induction t with
  | nil => exact Nat.zero_le _
  | one _ _ _ => exact Nat.le_refl _
  | two p l r ihl ihr => rw [T.size_two, T.cnt]; omega
theorem T.span_le (t : T) : t.span ≤ t.size := by
  induction t with
  | nil => exact Nat.le_refl _
  | one _ _ _ => exact Nat.le_refl _
  | two p l r ihl ihr =>
    rw [T.size_two]
    cases p <;> simp only [T.span] <;> simp <;> omega
theorem T.width_le (t : T) : t.width ≤ t.size := by
  induction t with
  | nil => exact Nat.le_refl _
  | one _ _ _ => exact Nat.le_refl _
  | two p l r ihl ihr =>
    rw [T.size_two]
    cases p <;> simp only [T.width] <;> simp <;> omega
theorem T.area (t : T) : t.size ≤ t.span * t.width := by
  induction t with
  | nil => exact Nat.le_refl _
  | one _ _ _ => exact Nat.le_refl _
  | two p l r ihl ihr =>
    rw [T.size_two]
    cases p
    · simp only [T.span, T.width, Bool.false_eq_true, if_false, Nat.add_mul]
      exact Nat.add_le_add (Nat.le_trans ihl (Nat.mul_le_mul_left _ (Nat.le_max_left _ _))) (Nat.le_trans ihr (Nat.mul_le_mul_left _ (Nat.le_max_right _ _)))
    · simp only [T.span, T.width, if_true, Nat.mul_add]
      exact Nat.add_le_add (Nat.le_trans ihl (Nat.mul_le_mul_right _ (Nat.le_max_left _ _))) (Nat.le_trans ihr (Nat.mul_le_mul_right _ (Nat.le_max_right _ _)))
theorem T.zero (t : T) : (t.size = 0 ↔ t.span = 0) ∧ (t.size = 0 ↔ t.width = 0) := by
  have h1 := t.span_le
  have h2 := t.width_le
  have h3 := t.area
  refine ⟨⟨fun h => by omega, fun h => ?_⟩, ⟨fun h => by omega, fun h => ?_⟩⟩
  · rw [h, Nat.zero_mul] at h3; omega
  · rw [h, Nat.mul_zero] at h3; omega
end Go.Proofs.YtkjmddgnfgbioaaDoor.Sp


namespace Go.Proofs.YtkjmddgnfgbioaaDoor.Sr
set_option linter.unusedVariables false
set_option linter.unusedSimpArgs false
set_option maxRecDepth 100000
open Ex St

/-- what a run has come to -/
structure M where
  heap : List Int
  steps : Nat
  trace : List Sp.Acc

abbrev Env := List (Bs × Int)
def cell (n : Int) : Nat := (n % 8).toNat
theorem cell_lt (n : Int) : cell n < 8 := by unfold cell; omega

def M.step (m : M) : M := ⟨m.heap, m.steps + 1, m.trace⟩
def M.acc (m : M) (c : Nat) (wr : Bool) (l : Nat) : M := ⟨m.heap, m.steps, m.trace ++ [((c : Int), wr, (l : Int))]⟩
def M.put (m : M) (c : Nat) (v : Int) : M := ⟨m.heap.set c v, m.steps, m.trace⟩
/-- so many rounds -/
def iter : Nat → Int → (Int → M → M) → M → M
  | 0, _, _, m => m
  | n + 1, i, f, m => iter n (i + 1) f (f i m)
def run : P → Env → Nat → M → M
  | .nil, _, _, m => m
  | .cons k nm a b body els rest, env, l, m =>
    if k = 1 then run rest (env ++ [(nm, evl env a)]) l m.step
    else if k = 2 then run rest (env ++ [(nm, m.heap.getD (cell (evl env a)) 0)]) (l + 1) (m.step.acc (cell (evl env a)) false l)
    else if k = 3 then run rest env (l + 1) ((m.step.acc (cell (evl env a)) true l).put (cell (evl env a)) (evl env b))
    else if k = 4 ∨ k = 5 then run rest env (l + labels body) (run body env l m.step)
    else if k = 6 then run rest env (l + (labels body + labels els)) (if evl env a ≠ 0 then run body env l m.step else run els env (l + labels body) m.step)
    else if k = 7 then run rest env (l + labels body) (iter (evl env b - evl env a).toNat (evl env a) (fun i m => run body (env ++ [(nm, i)]) l m.step) m.step)
    else run rest env l m

/-! ### what is behind a part is behind the whole -/
/-- a way on: some steps, some accesses more; the cells that nobody names stay -/
structure On (m m' : M) : Prop where
  steps : m.steps ≤ m'.steps
  heap : m'.heap.length = m.heap.length
  trace : ∃ t, m'.trace = m.trace ++ t ∧ t.length ≤ m'.steps - m.steps ∧ ∀ c : Nat, (∀ x ∈ t, x.2.1 = true → x.1 ≠ (c : Int)) → m'.heap.getD c 0 = m.heap.getD c 0
theorem On.refl (m : M) : On m m := ⟨Nat.le_refl _, rfl, [], by simp, by simp, fun _ _ => rfl⟩
theorem On.trans {a b c : M} (h : On a b) (h' : On b c) : On a c := by
  obtain ⟨h1, h2, t, h3, h4, h5⟩ := h
  obtain ⟨g1, g2, u, g3, g4, g5⟩ := h'
  refine ⟨by omega, by omega, t ++ u, by rw [g3, h3, List.append_assoc], by rw [List.length_append]; omega, fun x hx => ?_⟩
  rw [g5 x (fun y hy => hx y (List.mem_append_right _ hy)), h5 x (fun y hy => hx y (List.mem_append_left _ hy))]
theorem On.step (m : M) : On m m.step := ⟨Nat.le_succ _, rfl, [], by simp [M.step], by simp, fun _ _ => rfl⟩
theorem On.read (m : M) (c : Nat) (l : Nat) : On m (m.step.acc c false l) := ⟨Nat.le_succ _, rfl, [_], rfl, by simp [M.step, M.acc], fun _ _ => rfl⟩
theorem On.write (m : M) (c : Nat) (l : Nat) (v : Int) : On m ((m.step.acc c true l).put c v) := by
  refine ⟨Nat.le_succ _, by simp [M.step, M.acc, M.put], [((c : Int), true, (l : Int))], rfl, by simp [M.step, M.acc, M.put], fun x hx => ?_⟩
  have := hx _ (List.mem_singleton.2 rfl) rfl
  simp only [M.step, M.acc, M.put, List.getD_eq_getElem?_getD]
  rw [List.getElem?_set_ne (by intro e; exact this (by simp [e]))]
theorem On.iter {f : Int → M → M} (hf : ∀ i m, On m (f i m)) : ∀ n i m, On m (iter n i f m)
  | 0, _, m => On.refl m
  | n + 1, i, m => (hf i m).trans (On.iter hf n (i + 1) (f i m))
theorem run_on : ∀ (p : P) (env : Env) (l : Nat) (m : M), On m (run p env l m)
  | .nil, _, _, m => On.refl m
  | .cons k nm a b body els rest, env, l, m => by
    unfold run
    split
    · exact (On.step m).trans (run_on rest _ _ _)
    · split
      · exact (On.read m _ _).trans (run_on rest _ _ _)
      · split
        · exact (On.write m _ _ _).trans (run_on rest _ _ _)
        · split
          · exact ((On.step m).trans (run_on body _ _ _)).trans (run_on rest _ _ _)
          · split
            · split
              · exact ((On.step m).trans (run_on body _ _ _)).trans (run_on rest _ _ _)
              · exact ((On.step m).trans (run_on els _ _ _)).trans (run_on rest _ _ _)
            · split
              · exact ((On.step m).trans (On.iter (fun i m => (On.step m).trans (run_on body _ _ _)) _ _ _)).trans (run_on rest _ _ _)
              · exact run_on rest _ _ _

/-! ### which names are free -/
/-- all its names are bound -/
def okx (bd : List Bs) : X → Prop
  | .name s => s ∈ bd
  | .two _ a b => okx bd a ∧ okx bd b
  | _ => True
def cl : P → List Bs → Prop
  | .nil, _ => True
  | .cons k nm a b body els rest, bd =>
    if k = 1 ∨ k = 2 then okx bd a ∧ cl rest (bd ++ [nm])
    else if k = 3 then (okx bd a ∧ okx bd b) ∧ cl rest bd
    else if k = 4 ∨ k = 5 then cl body bd ∧ cl rest bd
    else if k = 6 then (okx bd a ∧ cl body bd ∧ cl els bd) ∧ cl rest bd
    else if k = 7 then ((okx bd a ∧ okx bd b) ∧ cl body (bd ++ [nm])) ∧ cl rest bd
    else cl rest bd

/-- two environments that say the same of some names -/
def agree (bd : List Bs) (e e' : Env) : Prop := ∀ s ∈ bd, Ex.look s e = Ex.look s e'
theorem agree.snoc {bd : List Bs} {e e' : Env} (h : agree bd e e') (nm : Bs) (v : Int) : agree (bd ++ [nm]) (e ++ [(nm, v)]) (e' ++ [(nm, v)]) := fun s hs => by
  rw [look_snoc, look_snoc]
  by_cases h1 : (nm == s) = true
  · simp [h1]
  · rw [if_neg h1, if_neg h1]
    rcases List.mem_append.1 hs with hs | hs
    · exact h s hs
    · simp only [List.mem_singleton] at hs
      exact absurd (by simp [hs]) h1
theorem evl_agree {bd : List Bs} {e e' : Env} (h : agree bd e e') : ∀ x : X, okx bd x → evl e x = evl e' x
  | .num _, _ => rfl
  | .bad, _ => rfl
  | .name s, hs => h s hs
  | .two _ a b, hs => by rw [evl, evl, evl_agree h a hs.1, evl_agree h b hs.2]
theorem iter_congr {f g : Int → M → M} (h : ∀ i m, f i m = g i m) : ∀ n i m, iter n i f m = iter n i g m
  | 0, _, _ => rfl
  | n + 1, i, m => by rw [iter, iter, h, iter_congr h]
theorem run_agree : ∀ (p : P) (bd : List Bs) (e e' : Env) (l : Nat) (m : M), cl p bd → agree bd e e' → run p e l m = run p e' l m
  | .nil, _, _, _, _, _, _, _ => rfl
  | .cons k nm a b body els rest, bd, e, e', l, m, hc, h => by
    unfold cl at hc
    unfold run
    by_cases h1 : k = 1
    · rw [if_pos (.inl h1)] at hc
      rw [if_pos h1, if_pos h1, evl_agree h a hc.1]
      exact run_agree rest _ _ _ _ _ hc.2 (h.snoc _ _)
    by_cases h2 : k = 2
    · rw [if_pos (.inr h2)] at hc
      rw [if_neg h1, if_neg h1, if_pos h2, if_pos h2, evl_agree h a hc.1]
      exact run_agree rest _ _ _ _ _ hc.2 (h.snoc _ _)
    rw [if_neg (by omega)] at hc
    rw [if_neg h1, if_neg h1, if_neg h2, if_neg h2]
    by_cases h3 : k = 3
    · rw [if_pos h3] at hc
      rw [if_pos h3, if_pos h3, evl_agree h a hc.1.1, evl_agree h b hc.1.2]
      exact run_agree rest _ _ _ _ _ hc.2 h
    rw [if_neg h3] at hc
    rw [if_neg h3, if_neg h3]
    by_cases h4 : k = 4 ∨ k = 5
    · rw [if_pos h4] at hc
      rw [if_pos h4, if_pos h4, run_agree body _ _ _ _ _ hc.1 h]
      exact run_agree rest _ _ _ _ _ hc.2 h
    rw [if_neg h4] at hc
    rw [if_neg h4, if_neg h4]
    by_cases h6 : k = 6
    · rw [if_pos h6] at hc
      rw [if_pos h6, if_pos h6, evl_agree h a hc.1.1, run_agree body _ _ _ _ _ hc.1.2.1 h, run_agree els _ _ _ _ _ hc.1.2.2 h]
      exact run_agree rest _ _ _ _ _ hc.2 h
    rw [if_neg h6] at hc
    rw [if_neg h6, if_neg h6]
    by_cases h7 : k = 7
    · rw [if_pos h7] at hc
      rw [if_pos h7, if_pos h7, evl_agree h a hc.1.1.1, evl_agree h b hc.1.1.2]
      rw [iter_congr (fun i m => run_agree body _ _ _ _ _ hc.1.2 (h.snoc nm i))]
      exact run_agree rest _ _ _ _ _ hc.2 h
    rw [if_neg h7] at hc
    rw [if_neg h7, if_neg h7]
    exact run_agree rest _ _ _ _ _ hc h

theorem okx_mono {bd bd' : List Bs} (h : ∀ s ∈ bd, s ∈ bd') : ∀ x : X, okx bd x → okx bd' x
  | .num _, _ => trivial
  | .bad, _ => trivial
  | .name s, hs => h s hs
  | .two _ a b, hs => ⟨okx_mono h a hs.1, okx_mono h b hs.2⟩
theorem snoc_mono {bd bd' : List Bs} (h : ∀ s ∈ bd, s ∈ bd') (nm : Bs) : ∀ s ∈ bd ++ [nm], s ∈ bd' ++ [nm] := fun s hs => by
  rcases List.mem_append.1 hs with hs | hs
  · exact List.mem_append_left _ (h s hs)
  · exact List.mem_append_right _ hs
theorem cl_mono : ∀ (p : P) {bd bd' : List Bs}, (∀ s ∈ bd, s ∈ bd') → cl p bd → cl p bd'
  | .nil, _, _, _, _ => trivial
  | .cons k nm a b body els rest, bd, bd', h, hc => by
    unfold cl at hc ⊢
    split at hc
    · rename_i hk; rw [if_pos hk]; exact ⟨okx_mono h a hc.1, cl_mono rest (snoc_mono h nm) hc.2⟩
    rename_i hk; rw [if_neg hk]
    split at hc
    · rename_i hk; rw [if_pos hk]; exact ⟨⟨okx_mono h a hc.1.1, okx_mono h b hc.1.2⟩, cl_mono rest h hc.2⟩
    rename_i hk; rw [if_neg hk]
    split at hc
    · rename_i hk; rw [if_pos hk]; exact ⟨cl_mono body h hc.1, cl_mono rest h hc.2⟩
    rename_i hk; rw [if_neg hk]
    split at hc
    · rename_i hk; rw [if_pos hk]; exact ⟨⟨okx_mono h a hc.1.1, cl_mono body h hc.1.2.1, cl_mono els h hc.1.2.2⟩, cl_mono rest h hc.2⟩
    rename_i hk; rw [if_neg hk]
    split at hc
    · rename_i hk; rw [if_pos hk]; exact ⟨⟨⟨okx_mono h a hc.1.1.1, okx_mono h b hc.1.1.2⟩, cl_mono body (snoc_mono h nm) hc.1.2⟩, cl_mono rest h hc.2⟩
    rename_i hk; rw [if_neg hk]
    exact cl_mono rest h hc
end Go.Proofs.YtkjmddgnfgbioaaDoor.Sr


namespace Go.Proofs.YtkjmddgnfgbioaaDoor.Ex
set_option linter.unusedVariables false
set_option linter.unusedSimpArgs false
set_option maxRecDepth 100000
open Go

/-- where it stands first -/
def idx (s : ByteArray) (xs : List ByteArray) : Nat := xs.findIdx (fun x => s.toList == x.toList)
def has (s : ByteArray) (xs : List ByteArray) : Bool := xs.any (fun x => s.toList == x.toList)

theorem bytes_eq {x y : ByteArray} (h : (x.toList == y.toList) = true) : x = y := by
  have h1 : x.toList = y.toList := by simpa using h
  rw [ByteArray.toList_eq, ByteArray.toList_eq] at h1
  cases x
  cases y
  congr
  exact Array.toList_inj.1 h1
theorem snoc_eq {α : Type} {xs ys : List α} {k : Nat} {x y : α} (hx : xs[k]? = some x) (hy : ys[k]? = some y) (ht : xs.take k = ys.take k) (e : x = y) : xs.take (k + 1) = ys.take (k + 1) := by
  have hsn : ∀ (z : α) (l : List α), l[k]? = some z → l.take (k + 1) = l.take k ++ [z] := fun z l h => by
    obtain ⟨h', rfl⟩ := List.getElem?_eq_some_iff.1 h
    exact List.take_succ_eq_append_getElem h'
  rw [hsn _ _ hx, hsn _ _ hy, ht, e]

def ba (s : Bs) : ByteArray := ⟨s.toArray⟩
theorem ba_data (s : ByteArray) : ba s.data.toList = s := by cases s; simp [ba]
def names (acc : List ByteArray) : X → List ByteArray
  | .name s => if has (ba s) acc then acc else acc ++ [ba s]
  | .two _ a b => names (names acc a) b
  | _ => acc
theorem names_length (acc : List ByteArray) (e : X) : (names acc e).length ≤ acc.length + e.leaves := by
  induction e generalizing acc with
  | name s => unfold names X.leaves; split <;> simp
  | two k a b ia ib =>
    have h1 := ia acc
    have h2 := ib (names acc a)
    unfold names X.leaves; omega
  | num n => unfold names X.leaves; omega
  | bad => unfold names X.leaves; omega

/-! ### what does not occur -/
theorem has_names (s : ByteArray) : ∀ (e : X) (acc : List ByteArray), has s acc = true → has s (names acc e) = true
  | .num n, _, h => h
  | .bad, _, h => h
  | .name x, acc, h => by
    unfold names
    split
    · exact h
    · unfold has at *
      rw [List.any_append, h]
      rfl
  | .two k a b, acc, h => has_names s b _ (has_names s a _ h)
def occ (s : Bs) : X → Bool
  | .name x => x == s
  | .two _ a b => occ s a || occ s b
  | _ => false
theorem ba_beq (s : ByteArray) (x : Bs) : (s.toList == (ba x).toList) = (x == s.data.toList) := by
  rw [ByteArray.toList_eq, ByteArray.toList_eq, Bool.eq_iff_iff]
  simp only [beq_iff_eq, ba]
  exact eq_comm
theorem has_occ (s : ByteArray) : ∀ (e : X) (acc : List ByteArray), has s (names acc e) = (has s acc || occ s.data.toList e)
  | .num n, _ => by simp [names, occ]
  | .bad, _ => by simp [names, occ]
  | .name x, acc => by
    unfold names occ
    by_cases h : has (ba x) acc = true
    · rw [if_pos h]
      by_cases hx : (x == s.data.toList) = true
      · have : ba x = s := by
          have : x = s.data.toList := by simpa using hx
          rw [this, ba_data]
        rw [← this, h]
        rfl
      · rw [show (x == s.data.toList) = false by simpa using hx, Bool.or_false]
    · rw [if_neg h]
      unfold has
      rw [List.any_append, List.any_cons, List.any_nil, Bool.or_false, ba_beq]
  | .two k a b, acc => by
    show has s (names (names acc a) b) = _
    rw [has_occ s b, has_occ s a, occ, Bool.or_assoc]
end Go.Proofs.YtkjmddgnfgbioaaDoor.Ex


namespace Go.Proofs.YtkjmddgnfgbioaaDoor.Sr
set_option linter.unusedVariables false
set_option linter.unusedSimpArgs false
set_option maxRecDepth 100000
open Ex St

/-! ### what scope.Free has -/
def use1 (bd acc : List ByteArray) (s : ByteArray) : List ByteArray := if has s bd = false ∧ has s acc = false then acc ++ [s] else acc
def use (bd acc : List ByteArray) (e : X) : List ByteArray := (names [] e).foldl (use1 bd) acc
def fr : P → List ByteArray → List ByteArray → List ByteArray
  | .nil, _, acc => acc
  | .cons k nm a b body els rest, bd, acc =>
    if k = 1 ∨ k = 2 then fr rest (bd ++ [ba nm]) (use bd acc a)
    else if k = 3 then fr rest bd (use bd (use bd acc a) b)
    else if k = 4 ∨ k = 5 then fr rest bd (fr body bd acc)
    else if k = 6 then fr rest bd (fr els bd (fr body bd (use bd acc a)))
    else if k = 7 then fr rest bd (fr body (bd ++ [ba nm]) (use bd (use bd acc a) b))
    else fr rest bd acc
def free (p : P) : List ByteArray := fr p [] []

theorem has_mem (s : ByteArray) (l : List ByteArray) : has s l = true ↔ s ∈ l := by
  unfold has
  rw [List.any_eq_true]
  refine ⟨fun ⟨x, hx, h⟩ => bytes_eq h ▸ hx, fun h => ⟨s, h, by simp⟩⟩
def bss (l : List ByteArray) : List Bs := l.map (·.data.toList)
theorem bss_snoc (l : List ByteArray) (nm : Bs) : bss (l ++ [ba nm]) = bss l ++ [nm] := by simp [bss, ba]
theorem mem_bss (l : List ByteArray) (s : ByteArray) : s.data.toList ∈ bss l ↔ s ∈ l := by
  unfold bss
  rw [List.mem_map]
  refine ⟨fun ⟨x, hx, e⟩ => ?_, fun h => ⟨s, h, rfl⟩⟩
  rw [← ba_data s, ← e, ba_data]
  exact hx
theorem okx_occ (bd : List Bs) : ∀ e : X, okx bd e ↔ ∀ s, occ s e = true → s ∈ bd
  | .num _ => by simp [okx, occ]
  | .bad => by simp [okx, occ]
  | .name x => by
    unfold okx occ
    exact ⟨fun h s hs => by rw [← eq_of_beq hs]; exact h, fun h => h x (by simp)⟩
  | .two _ a b => by
    unfold okx occ
    rw [okx_occ bd a, okx_occ bd b]
    refine ⟨fun h s hs => ?_, fun h => ⟨fun s hs => h s (by simp [hs]), fun s hs => h s (by simp [hs])⟩⟩
    rcases Bool.or_eq_true_iff.1 hs with hs | hs
    · exact h.1 s hs
    · exact h.2 s hs
theorem mem_names (s : ByteArray) (e : X) : s ∈ names [] e ↔ occ s.data.toList e = true := by
  rw [← has_mem, has_occ]
  simp [has]
theorem use1_nil (bd acc : List ByteArray) (s : ByteArray) : use1 bd acc s = [] ↔ acc = [] ∧ s ∈ bd := by
  unfold use1
  rw [← has_mem]
  rcases h : has s bd with _ | _
  · rcases h' : has s acc with _ | _
    · simp
    · simp
      rintro rfl
      simp [has] at h'
  · simp
theorem foldl_nil (bd : List ByteArray) : ∀ (l acc : List ByteArray), l.foldl (use1 bd) acc = [] ↔ acc = [] ∧ ∀ s ∈ l, s ∈ bd
  | [], acc => by simp
  | s :: l, acc => by
    rw [List.foldl_cons, foldl_nil bd l, use1_nil]
    simp [and_assoc]
theorem use_nil (bd acc : List ByteArray) (e : X) : use bd acc e = [] ↔ acc = [] ∧ okx (bss bd) e := by
  unfold use
  rw [foldl_nil, okx_occ]
  refine and_congr Iff.rfl ⟨fun h s hs => ?_, fun h s hs => ?_⟩
  · have := h (ba s) ((mem_names _ _).2 (by simpa [ba] using hs))
    rw [← mem_bss] at this
    simpa [ba] using this
  · rw [← mem_bss]
    exact h _ ((mem_names _ _).1 hs)
theorem fr_nil : ∀ (p : P) (bd acc : List ByteArray), fr p bd acc = [] ↔ acc = [] ∧ cl p (bss bd)
  | .nil, bd, acc => by simp [fr, cl]
  | .cons k nm a b body els rest, bd, acc => by
    unfold fr cl
    split
    · rw [fr_nil rest, use_nil, bss_snoc, and_assoc]
    split
    · rw [fr_nil rest, use_nil, use_nil, and_assoc, and_assoc, and_assoc]
    split
    · rw [fr_nil rest, fr_nil body, and_assoc]
    split
    · rw [fr_nil rest, fr_nil els, fr_nil body, use_nil]
      simp only [and_assoc]
    split
    · rw [fr_nil rest, fr_nil body, use_nil, use_nil, bss_snoc]
      simp only [and_assoc]
    exact fr_nil rest bd acc
theorem free_nil (p : P) : free p = [] ↔ cl p [] := by
  unfold free
  rw [fr_nil]
  simp [bss]

/-! ### one behind the other -/
theorem lab_cases (k : Int) (b e : Nat) : (k = 1 → lab1 k b e = 0) ∧ (k = 2 → lab1 k b e = 1) ∧ (k = 3 → lab1 k b e = 1) ∧ (k = 4 ∨ k = 5 → lab1 k b e = b) ∧ (k = 6 → lab1 k b e = b + e) ∧ (k = 7 → lab1 k b e = b) ∧
    (k ≠ 2 → k ≠ 3 → ¬ (k = 4 ∨ k = 5) → k ≠ 6 → k ≠ 7 → lab1 k b e = 0) := by
  unfold lab1
  refine ⟨?_, ?_, ?_, ?_, ?_, ?_, ?_⟩
  · rintro rfl; simp
  · rintro rfl; simp
  · rintro rfl; simp
  · rintro (rfl | rfl) <;> simp
  · rintro rfl; simp
  · rintro rfl; simp
  · intro h2 h3 h4 h6 h7
    rw [if_neg (by omega), if_neg (by omega), if_neg h6]
theorem run_append : ∀ (p q : P) (env : Env) (l : Nat) (m : M), ∃ env', run (p ++ q) env l m = run q (env ++ env') (l + labels p) (run p env l m)
  | .nil, q, env, l, m => ⟨[], by simp [P.nil_append, run, labels]⟩
  | .cons k nm a b body els rest, q, env, l, m => by
    rw [P.cons_append]
    simp only [run, labels]
    obtain ⟨l1, l2, l3, l4, l6, l7, l8⟩ := lab_cases k (labels body) (labels els)
    by_cases h1 : k = 1
    · obtain ⟨e', h⟩ := run_append rest q (env ++ [(nm, evl env a)]) l m.step
      refine ⟨(nm, evl env a) :: e', ?_⟩
      simp only [if_pos h1, l1 h1, Nat.zero_add]
      simpa using h
    by_cases h2 : k = 2
    · obtain ⟨e', h⟩ := run_append rest q (env ++ [(nm, m.heap.getD (cell (evl env a)) 0)]) (l + 1) (m.step.acc (cell (evl env a)) false l)
      refine ⟨(nm, m.heap.getD (cell (evl env a)) 0) :: e', ?_⟩
      simp only [if_neg h1, if_pos h2, l2 h2, ← Nat.add_assoc]
      simpa using h
    by_cases h3 : k = 3
    · obtain ⟨e', h⟩ := run_append rest q env (l + 1) ((m.step.acc (cell (evl env a)) true l).put (cell (evl env a)) (evl env b))
      refine ⟨e', ?_⟩
      simp only [if_neg h1, if_neg h2, if_pos h3, l3 h3, ← Nat.add_assoc]
      exact h
    by_cases h4 : k = 4 ∨ k = 5
    · obtain ⟨e', h⟩ := run_append rest q env (l + labels body) (run body env l m.step)
      refine ⟨e', ?_⟩
      simp only [if_neg h1, if_neg h2, if_neg h3, if_pos h4, l4 h4, ← Nat.add_assoc]
      exact h
    by_cases h6 : k = 6
    · obtain ⟨e', h⟩ := run_append rest q env (l + (labels body + labels els)) (if evl env a ≠ 0 then run body env l m.step else run els env (l + labels body) m.step)
      refine ⟨e', ?_⟩
      simp only [if_neg h1, if_neg h2, if_neg h3, if_neg h4, if_pos h6, l6 h6]
      rw [← Nat.add_assoc l _ (labels rest)]
      exact h
    by_cases h7 : k = 7
    · obtain ⟨e', h⟩ := run_append rest q env (l + labels body) (iter (evl env b - evl env a).toNat (evl env a) (fun i m => run body (env ++ [(nm, i)]) l m.step) m.step)
      refine ⟨e', ?_⟩
      simp only [if_neg h1, if_neg h2, if_neg h3, if_neg h4, if_neg h6, if_pos h7, l7 h7, ← Nat.add_assoc]
      exact h
    · obtain ⟨e', h⟩ := run_append rest q env l m
      refine ⟨e', ?_⟩
      simp only [if_neg h1, if_neg h2, if_neg h3, if_neg h4, if_neg h6, if_neg h7, l8 h2 h3 h4 h6 h7, Nat.zero_add]
      exact h
theorem cl_append : ∀ (p q : P) (bd : List Bs), (cl p bd → cl q bd → cl (p ++ q) bd) ∧ (cl (p ++ q) bd → cl p bd)
  | .nil, q, bd => ⟨fun _ h => h, fun _ => trivial⟩
  | .cons k nm a b body els rest, q, bd => by
    rw [P.cons_append]
    simp only [cl]
    split
    · exact ⟨fun h h' => ⟨h.1, (cl_append rest q _).1 h.2 (cl_mono q (fun s hs => List.mem_append_left _ hs) h')⟩, fun h => ⟨h.1, (cl_append rest q _).2 h.2⟩⟩
    split
    · exact ⟨fun h h' => ⟨h.1, (cl_append rest q _).1 h.2 h'⟩, fun h => ⟨h.1, (cl_append rest q _).2 h.2⟩⟩
    split
    · exact ⟨fun h h' => ⟨h.1, (cl_append rest q _).1 h.2 h'⟩, fun h => ⟨h.1, (cl_append rest q _).2 h.2⟩⟩
    split
    · exact ⟨fun h h' => ⟨h.1, (cl_append rest q _).1 h.2 h'⟩, fun h => ⟨h.1, (cl_append rest q _).2 h.2⟩⟩
    split
    · exact ⟨fun h h' => ⟨h.1, (cl_append rest q _).1 h.2 h'⟩, fun h => ⟨h.1, (cl_append rest q _).2 h.2⟩⟩
    exact ⟨fun h h' => (cl_append rest q _).1 h h', fun h => (cl_append rest q _).2 h⟩

/-! ### where it begins is no matter: the same heap, as many steps more -/
/-- the same, but for steps, labels and what was there -/
structure Like (m m' : M) (d : Nat) : Prop where
  heap : m'.heap = m.heap
  steps : m'.steps = m.steps + d
theorem iter_like {d : Nat} {f g : Int → M → M} (h : ∀ i m m', Like m m' d → Like (f i m) (g i m') d) : ∀ n i m m', Like m m' d → Like (iter n i f m) (iter n i g m') d
  | 0, _, _, _, hl => hl
  | n + 1, i, m, m', hl => iter_like h n (i + 1) _ _ (h i m m' hl)
theorem run_like : ∀ (p : P) (env : Env) (l l' : Nat) (m m' : M) (d : Nat), Like m m' d → Like (run p env l m) (run p env l' m') d
  | .nil, _, _, _, _, _, _, h => h
  | .cons k nm a b body els rest, env, l, l', m, m', d, h => by
    have hs : Like m.step m'.step d := ⟨h.heap, by simp [M.step, h.steps]; omega⟩
    unfold run
    rw [h.heap]
    split
    · exact run_like rest _ _ _ _ _ _ hs
    split
    · exact run_like rest _ _ _ _ _ _ ⟨hs.heap, hs.steps⟩
    split
    · exact run_like rest _ _ _ _ _ _ ⟨by simp [M.put, M.acc, hs.heap], hs.steps⟩
    split
    · exact run_like rest _ _ _ _ _ _ (run_like body _ _ _ _ _ _ hs)
    split
    · refine run_like rest _ _ _ _ _ _ ?_
      split
      · exact run_like body _ _ _ _ _ _ hs
      · exact run_like els _ _ _ _ _ _ hs
    split
    · exact run_like rest _ _ _ _ _ _ (iter_like (fun i m m' h => run_like body (env ++ [(nm, i)]) l l' m.step m'.step d ⟨h.heap, show m'.steps + 1 = m.steps + 1 + d by rw [h.steps]; omega⟩) _ _ _ _ hs)
    exact run_like rest _ _ _ _ _ _ h
/-- how far a program comes -/
def M0 (h : List Int) : M := ⟨h, 0, []⟩
def go (p : P) (h : List Int) : M := run p [] 0 (M0 h)
theorem go_append (p q : P) (h : List Int) (hq : cl q []) : (go (p ++ q) h).heap = (go q (go p h).heap).heap ∧ (go (p ++ q) h).steps = (go p h).steps + (go q (go p h).heap).steps ∧ (go p h).steps ≤ (go (p ++ q) h).steps := by
  obtain ⟨e', h1⟩ := run_append p q [] 0 (M0 h)
  have h2 := run_agree q [] ([] ++ e') [] (0 + labels p) (run p [] 0 (M0 h)) hq (fun s hs => by cases hs)
  have h3 := run_like q [] 0 (0 + labels p) (M0 (go p h).heap) (run p [] 0 (M0 h)) (go p h).steps ⟨rfl, by simp [M0, go]⟩
  have h4 := (run_on q ([] ++ e') (0 + labels p) (run p [] 0 (M0 h))).steps
  rw [← h2, ← h1] at h3
  exact ⟨h3.heap, by have := h3.steps; unfold go at *; omega, by unfold go; rw [h1]; exact h4⟩
theorem go_le (p q : P) (h : List Int) : (go p h).steps ≤ (go (p ++ q) h).steps := by
  obtain ⟨e', h1⟩ := run_append p q [] 0 (M0 h)
  have h4 := (run_on q ([] ++ e') (0 + labels p) (run p [] 0 (M0 h))).steps
  unfold go
  rw [h1]
  exact h4

/-! ### without what runs side by side -/
theorem labels_plain : ∀ p : P, labels (plain p) = labels p
  | .nil => rfl
  | .cons k nm a b body els rest => by
    unfold plain
    split
    · rename_i h
      simp only [labels]
      rw [labels_plain body, labels_plain rest]
      unfold lab1
      rw [if_neg (by omega), if_neg (by omega), if_pos rfl, if_neg (by omega), if_pos (by omega)]
      omega
    · simp only [labels]
      rw [labels_plain body, labels_plain els, labels_plain rest]
theorem run_plain : ∀ (p : P) (env : Env) (l : Nat) (m : M), run (plain p) env l m = run p env l m
  | .nil, _, _, _ => rfl
  | .cons k nm a b body els rest, env, l, m => by
    unfold plain
    split
    · rename_i h
      have h1 : k ≠ 1 := by omega
      have h2 : k ≠ 2 := by omega
      have h3 : k ≠ 3 := by omega
      simp only [run, if_neg h1, if_neg h2, if_neg h3, if_pos h]
      rw [if_neg (by decide), if_neg (by decide), if_neg (by decide), if_neg (by decide), if_pos (by decide), if_pos (show evl env (.num 1) ≠ 0 by simp [evl]), run_plain rest, run_plain body, labels_plain body]
      rfl
    · simp only [run]
      simp only [run_plain rest, run_plain body, run_plain els, labels_plain body, labels_plain els]
theorem cl_plain : ∀ (p : P) (bd : List Bs), cl (plain p) bd ↔ cl p bd
  | .nil, _ => Iff.rfl
  | .cons k nm a b body els rest, bd => by
    unfold plain
    split
    · rename_i h
      simp only [cl]
      rw [if_neg (by decide), if_neg (by decide), if_neg (by decide), if_pos trivial, if_neg (by omega), if_neg (by omega), if_pos h, cl_plain rest, cl_plain body]
      simp [okx]
    · simp only [cl]
      simp only [cl_plain rest, cl_plain body, cl_plain els]
theorem go_plain (p : P) (h : List Int) : go (plain p) h = go p h := run_plain p _ _ _
theorem free_plain (p : P) : free (plain p) = [] ↔ free p = [] := by rw [free_nil, free_nil, cl_plain]

/-! ### a cell that nobody names -/
theorem getD_set_ne (h : List Int) (c d : Nat) (v : Int) (hne : d ≠ c) : (h.set c v).getD d 0 = h.getD d 0 := by
  simp only [List.getD_eq_getElem?_getD]
  rw [List.getElem?_set_ne (fun e => hne e.symm)]
def M.but (m : M) (c : Nat) (v : Int) : M := ⟨m.heap.set c v, m.steps, m.trace⟩
/-- nobody names the cell between -/
def Free (c : Nat) (m m' : M) : Prop := ∃ t, m'.trace = m.trace ++ t ∧ ∀ x ∈ t, x.1 ≠ (c : Int)
theorem Free.parts {c : Nat} {a b d : M} (h : Free c a d) (h1 : On a b) (h2 : On b d) : Free c a b ∧ Free c b d := by
  obtain ⟨t, h3, h4⟩ := h
  obtain ⟨-, -, t1, h5, -, -⟩ := h1
  obtain ⟨-, -, t2, h6, -, -⟩ := h2
  have : t = t1 ++ t2 := by
    rw [h6, h5, List.append_assoc] at h3
    exact (List.append_cancel_left h3).symm
  subst this
  exact ⟨⟨t1, h5, fun x hx => h4 x (List.mem_append_left _ hx)⟩, ⟨t2, h6, fun x hx => h4 x (List.mem_append_right _ hx)⟩⟩
theorem iter_but {c : Nat} {v : Int} {f : Int → M → M} (ho : ∀ i m, On m (f i m)) (h : ∀ i m, Free c m (f i m) → f i (m.but c v) = (f i m).but c v) : ∀ n i m, Free c m (iter n i f m) → iter n i f (m.but c v) = (iter n i f m).but c v
  | 0, _, _, _ => rfl
  | n + 1, i, m, hf => by
    obtain ⟨f1, f2⟩ := hf.parts (ho i m) (On.iter ho n (i + 1) (f i m))
    rw [iter, iter, h i m f1, iter_but ho h n (i + 1) _ f2]
theorem run_but (c : Nat) (v : Int) : ∀ (p : P) (env : Env) (l : Nat) (m : M), Free c m (run p env l m) → run p env l (m.but c v) = (run p env l m).but c v
  | .nil, _, _, _, _ => rfl
  | .cons k nm a b body els rest, env, l, m, hf => by
    unfold run at hf ⊢
    by_cases h1 : k = 1
    · rw [if_pos h1] at hf
      rw [if_pos h1, if_pos h1]
      exact run_but c v rest _ _ _ (hf.parts (On.step m) (run_on _ _ _ _)).2
    rw [if_neg h1] at hf
    rw [if_neg h1, if_neg h1]
    by_cases h2 : k = 2
    · rw [if_pos h2] at hf
      rw [if_pos h2, if_pos h2]
      obtain ⟨f1, f2⟩ := hf.parts (On.read m _ _) (run_on _ _ _ _)
      obtain ⟨t, ht, hx⟩ := f1
      have : cell (evl env a) ≠ c := fun e => by
        have ht' : t = [(((cell (evl env a) : Nat) : Int), false, (l : Int))] := by
          simp only [M.step, M.acc] at ht
          exact (List.append_cancel_left ht).symm
        exact hx _ (by rw [ht']; exact List.mem_singleton.2 rfl) (by simp [e])
      rw [show (m.but c v).heap.getD (cell (evl env a)) 0 = m.heap.getD (cell (evl env a)) 0 from getD_set_ne _ _ _ _ this]
      exact run_but c v rest _ _ _ f2
    rw [if_neg h2] at hf
    rw [if_neg h2, if_neg h2]
    by_cases h3 : k = 3
    · rw [if_pos h3] at hf
      rw [if_pos h3, if_pos h3]
      obtain ⟨f1, f2⟩ := hf.parts (On.write m _ _ _) (run_on _ _ _ _)
      obtain ⟨t, ht, hx⟩ := f1
      have : cell (evl env a) ≠ c := fun e => by
        have ht' : t = [(((cell (evl env a) : Nat) : Int), true, (l : Int))] := by
          simp only [M.step, M.acc, M.put] at ht
          exact (List.append_cancel_left ht).symm
        exact hx _ (by rw [ht']; exact List.mem_singleton.2 rfl) (by simp [e])
      have e : ((m.but c v).step.acc (cell (evl env a)) true l).put (cell (evl env a)) (evl env b) = ((m.step.acc (cell (evl env a)) true l).put (cell (evl env a)) (evl env b)).but c v := by
        simp only [M.but, M.step, M.acc, M.put]
        rw [List.set_comm _ _ (fun e => this e.symm)]
      rw [e]
      exact run_but c v rest _ _ _ f2
    rw [if_neg h3] at hf
    rw [if_neg h3, if_neg h3]
    by_cases h4 : k = 4 ∨ k = 5
    · rw [if_pos h4] at hf
      rw [if_pos h4, if_pos h4]
      obtain ⟨f1, f2⟩ := hf.parts ((On.step m).trans (run_on body _ _ _)) (run_on _ _ _ _)
      rw [show (m.but c v).step = m.step.but c v from rfl, run_but c v body _ _ _ (f1.parts (On.step m) (run_on _ _ _ _)).2]
      exact run_but c v rest _ _ _ f2
    rw [if_neg h4] at hf
    rw [if_neg h4, if_neg h4]
    by_cases h6 : k = 6
    · rw [if_pos h6] at hf
      rw [if_pos h6, if_pos h6]
      by_cases hz : evl env a ≠ 0
      · rw [if_pos hz] at hf
        rw [if_pos hz, if_pos hz]
        obtain ⟨f1, f2⟩ := hf.parts ((On.step m).trans (run_on body _ _ _)) (run_on _ _ _ _)
        rw [show (m.but c v).step = m.step.but c v from rfl, run_but c v body _ _ _ (f1.parts (On.step m) (run_on _ _ _ _)).2]
        exact run_but c v rest _ _ _ f2
      · rw [if_neg hz] at hf
        rw [if_neg hz, if_neg hz]
        obtain ⟨f1, f2⟩ := hf.parts ((On.step m).trans (run_on els _ _ _)) (run_on _ _ _ _)
        rw [show (m.but c v).step = m.step.but c v from rfl, run_but c v els _ _ _ (f1.parts (On.step m) (run_on _ _ _ _)).2]
        exact run_but c v rest _ _ _ f2
    rw [if_neg h6] at hf
    rw [if_neg h6, if_neg h6]
    by_cases h7 : k = 7
    · rw [if_pos h7] at hf
      rw [if_pos h7, if_pos h7]
      have ho : ∀ (i : Int) (m : M), On m (run body (env ++ [(nm, i)]) l m.step) := fun i m => (On.step m).trans (run_on body _ _ _)
      obtain ⟨f1, f2⟩ := hf.parts ((On.step m).trans (On.iter ho _ _ _)) (run_on _ _ _ _)
      rw [show (m.but c v).step = m.step.but c v from rfl, iter_but ho (fun i m hf => by
        rw [show (m.but c v).step = m.step.but c v from rfl]
        exact run_but c v body _ _ _ (hf.parts (On.step m) (run_on _ _ _ _)).2) _ _ _ (f1.parts (On.step m) (On.iter ho _ _ _)).2]
      exact run_but c v rest _ _ _ f2
    rw [if_neg h7] at hf
    rw [if_neg h7, if_neg h7]
    exact run_but c v rest _ _ _ hf
theorem go_but (p : P) (h : List Int) (c : Nat) (v : Int) (hf : ∀ x ∈ (go p h).trace, x.1 ≠ (c : Int)) : (go p (h.set c v)).heap = (go p h).heap.set c v ∧ (go p (h.set c v)).steps = (go p h).steps := by
  have := run_but c v p [] 0 (M0 h) ⟨(go p h).trace, by simp [M0, go], hf⟩
  unfold go
  rw [show M0 (h.set c v) = (M0 h).but c v from rfl, this]
  exact ⟨rfl, rfl⟩
theorem go_kept (p : P) (h : List Int) (c : Nat) (hf : ∀ x ∈ (go p h).trace, x.2.1 = true → x.1 ≠ (c : Int)) : (go p h).heap.getD c 0 = h.getD c 0 := by
  obtain ⟨-, -, t, h1, -, h2⟩ := run_on p [] 0 (M0 h)
  refine h2 c ?_
  rw [show t = (go p h).trace by unfold go; rw [h1]; simp [M0]]
  exact hf

/-! ### with so much fuel -/
/-- what is wrong: 0 nothing, 2 the fuel is out of range, 4 a name, 5 it did not do -/
def err (p : P) (h : List Int) (fuel : Int) : Int := if free p ≠ [] then 4 else if fuel < 0 ∨ 2000 < fuel then 2 else if fuel < (go p h).steps then 5 else 0
def zeros : List Int := [0, 0, 0, 0, 0, 0, 0, 0]
def fin (p : P) (h : List Int) (fuel : Int) : M := if err p h fuel = 0 then go p h else M0 zeros
end Go.Proofs.YtkjmddgnfgbioaaDoor.Sr


namespace Go.Proofs.YtkjmddgnfgbioaaDoor
set_option linter.unusedVariables false
set_option linter.unusedSimpArgs false
set_option maxRecDepth 100000
open Go.ChangeShapes Go.WideShapes Go.ChangeAt Go.RowKit
set_option maxRecDepth 100000

def tcells (k c : Int) (b : Bool) (l : Int) (A : Option Addr) (n cap : Nat) : List Value := [.int .i64 k, .int .i64 c, .bool b, .int .i64 l, .slice A n cap]

inductive TmR (B : Nat) (w : World) : List Value → Sp.T → Prop
  | nil (k c : Int) (b : Bool) (l : Int) (A : Option Addr) (n cap : Nat) : n ≤ cap → cap ≤ maxLen → k ≠ 1 → ¬ ((k = 2 ∨ k = 3) ∧ 2 ≤ n) → TmR B w (tcells k c b l A n cap) .nil
  | one (c : Int) (b : Bool) (l : Int) (A : Option Addr) (n cap : Nat) : n ≤ cap → cap ≤ maxLen → TmR B w (tcells 1 c b l A n cap) (.one c b l)
  | two (par : Bool) (c : Int) (b : Bool) (l : Int) (g o n cap : Nat) (cs0 cs1 : List Value) (t0 t1 : Sp.T) : n ≤ cap → cap ≤ maxLen → 2 ≤ n → g < B →
      (∀ j u, cs0[j]? = some u → w.cell? ⟨g, o + j, none⟩ = some u) → (∀ j u, cs1[j]? = some u → w.cell? ⟨g, o + 5 + j, none⟩ = some u) → TmR B w cs0 t0 → TmR B w cs1 t1 →
      TmR B w (tcells (if par then 3 else 2) c b l (some ⟨g, o, none⟩) n cap) (.two par t0 t1)

theorem TmR.form {B : Nat} {w : World} {cs : List Value} {t : Sp.T} (h : TmR B w cs t) : ∃ k c b l A n cap, cs = tcells k c b l A n cap ∧ n ≤ cap ∧ cap ≤ maxLen := by
  cases h with
  | nil k c b l A n cap h1 h2 => exact ⟨_, _, _, _, _, _, _, rfl, h1, h2⟩
  | one c b l A n cap h1 h2 => exact ⟨_, _, _, _, _, _, _, rfl, h1, h2⟩
  | two par c b l g o n cap cs0 cs1 t0 t1 h1 h2 => exact ⟨_, _, _, _, _, _, _, rfl, h1, h2⟩

theorem TmR.keep {B B' : Nat} {w w' : World} {cs : List Value} {t : Sp.T} (h : TmR B w cs t) (hB : B ≤ B') (hk : ∀ p : Addr, p.block < B → w'.cell? p = w.cell? p) : TmR B' w' cs t := by
  induction h with
  | nil k c b l A n cap h1 h2 h3 h4 => exact .nil k c b l A n cap h1 h2 h3 h4
  | one c b l A n cap h1 h2 => exact .one c b l A n cap h1 h2
  | two par c b l g o n cap cs0 cs1 t0 t1 h1 h2 h3 h4 h5 h6 _ _ i0 i1 =>
    exact .two par c b l g o n cap cs0 cs1 t0 t1 h1 h2 h3 (Nat.lt_of_lt_of_le h4 hB) (fun j u hu => (hk ⟨g, o + j, none⟩ h4).trans (h5 j u hu)) (fun j u hu => (hk ⟨g, o + 5 + j, none⟩ h4).trans (h6 j u hu)) i0 i1
theorem TmR.later {B : Nat} {w w' : World} {cs : List Value} {t : Sp.T} (h : TmR B w cs t) (hb : Below B w w') : TmR B w' cs t := h.keep (Nat.le_refl _) (fun _ hp => hb.cell hp)
theorem TmR.alloc {B : Nat} {w : World} {cs : List Value} {t : Sp.T} (h : TmR B w cs t) (hB : B ≤ w.heap.size) (o : Obj) : TmR B (w.alloc o) cs t := h.later ((Below.refl _ _).alloc hB o)

/-! ### an argument -/
theorem bulk_mem {H : Type} {d : DataW H} : ∀ {l : List (DataW H)}, d ∈ l → Rows.uptoBulk d ≤ Rows.uptoBulkAll l
  | x :: l, h => by
    rw [Rows.uptoBulkAll]
    rcases List.mem_cons.1 h with rfl | h
    · omega
    · have := bulk_mem h; omega
theorem bulk_two {H : Type} (x y : DataW H) (l : List (DataW H)) : Rows.uptoBulk x + Rows.uptoBulk y ≤ Rows.uptoBulkAll (x :: y :: l) := by
  rw [Rows.uptoBulkAll, Rows.uptoBulkAll]; omega


theorem open_term {H : Type} {enc : TypeId × Value → H} {w : World} : ∀ (fuel : Nat) (cs : List Value) (x : DataW H × List MemPlace), DataW.trod enc Tryd.prog w 0 (fun _ => true) true fuel 59 cs = some x → (∀ p ∈ x.2, p.block < w.heap.size) →
    ∃ t : Sp.T, TmR w.heap.size w cs t ∧ t.cnt ≤ Rows.uptoBulk x.1 := by
  intro fuel
  induction fuel using Nat.strongRecOn with
  | _ fuel ih =>
    intro cs x h hlt
    have hT : Tryd.prog.underlying 59 = some (.struct (fieldsOf Tryd.prog 59)) := by kernel_rfl
    have hA : Tryd.prog.underlying 56 = some (.struct (fieldsOf Tryd.prog 56)) := by kernel_rfl
    obtain ⟨xs, m, rfl, rfl, hl, hxl, hfs⟩ := DataW.trod_struct hT h
    have e0 : (fieldsOf Tryd.prog 59)[0]?.map (fun f => (f.type, f.offset)) = some (3, 0) := by kernel_rfl
    have e1 : (fieldsOf Tryd.prog 59)[1]?.map (fun f => (f.type, f.offset)) = some (56, 1) := by kernel_rfl
    have e2 : (fieldsOf Tryd.prog 59)[2]?.map (fun f => (f.type, f.offset)) = some (57, 4) := by kernel_rfl
    have hsz : (fieldsOf Tryd.prog 59).size = 3 := by kernel_rfl
    obtain ⟨f0, g0, q0⟩ := Option.map_eq_some_iff.1 e0
    obtain ⟨f1, g1, q1⟩ := Option.map_eq_some_iff.1 e1
    obtain ⟨f2, g2, q2⟩ := Option.map_eq_some_iff.1 e2
    injection q0 with q0 q0'
    injection q1 with q1 q1'
    injection q2 with q2 q2'
    have h0 := hfs 0 f0 g0
    have h1 := hfs 1 f1 g1
    have h2 := hfs 2 f2 g2
    have c0 : Tryd.prog.cellsOf 3 = 1 := by kernel_rfl
    have c1 : Tryd.prog.cellsOf 56 = 3 := by kernel_rfl
    have c2 : Tryd.prog.cellsOf 57 = 1 := by kernel_rfl
    have cT : Tryd.prog.cellsOf 59 = 5 := by kernel_rfl
    have cB : Tryd.prog.cellsOf 4 = 1 := by kernel_rfl
    rw [q0, q0', c0] at h0
    rw [q1, q1', c1] at h1
    rw [q2, q2', c2] at h2
    rw [cT] at hl
    rw [hsz] at hxl
    match xs, hxl, cs, hl with
    | [x0, x1, x2], _, [v0, v1, v2, v3, v4], _ =>
      simp only [List.drop_succ_cons, List.drop_zero, List.take_succ_cons, List.take_zero, List.getElem?_cons_zero, List.getElem?_cons_succ] at h0 h1 h2
      obtain ⟨k, hk, -, -⟩ := DataW.trod_int Tryd.underlying3 h0
      obtain ⟨ys, m1, rfl, -, hl1, hyl, hys⟩ := DataW.trod_struct hA h1
      have d0 : (fieldsOf Tryd.prog 56)[0]?.map (fun f => (f.type, f.offset)) = some (3, 0) := by kernel_rfl
      have d1 : (fieldsOf Tryd.prog 56)[1]?.map (fun f => (f.type, f.offset)) = some (4, 1) := by kernel_rfl
      have d2 : (fieldsOf Tryd.prog 56)[2]?.map (fun f => (f.type, f.offset)) = some (3, 2) := by kernel_rfl
      have hsy : (fieldsOf Tryd.prog 56).size = 3 := by kernel_rfl
      obtain ⟨u0, w0, p0⟩ := Option.map_eq_some_iff.1 d0
      obtain ⟨u1, w1, p1⟩ := Option.map_eq_some_iff.1 d1
      obtain ⟨u2, w2, p2⟩ := Option.map_eq_some_iff.1 d2
      injection p0 with p0 p0'
      injection p1 with p1 p1'
      injection p2 with p2 p2'
      have y0 := hys 0 u0 w0
      have y1 := hys 1 u1 w1
      have y2 := hys 2 u2 w2
      rw [p0, p0', c0] at y0
      rw [p1, p1', cB] at y1
      rw [p2, p2', c0] at y2
      rw [hsy] at hyl
      match ys, hyl with
      | [z0, z1, z2], _ =>
        simp only [List.drop_succ_cons, List.drop_zero, List.take_succ_cons, List.take_zero, List.getElem?_cons_zero, List.getElem?_cons_succ] at y0 y1 y2
        obtain ⟨c, hc, -, -⟩ := DataW.trod_int Tryd.underlying3 y0
        obtain ⟨b, hb, -⟩ := DataW.trod_bool Tryd.underlying4 y1
        obtain ⟨l, hl', -, -⟩ := DataW.trod_int Tryd.underlying3 y2
        simp only [List.cons.injEq, and_true] at hk hc hb hl'
        subst hk hc hb hl'
        have bulk1 : Rows.uptoBulk (DataW.agg (H := H) [x0.1, x1.1, x2.1]) = Rows.uptoBulk x0.1 + (Rows.uptoBulk x1.1 + Rows.uptoBulk x2.1) + 1 := by
          simp [Rows.uptoBulk, Rows.uptoBulkAll]
        have pos : ∀ d : DataW H, 1 ≤ Rows.uptoBulk d := fun d => by
          cases d with
          | lit x => cases x <;> simp [Rows.uptoBulk]
          | _ => simp [Rows.uptoBulk]
        rcases DataW.trod_slice Tryd.underlying57 h2 with ⟨hcs, hx⟩ | ⟨a, len, cap, el, rest, n, hn, hcs, hx, -, hle, hm, hlen, hel, hsp, -⟩
        · simp only [List.cons.injEq, and_true] at hcs
          subst hcs
          by_cases hk1 : k = 1
          · subst hk1
            exact ⟨.one c b l, .one c b l none 0 0 (Nat.le_refl _) (Nat.zero_le _), by have := pos x0.1; simp [Sp.T.cnt, bulk1]⟩
          · exact ⟨.nil, .nil k c b l none 0 0 (Nat.le_refl _) (Nat.zero_le _) hk1 (by omega), by simp [Sp.T.cnt, bulk1]⟩
        · simp only [List.cons.injEq, and_true] at hcs
          subst hcs
          by_cases hk1 : k = 1
          · subst hk1
            exact ⟨.one c b l, .one c b l _ len cap hle hm, by have := pos x0.1; simp [Sp.T.cnt, bulk1]⟩
          · by_cases hk2 : (k = 2 ∨ k = 3) ∧ 2 ≤ len
            · obtain ⟨hk2, h2l⟩ := hk2
              have kid : ∀ i, i < len → ∃ (y : DataW H × List MemPlace) (cs' : List Value) (t : Sp.T), el[i]? = some y ∧ cs'.length = 5 ∧ (∀ j u, cs'[j]? = some u → w.cell? ((a.add (i * 5)).add j) = some u) ∧ TmR w.heap.size w cs' t ∧ t.cnt ≤ Rows.uptoBulk y.1 := by
                intro i hi
                have h3 := hel i hi
                rw [cT, List.getElem?_eq_getElem (by omega)] at h3
                obtain ⟨cs', hc', htr⟩ := Option.bind_eq_some_iff.1 h3
                obtain ⟨hb0, hl5, hat⟩ := World.cells?_some hc'
                obtain ⟨t, ht1, ht2⟩ := ih n (by omega) cs' _ htr (fun p hp => hlt p (by
                  rw [hx]
                  simp only [List.flatMap_cons, List.flatMap_nil, List.mem_append, List.append_nil]
                  exact .inr (.inr (.inr (List.mem_flatMap.2 ⟨el[i], List.mem_append_left _ (List.getElem_mem _), hp⟩)))))
                refine ⟨el[i], cs', t, List.getElem?_eq_getElem (by omega), hl5, fun j u hu => ?_, ht1, ht2⟩
                have hj : j < 5 := by have := (List.getElem?_eq_some_iff.1 hu).1; omega
                rw [hat j hj, hu]
              obtain ⟨ya, csa, ta, ea, la, ca, ra, ba⟩ := kid 0 (by omega)
              obtain ⟨yb, csb, tb, eb, lb, cb, rb, bb⟩ := kid 1 (by omega)
              obtain ⟨g, o, sp⟩ := a
              have hsp0 : sp = none := by
                have := ca 0 _ (List.getElem?_eq_getElem (by omega))
                simpa [Addr.add] using World.cell?_spot this
              subst hsp0
              have ca' : ∀ j u, csa[j]? = some u → w.cell? ⟨g, o + j, none⟩ = some u := fun j u hu => by
                have := ca j u hu
                rw [Addr.add_lit, Addr.add_lit] at this
                simpa using this
              have cb' : ∀ j u, csb[j]? = some u → w.cell? ⟨g, o + 5 + j, none⟩ = some u := fun j u hu => by
                have := cb j u hu
                rw [Addr.add_lit, Addr.add_lit] at this
                simpa using this
              have hg : g < w.heap.size := World.block_lt_of_cell? w _ (ca' 0 _ (List.getElem?_eq_getElem (by omega)))
              have hbulk : ta.cnt + tb.cnt ≤ Rows.uptoBulk x2.1 := by
                rw [hx]
                match el, hlen, ea, eb with
                | e0 :: e1 :: el', _, ea, eb =>
                  simp only [List.getElem?_cons_zero, List.getElem?_cons_succ, Option.some.injEq] at ea eb
                  subst ea eb
                  have := bulk_two e0.1 e1.1 (el'.map (·.1))
                  simp only [List.map_cons, Rows.uptoBulk]
                  omega
              rcases hk2 with rfl | rfl
              · exact ⟨.two false ta tb, .two false c b l g o len cap csa csb ta tb hle hm h2l hg ca' cb' ra rb, by show _ ≤ Rows.uptoBulk (DataW.agg (H := H) [x0.1, x1.1, x2.1]); rw [Sp.T.cnt, bulk1]; omega⟩
              · exact ⟨.two true ta tb, .two true c b l g o len cap csa csb ta tb hle hm h2l hg ca' cb' ra rb, by show _ ≤ Rows.uptoBulk (DataW.agg (H := H) [x0.1, x1.1, x2.1]); rw [Sp.T.cnt, bulk1]; omega⟩
            · exact ⟨.nil, .nil k c b l _ len cap hle hm hk1 hk2, by simp [Sp.T.cnt, bulk1]⟩
end Go.Proofs.YtkjmddgnfgbioaaDoor


namespace Go.Proofs.YtkjmddgnfgbioaaDoor
set_option linter.unusedVariables false
set_option linter.unusedSimpArgs false
set_option maxRecDepth 100000
open Go Go.RowKit

open Classical in
/-- those blocks alone -/
noncomputable def only (w : World) (S : Nat → Prop) : World := { w with heap := w.heap.mapIdx fun i o => if S i then o else .cells #[] 0 (0, 0) }
theorem only_size (w : World) (S : Nat → Prop) : (only w S).heap.size = w.heap.size := by simp [only]
theorem only_some {w : World} {S : Nat → Prop} {p : Addr} {v : Value} : (only w S).cell? p = some v ↔ S p.block ∧ w.cell? p = some v := by
  unfold World.cell? only
  simp only [Array.getElem?_mapIdx]
  rcases h : w.heap[p.block]? with _ | o
  · simp
  · by_cases hs : S p.block
    · simp [hs]
    · simp [hs]

section
variable {S S' : Nat → Prop} {w w' : World}
theorem only_up {r : Option Nat} (hg : w.grownBy w' r) (hS : ∀ g, g < w.heap.size → S g → S' g ∧ some g ≠ r) : ∀ (p : Addr) (v : Value), p.block < w.heap.size → (only w S).cell? p = some v → (only w' S').cell? p = some v := fun p v hp hv => by
  obtain ⟨h1, h2⟩ := only_some.1 hv
  obtain ⟨h3, h4⟩ := hS _ hp h1
  exact only_some.2 ⟨h3, (World.cell?_of_block (hg.block _ hp h4)).trans h2⟩
end
end Go.Proofs.YtkjmddgnfgbioaaDoor


namespace Go.Proofs.YtkjmddgnfgbioaaDoor
set_option linter.unusedVariables false
set_option linter.unusedSimpArgs false
set_option maxRecDepth 100000
open Go Go.RowKit

theorem keeps_below {w w' : World} (h : Below w.heap.size w w') : Keeps (fun _ => False) w w' := Keeps.of_below h _
def FSl (sz n : Nat) (vs : List Value) : Fact (fun w w' => Below w.heap.size w w') := ⟨fun v w => SlV w sz v n vs, fun _ _ _ h k => h.below k⟩
/-- 'append(v, vs...)' as one operation -/
theorem oper_append {P : Program} {w : World} {o : Oper} {a : Act} {K : Act → World → Prop} {Q : Exit → Act → World → Prop} (s x : Operand)
    (base t e : TypeId) (z : Value) (size bytes : Nat) (ht : P.underlying t = some (.slice e)) (hinfo : (P.info? e).map (fun i => (i.zero, i.size, i.bytes)) = some (some z, size, bytes)) (hz : z.cells.size = size) (hsz : 0 < size)
    {v : Value} {n : Nat} {xs : List Value} (hown : w.ownsRow base e size v n xs) {vs : Value} {m : Nat} {news : List Value} (hsl : SlV w size vs m news) (h1 : ∀ u ∈ news, u.oneCell' = true)
    (h63 : n + m ≤ maxLen) (hbytes : (n + m) * bytes ≤ 140737488355328) (hbase : base ≤ w.heap.size) (ho : o.op = .call { callee := .builtin .append, args := #[s, x], argTypes := #[t, t] }) (hs : a.eval s = v) (hx : a.eval x = vs)
    (h : ∀ v' w', w'.ownsRow base e size v' (n + m) (xs ++ news) → w.grownBy w' v.ownBlock → (v'.ownBlock = v.ownBlock ∨ v'.ownBlock = some w.heap.size) → Below base w w' → K (a.put o.dst v') w') : o.wp P a w K Q := by
  obtain ⟨A, c, rfl, hle, hm, hlen, hc⟩ := hsl
  obtain ⟨v', w', hrun, h2, h3, h4⟩ := run_append (P := P) w base t o.type e z size bytes ht hinfo hz hsz v n xs hown w.heap.size A m c news hlen hc h1 h63 hbytes hbase
  unfold Oper.wp execOp
  simp only [ho, resolve, invoke, builtin, Sem.run_bind, Sem.run_pure, Result.andThen_ok, List.map_toArray, List.map_cons, List.map_nil, hs, hx, hrun]
  exact h v' w' h2 h3 h4 ((Below.refl _ _).grown h3 hbase (own_ge hown))

/-- a row of the call's own, that stays as it is -/
def FRow (B : Nat) (e : TypeId) (sz n : Nat) (vs : List Value) : Fact (fun w w' => Below w.heap.size w w') := ⟨fun v w => w.ownsRow B e sz v n vs, fun _ _ _ h k => own_keeps h (keeps_below k) (fun _ _ => id)⟩

/-- the first k elements -/
theorem SlV.takeV {w : World} {sz n c : Nat} {A : Option Addr} {vs : List Value} (h : SlV w sz (.slice A n c) n vs) (k : Nat) (hk : k ≤ n) : SlV w sz (.slice A k c) k (vs.take (k * sz)) := by
  obtain ⟨A', c', he, h1, h2, h3, h4⟩ := h
  injection he with e1 e2 e3
  subst e1 e3
  have := Nat.mul_le_mul_right sz hk
  exact ⟨A, c, rfl, by omega, h2, by rw [List.length_take, h3]; omega, h4.take _⟩
end Go.Proofs.YtkjmddgnfgbioaaDoor


namespace Go.Proofs.YtkjmddgnfgbioaaDoor
set_option linter.unusedVariables false
set_option linter.unusedSimpArgs false
set_option maxRecDepth 100000
open Go Go.RowKit

structure Rw where
  e : TypeId
  sz : Nat
  v : Value
  n : Nat
  xs : List Value

def Rw.at_ (r : Rw) (B : Nat) (w : World) : Prop := w.ownsRow B r.e r.sz r.v r.n r.xs
def Rw.far (r s : Rw) : Prop := ∀ i, r.v.ownBlock = some i → s.v.ownBlock ≠ some i
theorem Rw.far.symm {r s : Rw} (h : r.far s) : s.far r := fun i h1 h2 => h i h2 h1

structure Own (B : Nat) (w : World) (g : Nat) (t : TypeId) (cs : List Value) (rs : List Rw) : Prop where
  blk : Blk w g t cs
  rows : ∀ r ∈ rs, r.at_ B w
  ap : ∀ (i j : Nat) (r s : Rw), rs[i]? = some r → rs[j]? = some s → i ≠ j → r.far s
  ng : ∀ r ∈ rs, r.v.ownBlock ≠ some g
  base : B ≤ w.heap.size
  lo : B ≤ g

/-- the blocks that it may turn -/
def Tw (g : Nat) (rs : List Rw) (k : Nat) : Prop := k = g ∨ ∃ r ∈ rs, r.v.ownBlock = some k

section
variable {B g : Nat} {t : TypeId} {cs : List Value} {rs : List Rw} {w w' : World} {S : Nat → Prop}
theorem Own.lt (h : Own B w g t cs rs) {k : Nat} (hk : Tw g rs k) : k < w.heap.size := by
  rcases hk with rfl | ⟨r, hr, hk⟩
  · exact h.blk.lt
  · exact ((h.rows r hr).lt k hk).2
theorem Own.ge (h : Own B w g t cs rs) {k : Nat} (hk : Tw g rs k) : B ≤ k := by
  rcases hk with rfl | ⟨r, hr, hk⟩
  · exact h.lo
  · exact own_ge (h.rows r hr) k hk
theorem Own.keeps (h : Own B w g t cs rs) (k : Keeps S w w') (hS : ∀ i, Tw g rs i → ¬ S i) : Own B w' g t cs rs :=
  ⟨h.blk.keeps k (hS g (.inl rfl)), fun r hr => own_keeps (h.rows r hr) k (fun i hi => hS i (.inr ⟨r, hr, hi⟩)), h.ap, h.ng, Nat.le_trans h.base k.size, h.lo⟩
theorem Own.later (h : Own B w g t cs rs) (hb : Below w.heap.size w w') : Own B w' g t cs rs := h.keeps (Keeps.of_below hb (fun _ => False)) (fun _ _ => id)
theorem Own.alloc (h : Own B w g t cs rs) (o : Obj) : Own B (w.alloc o) g t cs rs := h.later (below_alloc (Below.refl _ _) o)
theorem Own.drewN (h : Own B w g t cs rs) (n : Nat) : Own B (w.drewN n) g t cs rs := h.keeps ((Keeps.refl (fun _ => False) w).drewN n) (fun _ _ => id)
theorem Own.row (h : Own B w g t cs rs) (i : Nat) {r : Rw} (hi : rs[i]? = some r) : r.at_ B w := h.rows r (List.mem_of_getElem? hi)
/-- only its blocks are turned: what lies below stays -/
theorem Own.below (h : Own B w g t cs rs) (k : Keeps (Tw g rs) w w') : Below B w w' := k.below h.base (fun _ hi => h.ge hi)

/-- one of its rows, and its own cells, are turned -/
theorem Own.put (h : Own B w g t cs rs) {i : Nat} {r : Rw} (hi : rs[i]? = some r) {w1 : World} {v' : Value} {n' : Nat} {xs' : List Value} (hown : w1.ownsRow B r.e r.sz v' n' xs') (hg : w.grownBy w1 r.v.ownBlock)
    (hv : v'.ownBlock = r.v.ownBlock ∨ ∃ k, w.heap.size ≤ k ∧ v'.ownBlock = some k) :
    Blk w1 g t cs ∧ ∀ w2 cs', Blk w2 g t cs' → w1.grownBy w2 (some g) → Own B w2 g t cs' (rs.set i ⟨r.e, r.sz, v', n', xs'⟩) ∧ Keeps (Tw g rs) w w2 ∧ (∀ k, Tw g (rs.set i ⟨r.e, r.sz, v', n', xs'⟩) k → Tw g rs k ∨ w.heap.size ≤ k) := by
  have hm := List.mem_of_getElem? hi
  have kk : Keeps (fun k => r.v.ownBlock = some k) w w1 := (Keeps.of_grown hg).mono (fun i hi => hi.symm)
  have hlt : ∀ k, Tw g rs k → k < w.heap.size := fun k hk => h.lt hk
  have far : ∀ k, k < w.heap.size → r.v.ownBlock ≠ some k → v'.ownBlock ≠ some k := fun k hk hne e => by
    rcases hv with h | ⟨j, hj, h⟩
    · exact hne (h ▸ e)
    · rw [h] at e
      injection e with e
      omega
  refine ⟨h.blk.keeps kk (h.ng r hm), fun w2 cs' hb2 hg2 => ?_⟩
  have ks : Keeps (fun k => k = g) w1 w2 := (Keeps.of_grown hg2).mono (fun i hi => by injection hi)
  have hset : ∀ j s, (rs.set i ⟨r.e, r.sz, v', n', xs'⟩)[j]? = some s → (j = i ∧ s = ⟨r.e, r.sz, v', n', xs'⟩) ∨ (j ≠ i ∧ rs[j]? = some s) := fun j s hs => by
    by_cases e : j = i
    · subst e
      rw [List.getElem?_set_self (List.getElem?_eq_some_iff.1 hi).1] at hs
      injection hs with hs
      exact .inl ⟨rfl, hs.symm⟩
    · rw [List.getElem?_set_ne (fun e' => e e'.symm)] at hs
      exact .inr ⟨e, hs⟩
  have hng := far g h.blk.lt (h.ng r hm)
  have hold : ∀ s ∈ rs, s.far r → s.at_ B w2 := fun s hs hsr => own_keeps (own_keeps (h.rows s hs) kk (fun k hk e => hsr k hk e)) ks (fun k hk e => h.ng s hs (e ▸ hk))
  refine ⟨⟨hb2, fun s hs => ?_, fun j l s u hs hu hjl => ?_, fun s hs => ?_, by have := h.base; have := kk.size; have := ks.size; omega, h.lo⟩, ?_, fun k hk => ?_⟩
  · obtain ⟨j, hj⟩ := List.getElem?_of_mem hs
    rcases hset j s hj with ⟨-, rfl⟩ | ⟨hne, hj⟩
    · exact own_keeps hown ks (fun k hk e => hng (e ▸ hk))
    · exact hold s (List.mem_of_getElem? hj) (h.ap j i s r hj hi hne)
  · rcases hset j s hs with ⟨e1, rfl⟩ | ⟨hj, hs2⟩
    · rcases hset l u hu with ⟨e2, rfl⟩ | ⟨hl, hu2⟩
      · exact absurd (e1.trans e2.symm) hjl
      · exact fun k hk e => far k (hlt k (.inr ⟨u, List.mem_of_getElem? hu2, e⟩)) (fun e' => h.ap i l r u hi hu2 (fun e3 => hl e3.symm) k e' e) hk
    · rcases hset l u hu with ⟨e2, rfl⟩ | ⟨hl, hu2⟩
      · exact fun k hk e => far k (hlt k (.inr ⟨s, List.mem_of_getElem? hs2, hk⟩)) (fun e' => h.ap j i s r hs2 hi hj k hk e') e
      · exact h.ap j l s u hs2 hu2 hjl
  · obtain ⟨j, hj⟩ := List.getElem?_of_mem hs
    rcases hset j s hj with ⟨-, rfl⟩ | ⟨hne, hj⟩
    · exact hng
    · exact h.ng s (List.mem_of_getElem? hj)
  · exact (kk.mono (fun k hk => .inr ⟨r, hm, hk⟩)).trans (ks.mono (fun k hk => .inl hk))
  · rcases hk with rfl | ⟨s, hs, hk⟩
    · exact .inl (.inl rfl)
    · obtain ⟨j, hj⟩ := List.getElem?_of_mem hs
      rcases hset j s hj with ⟨-, rfl⟩ | ⟨hne, hj⟩
      · rcases hv with h | ⟨k', hk', h⟩
        · exact .inl (.inr ⟨r, hm, h ▸ hk⟩)
        · rw [show v'.ownBlock = some k from hk] at h
          injection h with h
          exact .inr (by omega)
      · exact .inl (.inr ⟨s, List.mem_of_getElem? hj, hk⟩)
/-- its own cells alone are turned -/
theorem Own.cells (h : Own B w g t cs rs) {w2 : World} {cs' : List Value} (hb2 : Blk w2 g t cs') (hg2 : w.grownBy w2 (some g)) : Own B w2 g t cs' rs ∧ Keeps (Tw g rs) w w2 := by
  have ks : Keeps (fun k => k = g) w w2 := (Keeps.of_grown hg2).mono (fun i hi => by injection hi)
  exact ⟨⟨hb2, fun s hs => own_keeps (h.rows s hs) ks (fun k hk e => h.ng s hs (e ▸ hk)), h.ap, h.ng, Nat.le_trans h.base ks.size, h.lo⟩, ks.mono (fun k hk => .inl hk)⟩

/-- it has been turned since the world w0, in which it had the blocks T0 -/
structure OwnTo (B : Nat) (w0 : World) (T0 : Nat → Prop) (w : World) (g : Nat) (t : TypeId) (cs : List Value) (rs : List Rw) : Prop where
  own : Own B w g t cs rs
  kp : Keeps T0 w0 w
  nw : ∀ k, Tw g rs k → T0 k ∨ w0.heap.size ≤ k
theorem OwnTo.start (h : Own B w g t cs rs) : OwnTo B w (Tw g rs) w g t cs rs := ⟨h, Keeps.refl _ _, fun _ hk => .inl hk⟩
theorem OwnTo.step {w0 : World} {T0 : Nat → Prop} {cs' : List Value} {rs' : List Rw} (h : OwnTo B w0 T0 w g t cs rs) (h' : OwnTo B w (Tw g rs) w' g t cs' rs') : OwnTo B w0 T0 w' g t cs' rs' :=
  ⟨h'.own, h.kp.step h'.kp (fun i hi hT => (h.nw i hT).resolve_right (by omega)), fun k hk => (h'.nw k hk).elim (fun h1 => h.nw k h1) (fun h1 => .inr (by have := h.kp.size; omega))⟩
theorem OwnTo.later {w0 : World} {T0 : Nat → Prop} (h : OwnTo B w0 T0 w g t cs rs) (hb : Below w.heap.size w w') : OwnTo B w0 T0 w' g t cs rs :=
  ⟨h.own.later hb, h.kp.trans (Keeps.of_below hb _), h.nw⟩
theorem OwnTo.since {w0 w1 : World} {T0 : Nat → Prop} (h : OwnTo B w1 T0 w g t cs rs) (hb : Below w0.heap.size w0 w1) : OwnTo B w0 T0 w g t cs rs :=
  ⟨h.own, (Keeps.of_below hb _).trans h.kp, fun k hk => (h.nw k hk).imp id fun h1 => by have := hb.size; omega⟩
theorem Own.put_to (h : Own B w g t cs rs) {i : Nat} {r : Rw} (hi : rs[i]? = some r) {w1 : World} {v' : Value} {n' : Nat} {xs' : List Value} (hown : w1.ownsRow B r.e r.sz v' n' xs') (hg : w.grownBy w1 r.v.ownBlock)
    (hv : v'.ownBlock = r.v.ownBlock ∨ ∃ k, w.heap.size ≤ k ∧ v'.ownBlock = some k) {w2 : World} {cs' : List Value} (hb2 : Blk w2 g t cs') (hg2 : w1.grownBy w2 (some g)) : OwnTo B w (Tw g rs) w2 g t cs' (rs.set i ⟨r.e, r.sz, v', n', xs'⟩) := by
  obtain ⟨h1, h2, h3⟩ := (h.put hi hown hg hv).2 w2 cs' hb2 hg2
  exact ⟨h1, h2, h3⟩
theorem Own.cells_to (h : Own B w g t cs rs) {w2 : World} {cs' : List Value} (hb2 : Blk w2 g t cs') (hg2 : w.grownBy w2 (some g)) : OwnTo B w (Tw g rs) w2 g t cs' rs :=
  ⟨(h.cells hb2 hg2).1, (h.cells hb2 hg2).2, fun _ hk => .inl hk⟩
end

/-- what 'append' of a row v0 of one's own has made, since the world w1 -/
def FPush (w1 : World) (B : Nat) (e : TypeId) (sz : Nat) (v0 : Value) (n : Nat) (xs : List Value) : Fact (fun w w' => Below w.heap.size w w') :=
  ⟨fun v w => ∃ wa, Below w1.heap.size w1 wa ∧ wa.grownBy w v0.ownBlock ∧ w.ownsRow B e sz v n xs ∧ (v.ownBlock = v0.ownBlock ∨ ∃ k, wa.heap.size ≤ k ∧ v.ownBlock = some k),
    fun v w w' ⟨wa, h1, h2, h3, h4⟩ k => ⟨wa, h1, grown_trans h2 (grown_of_below k _), own_keeps h3 (Keeps.of_below k (fun _ => False)) (fun _ _ => id), h4⟩⟩

/-- the first k of a row of one's own -/
theorem own_prefix {w : World} {B sz n k : Nat} {e : TypeId} {A : Option Addr} {c : Nat} {xs : List Value} (h : w.ownsRow B e sz (.slice A n c) n xs) (hk : k ≤ n) : w.ownsRow B e sz (.slice A k c) k (xs.take (k * sz)) := by
  have hm := Nat.mul_le_mul_right sz hk
  rcases h.2 with ⟨h1, h2⟩ | ⟨g, cap, cur, h1, h2, h3, h4, h5, h6, h7⟩
  · injection h1 with e1 e2 e3
    subst e1 e2 e3
    have : k = 0 := by omega
    subst this
    rw [Nat.zero_mul, List.take_zero]
    exact World.ownsRow_nil _ _ _ _
  · injection h1 with e1 e2 e3
    subst e1 e3
    refine ⟨by rw [List.length_take, h.1]; omega, .inr ⟨g, c, cur, rfl, h2, h3, by omega, h5, h6, ?_⟩⟩
    rw [← h7, List.take_take, Nat.min_eq_left hm]
end Go.Proofs.YtkjmddgnfgbioaaDoor


namespace Go.Proofs.YtkjmddgnfgbioaaDoor
set_option linter.unusedVariables false
set_option linter.unusedSimpArgs false
set_option maxRecDepth 100000
open Go.RowKit

/-- a row of terms: a term's fields, its kids, the rest of the row -/
inductive Ks
  | nil
  | cons (k c : Int) (b : Bool) (l : Int) (kids rest : Ks)
namespace Ks
def len : Ks → Nat
  | nil => 0
  | cons _ _ _ _ _ rest => rest.len + 1
/-- what package sp sees in a term -/
def mk (k c : Int) (b : Bool) (l : Int) (ts : List Sp.T) : Sp.T :=
  if k = 1 then .one c b l else if k = 2 ∨ k = 3 then (match ts with | t0 :: t1 :: _ => .two (decide (k = 3)) t0 t1 | _ => .nil) else .nil
def tt : Ks → List Sp.T
  | nil => []
  | cons k c b l kids rest => mk k c b l kids.tt :: rest.tt
theorem tt_len : ∀ s : Ks, s.tt.length = s.len
  | nil => rfl
  | cons _ _ _ _ _ rest => by simp [tt, len, tt_len rest]
def sizes (ts : List Sp.T) : Nat := (ts.map Sp.T.size).sum
theorem mk_size (k c : Int) (b : Bool) (l : Int) (ts : List Sp.T) : (mk k c b l ts).size ≤ sizes ts + 1 := by
  unfold mk
  split
  · simp [Sp.T.size, Sp.T.leaves]
  · split
    · match ts with
      | [] => simp [Sp.T.size, Sp.T.leaves]
      | [_] => simp [Sp.T.size, Sp.T.leaves]
      | t0 :: t1 :: ts =>
        show (Sp.T.two _ t0 t1).size ≤ _
        rw [Sp.T.size_two]
        simp [sizes]
        omega
    · simp [Sp.T.size, Sp.T.leaves]
end Ks

inductive KsR (B : Nat) (w : World) : List Value → Ks → Prop
  | nil : KsR B w [] .nil
  | cons (k c : Int) (b : Bool) (l : Int) (A : Option Addr) (cap : Nat) (ds cs : List Value) (kids rest : Ks) : kids.len ≤ cap → cap ≤ maxLen → Cells w B A ds → KsR B w ds kids → KsR B w cs rest → KsR B w (tcells k c b l A kids.len cap ++ cs) (.cons k c b l kids rest)
theorem KsR.length {B : Nat} {w : World} {cs : List Value} {s : Ks} (h : KsR B w cs s) : cs.length = s.len * 5 := by
  induction h with
  | nil => rfl
  | cons k c b l A cap ds cs kids rest _ _ _ _ _ _ ih =>
    rw [List.length_append, ih, Ks.len]
    simp [tcells]
    omega
theorem TmR.mk {B : Nat} {w : World} {k c : Int} {b : Bool} {l : Int} {A : Option Addr} {n cap : Nat} {ds : List Value} {ts : List Sp.T} (hn : n = ts.length) (h1 : n ≤ cap) (h2 : cap ≤ maxLen) (hc : Cells w B A ds) (hl : ds.length = n * 5) (hk : ∀ (i : Nat) (t : Sp.T), ts[i]? = some t → TmR B w ((ds.drop (i * 5)).take 5) t) : TmR B w (tcells k c b l A n cap) (Ks.mk k c b l ts) := by
  unfold Ks.mk
  split
  · rename_i e
    subst e
    exact .one c b l A n cap h1 h2
  · rename_i e1
    split
    · rename_i e2
      match ts, hn, hk with
      | [], hn, _ => exact .nil k c b l A n cap h1 h2 e1 (by simp at hn; omega)
      | [_], hn, _ => exact .nil k c b l A n cap h1 h2 e1 (by simp at hn; omega)
      | t0 :: t1 :: ts, hn, hk =>
        have r0 := hk 0 t0 rfl
        have r1 := hk 1 t1 rfl
        simp only [List.length_cons] at hn
        obtain ⟨g, o, h3, h4⟩ := hc
        obtain ⟨rfl, hg⟩ := h3 (fun e => by rw [e] at hl; simp at hl; omega)
        have q0 : ∀ j u, ((ds.drop (0 * 5)).take 5)[j]? = some u → w.cell? ⟨g, o + j, none⟩ = some u := fun j u hu => by
          rw [List.getElem?_take] at hu
          split at hu
          · rw [List.getElem?_drop] at hu
            simpa using h4 _ _ hu
          · cases hu
        have q1 : ∀ j u, ((ds.drop (1 * 5)).take 5)[j]? = some u → w.cell? ⟨g, o + 5 + j, none⟩ = some u := fun j u hu => by
          rw [List.getElem?_take] at hu
          split at hu
          · rw [List.getElem?_drop] at hu
            have := h4 _ _ hu
            rwa [← Nat.add_assoc] at this
          · cases hu
        have := TmR.two (decide (k = 3)) c b l g o n cap _ _ t0 t1 h1 h2 (by omega) hg q0 q1 r0 r1
        rcases e2 with rfl | rfl
        · exact this
        · exact this
    · rename_i e2
      exact .nil k c b l A n cap h1 h2 e1 (by rintro ⟨h, _⟩; exact e2 h)
theorem KsR.terms {B : Nat} {w : World} {cs : List Value} {s : Ks} (h : KsR B w cs s) : ∀ (i : Nat) (t : Sp.T), s.tt[i]? = some t → TmR B w ((cs.drop (i * 5)).take 5) t := by
  induction h with
  | nil => intro i t h; simp [Ks.tt] at h
  | cons k c b l A cap ds cs kids rest h1 h2 h3 h4 h5 ih1 ih2 =>
    intro i t hi
    rw [Ks.tt] at hi
    rcases i with _ | i
    · simp only [List.getElem?_cons_zero, Option.some.injEq] at hi
      subst hi
      have : ((tcells k c b l A kids.len cap ++ cs).drop (0 * 5)).take 5 = tcells k c b l A kids.len cap := by simp [tcells]
      rw [this]
      exact TmR.mk (Ks.tt_len kids).symm h1 h2 h3 h4.length ih1
    · rw [List.getElem?_cons_succ] at hi
      have : ((tcells k c b l A kids.len cap ++ cs).drop ((i + 1) * 5)).take 5 = (cs.drop (i * 5)).take 5 := by
        rw [show (i + 1) * 5 = (tcells k c b l A kids.len cap).length + i * 5 by simp [tcells]; omega, List.drop_append, List.drop_eq_nil_of_le (by omega)]
        simp
      rw [this]
      exact ih2 i t hi
theorem KsR.keep {B B' : Nat} {w w' : World} {cs : List Value} {s : Ks} (h : KsR B w cs s) (hB : B ≤ B') (hk : ∀ p : Addr, p.block < B → w'.cell? p = w.cell? p) : KsR B' w' cs s := by
  induction h with
  | nil => exact .nil
  | cons k c b l A cap ds cs kids rest h1 h2 h3 h4 h5 ih1 ih2 =>
    refine .cons k c b l A cap ds cs kids rest h1 h2 ?_ ih1 ih2
    obtain ⟨g, o, h6, h7⟩ := h3
    refine ⟨g, o, fun hne => ⟨(h6 hne).1, Nat.lt_of_lt_of_le (h6 hne).2 hB⟩, fun j u hu => ?_⟩
    have hne : ds ≠ [] := fun e => by rw [e] at hu; simp at hu
    exact (hk ⟨g, o + j, none⟩ (h6 hne).2).trans (h7 j u hu)
theorem KsR.later {B : Nat} {w w' : World} {cs : List Value} {s : Ks} (h : KsR B w cs s) (hb : Below B w w') : KsR B w' cs s := h.keep (Nat.le_refl _) (fun _ hp => hb.cell hp)
theorem KsR.up {B B' : Nat} {w : World} {cs : List Value} {s : Ks} (h : KsR B w cs s) (hB : B ≤ B') : KsR B' w cs s := h.keep hB (fun _ _ => rfl)
namespace Ks
def app : Ks → Ks → Ks
  | nil, s => s
  | cons k c b l kids rest, s => cons k c b l kids (rest.app s)
theorem app_nil : ∀ s : Ks, s.app nil = s
  | nil => rfl
  | cons k c b l kids rest => by rw [app, app_nil rest]
theorem app_assoc : ∀ a b c : Ks, (a.app b).app c = a.app (b.app c)
  | nil, _, _ => rfl
  | cons k c b l kids rest, _, _ => by simp [app, app_assoc rest]
theorem app_len : ∀ a b : Ks, (a.app b).len = a.len + b.len
  | nil, b => by simp [app, len]
  | cons _ _ _ _ _ rest, b => by simp [app, len, app_len rest]; omega
theorem len_zero : ∀ {s : Ks}, s.len = 0 → s = nil
  | nil, _ => rfl
  | cons _ _ _ _ _ _, h => by simp [len] at h
end Ks

section
variable {B B' lo lo' : Nat} {w w' : World} {cs cs' : List Value} {s s' : Ks}
theorem KsR.mono (h : KsR B w cs s) (hB : B ≤ B') (hk : ∀ (p : Addr) (v : Value), p.block < B → w.cell? p = some v → w'.cell? p = some v) : KsR B' w' cs s := by
  induction h with
  | nil => exact .nil
  | cons k c b l A cap ds cs kids rest h1 h2 h3 h4 h5 ih1 ih2 =>
    refine .cons k c b l A cap ds cs kids rest h1 h2 ?_ ih1 ih2
    obtain ⟨g, o, h6, h7⟩ := h3
    refine ⟨g, o, fun hne => ⟨(h6 hne).1, Nat.lt_of_lt_of_le (h6 hne).2 hB⟩, fun j u hu => ?_⟩
    have hne : ds ≠ [] := fun e => by rw [e] at hu; simp at hu
    exact hk ⟨g, o + j, none⟩ u (h6 hne).2 (h7 j u hu)
theorem KsR.app (h : KsR B w cs s) (h' : KsR B w cs' s') : KsR B w (cs ++ cs') (s.app s') := by
  induction h with
  | nil => exact h'
  | cons k c b l A cap ds cs kids rest h1 h2 h3 h4 h5 ih1 ih2 =>
    rw [List.append_assoc]
    exact .cons k c b l A cap ds _ kids _ h1 h2 h3 h4 ih2
theorem KsR.one (h : KsR B w cs s) : ∀ u ∈ cs, u.oneCell' = true := by
  induction h with
  | nil => intro u hu; cases hu
  | cons k c b l A cap ds cs kids rest h1 h2 h3 h4 h5 ih1 ih2 =>
    intro u hu
    rcases List.mem_append.1 hu with h | h
    · simp only [tcells, List.mem_cons, List.not_mem_nil, or_false] at h
      rcases h with rfl | rfl | rfl | rfl | rfl <;> rfl
    · exact ih2 u h
/-- the first of them, and what is behind it -/
theorem KsR.head {k c : Int} {b : Bool} {l : Int} {kids rest : Ks} (h : KsR B w cs (.cons k c b l kids rest)) : ∃ A cap ds, cs = tcells k c b l A kids.len cap ++ ds ∧ kids.len ≤ cap ∧ cap ≤ maxLen ∧ KsR B w (tcells k c b l A kids.len cap) (.cons k c b l kids .nil) ∧ KsR B w ds rest := by
  cases h with
  | cons _ _ _ _ A cap ds cs _ _ h1 h2 h3 h4 h5 => exact ⟨A, cap, cs, rfl, h1, h2, by have := KsR.cons (B := B) (w := w) k c b l A cap ds [] kids .nil h1 h2 h3 h4 .nil; rwa [List.append_nil] at this, h5⟩

/-- read, in the blocks from lo on alone -/
def KN (lo : Nat) (w : World) (cs : List Value) (s : Ks) : Prop := KsR w.heap.size (only w fun g => lo ≤ g) cs s
theorem KN.nil : KN lo w [] .nil := KsR.nil
theorem KN.read (h : KN lo w cs s) : KsR w.heap.size w cs s := KsR.mono h (Nat.le_refl _) fun p v _ hv => (only_some.1 hv).2
theorem KN.low (h : KN lo w cs s) (hl : lo' ≤ lo) : KN lo' w cs s := KsR.mono h (Nat.le_refl _) fun p v _ hv => only_some.2 ⟨Nat.le_trans hl (only_some.1 hv).1, (only_some.1 hv).2⟩
theorem KN.below (h : KN lo w cs s) (hb : Below w.heap.size w w') : KN lo w' cs s := KsR.mono h hb.size fun p v hp hv => only_some.2 ⟨(only_some.1 hv).1, (hb.cell hp).trans (only_some.1 hv).2⟩
theorem KN.grown {g : Nat} (h : KN lo w cs s) (hg : w.grownBy w' (some g)) (hl : g < lo) : KN lo w' cs s := KsR.mono h hg.size (only_up hg fun i _ hi => ⟨hi, fun e => by injection e; omega⟩)
theorem KN.app (h : KN lo w cs s) (h' : KN lo w cs' s') : KN lo w (cs ++ cs') (s.app s') := KsR.app h h'
theorem KN.len (h : KN lo w cs s) : cs.length = s.len * 5 := KsR.length h
/-- a term whose kids lie in a row of the call's own -/
theorem KN.term {e : TypeId} {A : Option Addr} {cap : Nat} {k c : Int} {b : Bool} {l : Int} {kids : Ks} {ds : List Value} (hr : w.ownsRow lo e 5 (.slice A kids.len cap) kids.len ds) (h : KN lo w ds kids) : KN lo w (tcells k c b l A kids.len cap) (.cons k c b l kids .nil) := by
  obtain ⟨A', c', he, h1, h2⟩ := own_slice hr
  injection he with e1 e2 e3
  subst e1 e3
  have hC : Cells (only w fun g => lo ≤ g) w.heap.size A ds := by
    obtain ⟨g, o, h3, h4⟩ := Cells.of_own hr
    refine ⟨g, o, h3, fun j u hu => only_some.2 ⟨?_, h4 j u hu⟩⟩
    have hne : ds ≠ [] := fun e => by rw [e] at hu; simp at hu
    have := own_ge hr g (by rw [(h3 hne).1]; rfl)
    exact this
  have := KsR.cons (B := w.heap.size) (w := only w fun g => lo ≤ g) k c b l A cap ds [] kids .nil h1 h2 hC h .nil
  rw [List.append_nil] at this
  exact this
end

def FKN (lo : Nat) (s : Ks) : Fact (fun w w' => Below w.heap.size w w') := ⟨fun v w => ∃ cs, v = .agg cs.toArray ∧ KN lo w cs s, fun v w w' h k => by
  obtain ⟨cs, h1, h2⟩ := h
  exact ⟨cs, h1, h2.below k⟩⟩
end Go.Proofs.YtkjmddgnfgbioaaDoor


namespace Go.Proofs.YtkjmddgnfgbioaaDoor.Un
set_option linter.unusedVariables false
set_option linter.unusedSimpArgs false
set_option maxRecDepth 100000
open Ex St Sr

/-- so many rounds, and what is left behind them -/
def iter : Nat → Int → (Int → (M → Sp.T × M) → M → Sp.T × M) → (M → Sp.T × M) → M → Sp.T × M
  | 0, _, _, k, m => k m
  | n + 1, i, f, k, m => f i (fun m => iter n (i + 1) f k m) m
/-- in front of what is left -/
def seq (par : Bool) (a : Sp.T) (r : Sp.T × M) : Sp.T × M := (.two par a r.1, r.2)
def k0 (m : M) : Sp.T × M := (.nil, m)
def un : P → Sr.Env → Nat → (M → Sp.T × M) → M → Sp.T × M
  | .nil, _, _, k, m => k m
  | .cons kd nm a b body els rest, env, l, k, m =>
    if kd = 1 then un rest (env ++ [(nm, evl env a)]) l k m.step
    else if kd = 2 then seq false (.one (cell (evl env a) : Nat) false l) (un rest (env ++ [(nm, m.heap.getD (cell (evl env a)) 0)]) (l + 1) k (m.step.acc (cell (evl env a)) false l))
    else if kd = 3 then seq false (.one (cell (evl env a) : Nat) true l) (un rest env (l + 1) k ((m.step.acc (cell (evl env a)) true l).put (cell (evl env a)) (evl env b)))
    else if kd = 4 ∨ kd = 5 then seq (decide (kd = 4)) (un body env l k0 m.step).1 (un rest env (l + labels body) k (un body env l k0 m.step).2)
    else if kd = 6 then (if evl env a ≠ 0 then un body env l (fun m => un rest env (l + (labels body + labels els)) k m) m.step else un els env (l + labels body) (fun m => un rest env (l + (labels body + labels els)) k m) m.step)
    else if kd = 7 then iter (evl env b - evl env a).toNat (evl env a) (fun i k m => un body (env ++ [(nm, i)]) l k m.step) (fun m => un rest env (l + labels body) k m) m.step
    else un rest env l k m

theorem iter_state {f : Int → (M → Sp.T × M) → M → Sp.T × M} {g : Int → M → M} (h : ∀ i k m, (f i k m).2 = (k (g i m)).2) : ∀ n i k m, (iter n i f k m).2 = (k (Sr.iter n i g m)).2
  | 0, _, _, _ => rfl
  | n + 1, i, k, m => by rw [iter, h, iter_state h n (i + 1) k, Sr.iter]
theorem un_state : ∀ (p : P) (env : Sr.Env) (l : Nat) (k : M → Sp.T × M) (m : M), (un p env l k m).2 = (k (run p env l m)).2
  | .nil, _, _, _, _ => rfl
  | .cons kd nm a b body els rest, env, l, k, m => by
    unfold un run
    split
    · exact un_state rest _ _ _ _
    · split
      · exact un_state rest _ _ _ _
      · split
        · exact un_state rest _ _ _ _
        · split
          · show (un rest _ _ _ _).2 = _
            rw [un_state rest, un_state body]
            rfl
          · split
            · split
              · rw [un_state body, un_state rest]
              · rw [un_state els, un_state rest]
            · split
              · rw [iter_state (g := fun i m => run body (env ++ [(nm, i)]) l m.step) (fun i k m => un_state body _ _ _ _), un_state rest]
              · exact un_state rest _ _ _ _

/-- what is done behind it is what its leaves tell -/
def Tells (m : M) (r : Sp.T × M) : Prop := r.2.trace = m.trace ++ r.1.leaves
theorem iter_tells {f : Int → (M → Sp.T × M) → M → Sp.T × M} (hf : ∀ i k m, (∀ m, Tells m (k m)) → Tells m (f i k m)) {k : M → Sp.T × M} (hk : ∀ m, Tells m (k m)) : ∀ n i m, Tells m (iter n i f k m)
  | 0, _, m => hk m
  | n + 1, i, m => hf i _ m (fun m => iter_tells hf hk n (i + 1) m)
theorem un_tells : ∀ (p : P) (env : Sr.Env) (l : Nat) (k : M → Sp.T × M) (m : M), (∀ m, Tells m (k m)) → Tells m (un p env l k m)
  | .nil, _, _, _, m, hk => hk m
  | .cons kd nm a b body els rest, env, l, k, m, hk => by
    unfold un
    split
    · exact un_tells rest _ _ _ m.step hk
    · split
      · have := un_tells rest (env ++ [(nm, m.heap.getD (cell (evl env a)) 0)]) (l + 1) k (m.step.acc (cell (evl env a)) false l) hk
        unfold Tells at this ⊢
        show (un rest _ _ _ _).2.trace = _
        rw [this]
        simp [seq, Sp.T.leaves, M.acc, M.step]
      · split
        · have := un_tells rest env (l + 1) k ((m.step.acc (cell (evl env a)) true l).put (cell (evl env a)) (evl env b)) hk
          unfold Tells at this ⊢
          show (un rest _ _ _ _).2.trace = _
          rw [this]
          simp [seq, Sp.T.leaves, M.acc, M.step, M.put]
        · split
          · have h0 := un_tells body env l k0 m.step (fun m => by simp [Tells, k0, Sp.T.leaves])
            have h1 := un_tells rest env (l + labels body) k (un body env l k0 m.step).2 hk
            unfold Tells at h0 h1 ⊢
            show (un rest _ _ _ _).2.trace = _
            rw [h1, h0]
            simp [seq, Sp.T.leaves, M.step]
          · split
            · split
              · exact un_tells body _ _ _ m.step (fun m => un_tells rest _ _ _ m hk)
              · exact un_tells els _ _ _ m.step (fun m => un_tells rest _ _ _ m hk)
            · split
              · exact iter_tells (fun i k m hk => un_tells body _ _ _ m.step hk) (fun m => un_tells rest _ _ _ m hk) _ _ m.step
              · exact un_tells rest _ _ _ m hk

/-- the whole -/
def go (p : P) (h : List Int) : Sp.T × M := un p [] 0 k0 (M0 h)
theorem go_state (p : P) (h : List Int) : (go p h).2 = Sr.go p h := un_state p _ _ _ _
theorem go_leaves (p : P) (h : List Int) : (go p h).1.leaves = (Sr.go p h).trace := by
  have := un_tells p [] 0 k0 (M0 h) (fun m => by simp [Tells, k0, Sp.T.leaves])
  rw [← go_state]
  unfold go
  rw [show (un p [] 0 k0 (M0 h)).2.trace = _ from this]
  simp [M0]
/-- what Unfold has -/
def term (p : P) (h : List Int) (fuel : Int) : Sp.T := if err p h fuel = 0 then (go p h).1 else .nil
theorem term_leaves (p : P) (h : List Int) (fuel : Int) : (term p h fuel).leaves = (Sr.fin p h fuel).trace := by
  unfold term Sr.fin
  split
  · exact go_leaves p h
  · rfl
end Go.Proofs.YtkjmddgnfgbioaaDoor.Un

namespace Go.Proofs.YtkjmddgnfgbioaaDoor
/-- a term as it is made, with all its fields -/
def Ks.of : Sp.T → Ks
  | .nil => .cons 0 0 false 0 .nil .nil
  | .one c b l => .cons 1 c b l .nil .nil
  | .two par a b => .cons (if par then 3 else 2) 0 false 0 ((Ks.of a).app (Ks.of b)) .nil
theorem Ks.of_len : ∀ t : Sp.T, (Ks.of t).len = 1
  | .nil => rfl
  | .one _ _ _ => rfl
  | .two _ _ _ => rfl
theorem Ks.tt_app : ∀ a b : Ks, (a.app b).tt = a.tt ++ b.tt
  | .nil, _ => rfl
  | .cons k c b l kids rest, s => by simp [Ks.app, Ks.tt, Ks.tt_app rest]
theorem Ks.of_tt : ∀ t : Sp.T, (Ks.of t).tt = [t]
  | .nil => by simp [Ks.of, Ks.tt, Ks.mk]
  | .one _ _ _ => by simp [Ks.of, Ks.tt, Ks.mk]
  | .two par a b => by
    simp only [Ks.of, Ks.tt, Ks.tt_app, Ks.of_tt a, Ks.of_tt b]
    cases par <;> simp [Ks.mk]
end Go.Proofs.YtkjmddgnfgbioaaDoor


namespace Go.Proofs.YtkjmddgnfgbioaaDoor.Ex
set_option linter.unusedVariables false
set_option linter.unusedSimpArgs false
set_option maxRecDepth 100000
open Go Go.RowKit

theorem doo_rng (k a b : Int) (ha : rng a) (hb : rng b) : rng (doo k a b) := by
  have hw : ∀ x, rng (wrap64 x) := fun x => by unfold rng wrap64; omega
  unfold doo
  split; exact hw _
  split; exact hw _
  split; exact hw _
  split; (split <;> (unfold rng; omega))
  split; (split <;> (unfold rng; omega))
  split; (unfold rng; omega)
  split; exact hw _
  split
  · rename_i h0 _ _
    have h1 := Int.natAbs_tmod a b
    unfold rng at *
    have : (a.tmod b).natAbs < b.natAbs := by rw [h1]; exact Nat.mod_lt _ (by omega)
    omega
  · unfold rng; omega
def ok : X → Prop
  | .num n => rng n
  | .two _ a b => ok a ∧ ok b
  | _ => True
theorem doo_rng' (k a b : Int) (ha : rng a) (hb : rng b) : rng (doo k a b) := doo_rng k a b ha hb
theorem look_rng (s : Bs) : ∀ l : List (Bs × Int), (∀ b ∈ l, rng b.2) → rng (look s l)
  | [], _ => by unfold look rng; omega
  | b :: l, h => by
    unfold look
    split
    · exact look_rng s l fun x hx => h x (List.mem_cons_of_mem _ hx)
    · split
      · exact h b List.mem_cons_self
      · unfold rng; omega
theorem evl_rng (env : List (Bs × Int)) (h : ∀ b ∈ env, rng b.2) : ∀ e : X, ok e → rng (evl env e)
  | .num n, he => he
  | .name s, _ => look_rng s env h
  | .bad, _ => by unfold evl rng; omega
  | .two k a b, he => doo_rng _ _ _ (evl_rng env h a he.1) (evl_rng env h b he.2)
end Go.Proofs.YtkjmddgnfgbioaaDoor.Ex
namespace Go.Proofs.YtkjmddgnfgbioaaDoor
theorem XRN.ok {N : Bool} {B : Nat} {w : World} {cs : List Value} {e : Ex.X} (h : XRN N B w cs e) : Ex.ok e := by
  induction h with
  | num n s A len cap h1 h2 h3 hN => exact h3
  | name n s A len cap h1 h2 hN => trivial
  | bad k n s A len cap h1 h2 h3 h4 h5 hN => trivial
  | two k n s g o len cap cs0 cs1 e0 e1 h1 h2 h3 h4 h5 h6 h7 h8 _ _ hN i0 i1 => exact ⟨i0, i1⟩
end Go.Proofs.YtkjmddgnfgbioaaDoor


namespace Go.Proofs.YtkjmddgnfgbioaaDoor
set_option linter.unusedVariables false
set_option linter.unusedSimpArgs false
set_option maxRecDepth 100000
open Go.ChangeShapes Go.WideShapes Go.ChangeAt Go.RowKit

/-- a statement's twelve cells -/
def stcells (k : Int) (nm : ByteArray) (ca cb : List Value) (B : Option Addr) (bl bc : Nat) (E : Option Addr) (el ec : Nat) : List Value :=
  [.int .i64 k, .string nm] ++ ca ++ cb ++ [.slice B bl bc, .slice E el ec]

/-- what lies behind an address, read as n statements -/
inductive PR (B : Nat) (w : World) : Option Addr → Nat → St.P → Prop
  | nil (A : Option Addr) : PR B w A 0 .nil
  | cons (g o n : Nat) (k : Int) (nm : ByteArray) (ca cb : List Value) (ea eb : Ex.X) (D : Option Addr) (dl dc : Nat) (E : Option Addr) (el ec : Nat) (body els rest : St.P) : g < B → dl ≤ dc → dc ≤ maxLen → el ≤ ec → ec ≤ maxLen →
      (∀ j u, (stcells k nm ca cb D dl dc E el ec)[j]? = some u → w.cell? ⟨g, o + j, none⟩ = some u) → XR B w ca ea → XR B w cb eb → PR B w D dl body → PR B w E el els → PR B w (some ⟨g, o + 12, none⟩) n rest →
      PR B w (some ⟨g, o, none⟩) (n + 1) (.cons k nm.data.toList ea eb body els rest)

theorem PR.length {B : Nat} {w : World} {A : Option Addr} {n : Nat} {p : St.P} (h : PR B w A n p) : n = p.length := by
  induction h with
  | nil A => rfl
  | cons g o n k nm ca cb ea eb D dl dc E el ec body els rest h1 h2 h3 h4 h5 h6 h7 h8 _ _ _ i1 i2 i3 => rw [St.P.length, i3]
theorem PR.keep {B B' : Nat} {w w' : World} {A : Option Addr} {n : Nat} {p : St.P} (h : PR B w A n p) (hB : B ≤ B') (hk : ∀ p : Addr, p.block < B → w'.cell? p = w.cell? p) : PR B' w' A n p := by
  induction h with
  | nil A => exact .nil A
  | cons g o n k nm ca cb ea eb D dl dc E el ec body els rest h1 h2 h3 h4 h5 h6 h7 h8 _ _ _ i1 i2 i3 =>
    exact .cons g o n k nm ca cb ea eb D dl dc E el ec body els rest (Nat.lt_of_lt_of_le h1 hB) h2 h3 h4 h5 (fun j u hu => (hk ⟨g, o + j, none⟩ h1).trans (h6 j u hu)) (h7.keep hB hk) (h8.keep hB hk) i1 i2 i3
theorem PR.later {B : Nat} {w w' : World} {A : Option Addr} {n : Nat} {p : St.P} (h : PR B w A n p) (hb : Below B w w') : PR B w' A n p := h.keep (Nat.le_refl _) (fun _ hp => hb.cell hp)
theorem PR.up {B B' : Nat} {w : World} {A : Option Addr} {n : Nat} {p : St.P} (h : PR B w A n p) (hB : B ≤ B') : PR B' w A n p := h.keep hB (fun _ _ => rfl)
theorem PR.alloc {B : Nat} {w : World} {A : Option Addr} {n : Nat} {p : St.P} (h : PR B w A n p) (hB : B ≤ w.heap.size) (o : Obj) : PR B (w.alloc o) A n p := h.later ((Below.refl _ _).alloc hB o)

theorem PR.step {B n : Nat} {w : World} {A : Option Addr} {q : St.P} (h : PR B w A (n + 1) q) : ∃ (g o : Nat) (k : Int) (nm : ByteArray) (ca cb : List Value) (ea eb : Ex.X) (D : Option Addr) (dl dc : Nat) (E : Option Addr) (el ec : Nat) (body els rest : St.P),
    A = some ⟨g, o, none⟩ ∧ q = .cons k nm.data.toList ea eb body els rest ∧ g < B ∧ (dl ≤ dc ∧ dc ≤ maxLen ∧ el ≤ ec ∧ ec ≤ maxLen) ∧ (∀ j u, (stcells k nm ca cb D dl dc E el ec)[j]? = some u → w.cell? ⟨g, o + j, none⟩ = some u) ∧
      XR B w ca ea ∧ XR B w cb eb ∧ PR B w D dl body ∧ PR B w E el els ∧ PR B w (some ⟨g, o + 12, none⟩) n rest := by
  cases h with
  | cons g o n k nm ca cb ea eb D dl dc E el ec body els rest h1 h2 h3 h4 h5 h6 h7 h8 h9 h10 h11 => exact ⟨g, o, k, nm, ca, cb, ea, eb, D, dl, dc, E, el, ec, body, els, rest, rfl, rfl, h1, ⟨h2, h3, h4, h5⟩, h6, h7, h8, h9, h10, h11⟩
theorem PR.zero {B : Nat} {w : World} {A : Option Addr} {q : St.P} (h : PR B w A 0 q) : q = .nil := by cases h; rfl
/-- a place for what lies behind an address -/
theorem PR.place {B n : Nat} {w : World} {A : Option Addr} {q : St.P} (h : PR B w A n q) : ∃ g o, (0 < n → A = some ⟨g, o, none⟩) ∧ PR B w (some ⟨g, o + 0 * 12, none⟩) (n - 0) q := by
  cases h with
  | nil => exact ⟨0, 0, fun h => by omega, .nil _⟩
  | cons g o n k nm ca cb ea eb D dl dc E el ec body els rest h1 h2 h3 h4 h5 h6 h7 h8 h9 h10 h11 =>
    exact ⟨g, o, fun _ => rfl, .cons g (o + 0 * 12) n k nm ca cb ea eb D dl dc E el ec body els rest h1 h2 h3 h4 h5 (by simpa using h6) h7 h8 h9 h10 (by simpa using h11)⟩
/-- the next one's twelve cells, one by one -/
theorem PR.next {B n k : Nat} {g o : Nat} {w : World} {q : St.P} (h : PR B w (some ⟨g, o + k * 12, none⟩) n q) (hn : 0 < n) : ∃ (kd : Int) (nm : ByteArray) (ak an bk bn : Int) (sa sb : ByteArray) (aA bA : Option Addr) (al ac bl bc : Nat) (ea eb : Ex.X) (D : Option Addr) (dl dc : Nat) (E : Option Addr) (el ec : Nat) (body els rest : St.P),
    q = .cons kd nm.data.toList ea eb body els rest ∧ g < B ∧ (dl ≤ dc ∧ dc ≤ maxLen ∧ el ≤ ec ∧ ec ≤ maxLen) ∧
      (∀ j u, (stcells kd nm (xcells ak an sa aA al ac) (xcells bk bn sb bA bl bc) D dl dc E el ec)[j]? = some u → w.cell? ⟨g, o + k * 12 + j, none⟩ = some u) ∧
      XR B w (xcells ak an sa aA al ac) ea ∧ XR B w (xcells bk bn sb bA bl bc) eb ∧ PR B w D dl body ∧ PR B w E el els ∧ PR B w (some ⟨g, o + (k + 1) * 12, none⟩) (n - 1) rest := by
  obtain ⟨m, rfl⟩ : ∃ m, n = m + 1 := ⟨n - 1, by omega⟩
  obtain ⟨g', o', kd, nm, ca, cb, ea, eb, D, dl, dc, E, el, ec, body, els, rest, hA, hq, h1, h2, h3, h4, h5, h6, h7, h8⟩ := h.step
  injection hA with hA
  injection hA with e1 e2
  subst e1 e2
  obtain ⟨ak, an, sa, aA, al, ac, rfl, -, -⟩ := h4.form
  obtain ⟨bk, bn, sb, bA, bl, bc, rfl, -, -⟩ := h5.form
  refine ⟨kd, nm, ak, an, bk, bn, sa, sb, aA, bA, al, ac, bl, bc, ea, eb, D, dl, dc, E, el, ec, body, els, rest, hq, h1, h2, h3, h4, h5, h6, h7, ?_⟩
  rw [Nat.add_mul, ← Nat.add_assoc, Nat.one_mul]
  exact h8

/-! ### an argument -/
theorem St.bulk_all {H : Type} (a : DataW H) (l : List (DataW H)) : Rows.uptoBulkAll (a :: l) = Rows.uptoBulk a + Rows.uptoBulkAll l := by rw [Rows.uptoBulkAll]

/-- a statement, its lists of statements being opened -/
theorem open_stmt {H : Type} {enc : TypeId × Value → H} {w : World} (fuel : Nat)
    (ih : ∀ nn, nn < fuel → ∀ (v : Value) (x : DataW H × List MemPlace), DataW.trod enc Tryd.prog w 0 (fun _ => true) true nn 34 [v] = some x → (∀ p ∈ x.2, p.block < w.heap.size) →
      ∃ A n c p, v = .slice A n c ∧ n ≤ c ∧ c ≤ maxLen ∧ PR w.heap.size w A n p ∧ p.size ≤ Rows.uptoBulk x.1)
    (cs : List Value) (x : DataW H × List MemPlace) (h : DataW.trod enc Tryd.prog w 0 (fun _ => true) true fuel 40 cs = some x) (hlt : ∀ p ∈ x.2, p.block < w.heap.size) :
    ∃ (k : Int) (nm : ByteArray) (ca cb : List Value) (ea eb : Ex.X) (D : Option Addr) (dl dc : Nat) (E : Option Addr) (el ec : Nat) (body els : St.P), cs = stcells k nm ca cb D dl dc E el ec ∧ dl ≤ dc ∧ dc ≤ maxLen ∧ el ≤ ec ∧ ec ≤ maxLen ∧
      XR w.heap.size w ca ea ∧ XR w.heap.size w cb eb ∧ PR w.heap.size w D dl body ∧ PR w.heap.size w E el els ∧ 1 + ea.leaves + eb.leaves + body.size + els.size ≤ Rows.uptoBulk x.1 := by
  have hT : Tryd.prog.underlying 40 = some (.struct (fieldsOf Tryd.prog 40)) := by kernel_rfl
  obtain ⟨xs, m, rfl, rfl, hl, hxl, hfs⟩ := DataW.trod_struct hT h
  have q0 : (fieldsOf Tryd.prog 40)[0]?.map (fun f => (f.type, f.offset)) = some (3, 0) := by kernel_rfl
  have q1 : (fieldsOf Tryd.prog 40)[1]?.map (fun f => (f.type, f.offset)) = some (9, 1) := by kernel_rfl
  have q2 : (fieldsOf Tryd.prog 40)[2]?.map (fun f => (f.type, f.offset)) = some (38, 2) := by kernel_rfl
  have q3 : (fieldsOf Tryd.prog 40)[3]?.map (fun f => (f.type, f.offset)) = some (38, 6) := by kernel_rfl
  have q4 : (fieldsOf Tryd.prog 40)[4]?.map (fun f => (f.type, f.offset)) = some (34, 10) := by kernel_rfl
  have q5 : (fieldsOf Tryd.prog 40)[5]?.map (fun f => (f.type, f.offset)) = some (34, 11) := by kernel_rfl
  have hsz : (fieldsOf Tryd.prog 40).size = 6 := by kernel_rfl
  obtain ⟨f0, g0, p0⟩ := Option.map_eq_some_iff.1 q0
  obtain ⟨f1, g1, p1⟩ := Option.map_eq_some_iff.1 q1
  obtain ⟨f2, g2, p2⟩ := Option.map_eq_some_iff.1 q2
  obtain ⟨f3, g3, p3⟩ := Option.map_eq_some_iff.1 q3
  obtain ⟨f4, g4, p4⟩ := Option.map_eq_some_iff.1 q4
  obtain ⟨f5, g5, p5⟩ := Option.map_eq_some_iff.1 q5
  injection p0 with p0 p0'
  injection p1 with p1 p1'
  injection p2 with p2 p2'
  injection p3 with p3 p3'
  injection p4 with p4 p4'
  injection p5 with p5 p5'
  have h0 := hfs 0 f0 g0
  have h1 := hfs 1 f1 g1
  have h2 := hfs 2 f2 g2
  have h3 := hfs 3 f3 g3
  have h4 := hfs 4 f4 g4
  have h5 := hfs 5 f5 g5
  have c0 : Tryd.prog.cellsOf 3 = 1 := by kernel_rfl
  have c1 : Tryd.prog.cellsOf 9 = 1 := by kernel_rfl
  have c2 : Tryd.prog.cellsOf 38 = 4 := by kernel_rfl
  have c4 : Tryd.prog.cellsOf 34 = 1 := by kernel_rfl
  have cT : Tryd.prog.cellsOf 40 = 12 := by kernel_rfl
  rw [p0, p0', c0] at h0
  rw [p1, p1', c1] at h1
  rw [p2, p2', c2] at h2
  rw [p3, p3', c2] at h3
  rw [p4, p4', c4] at h4
  rw [p5, p5', c4] at h5
  rw [cT] at hl
  rw [hsz] at hxl
  match xs, hxl, cs, hl with
  | [x0, x1, x2, x3, x4, x5], _, [v0, v1, v2, v3, v4, v5, v6, v7, v8, v9, v10, v11], _ =>
    simp only [List.drop_succ_cons, List.drop_zero, List.take_succ_cons, List.take_zero, List.getElem?_cons_zero, List.getElem?_cons_succ] at h0 h1 h2 h3 h4 h5
    have hlt2 : ∀ p ∈ x2.2, p.block < w.heap.size := fun p hp => hlt p (by simp [hp])
    have hlt3 : ∀ p ∈ x3.2, p.block < w.heap.size := fun p hp => hlt p (by simp [hp])
    have hlt4 : ∀ p ∈ x4.2, p.block < w.heap.size := fun p hp => hlt p (by simp [hp])
    have hlt5 : ∀ p ∈ x5.2, p.block < w.heap.size := fun p hp => hlt p (by simp [hp])
    obtain ⟨k, hk, -, hwk⟩ := DataW.trod_int Tryd.underlying3 h0
    obtain ⟨s, hs, -, hws⟩ := DataW.trod_string Tryd.underlying9 h1
    simp only [List.cons.injEq, and_true] at hk hs
    subst hk hs
    obtain ⟨ea, ra, ba⟩ := open_expr _ _ _ h2 hlt2
    obtain ⟨eb, rb, bb⟩ := open_expr _ _ _ h3 hlt3
    obtain ⟨D, dl, dc, body, e4, hd1, hd2, hd3, hd4⟩ := ih _ (by omega) _ _ h4 hlt4
    obtain ⟨E, el, ec, els, e5, he1, he2, he3, he4⟩ := ih _ (by omega) _ _ h5 hlt5
    subst e4 e5
    refine ⟨k, s, _, _, ea, eb, D, dl, dc, E, el, ec, body, els, rfl, hd1, hd2, he1, he2, ra, rb, hd3, he3, ?_⟩
    have hb0 := Ex.bulk_pos x0.1
    simp only [List.map_cons, List.map_nil, Rows.uptoBulk, Rows.uptoBulkAll]
    omega

theorem open_stmts {H : Type} {enc : TypeId × Value → H} {w : World} : ∀ (fuel : Nat) (v : Value) (x : DataW H × List MemPlace), DataW.trod enc Tryd.prog w 0 (fun _ => true) true fuel 34 [v] = some x → (∀ p ∈ x.2, p.block < w.heap.size) →
    ∃ A n c p, v = .slice A n c ∧ n ≤ c ∧ c ≤ maxLen ∧ PR w.heap.size w A n p ∧ p.size ≤ Rows.uptoBulk x.1 := by
  intro fuel
  induction fuel using Nat.strongRecOn with
  | _ fuel ih =>
    intro v x h hlt
    have cT : Tryd.prog.cellsOf 40 = 12 := by kernel_rfl
    rcases DataW.trod_slice Tryd.underlying34 h with ⟨hcs, hx⟩ | ⟨a, len, cap, el, rest, nn, hnn, hcs, hx, -, hle, hm, hlen, hel, hsp, -⟩
    · simp only [List.cons.injEq, and_true] at hcs
      exact ⟨none, 0, 0, .nil, hcs, Nat.le_refl _, Nat.zero_le _, .nil _, Nat.zero_le _⟩
    · simp only [List.cons.injEq, and_true] at hcs
      obtain ⟨b, off, sp⟩ := a
      have kid : ∀ i, i < len → ∃ (y : DataW H × List MemPlace) (cs' : List Value), el[i]? = some y ∧ cs'.length = 12 ∧ (∀ j, j < 12 → w.cell? (((⟨b, off, sp⟩ : Addr).add (i * 12)).add j) = cs'[j]?) ∧ DataW.trod enc Tryd.prog w 0 (fun _ => true) true nn 40 cs' = some y ∧ (∀ p ∈ y.2, p.block < w.heap.size) := by
        intro i hi
        have h4 := hel i hi
        rw [cT, List.getElem?_eq_getElem (by omega)] at h4
        obtain ⟨cs', hc', htr⟩ := Option.bind_eq_some_iff.1 h4
        obtain ⟨hb0, hl5, hat⟩ := World.cells?_some hc'
        refine ⟨el[i], cs', List.getElem?_eq_getElem (by omega), hl5, hat, htr, fun p hp => hlt p ?_⟩
        rw [hx]
        exact List.mem_append_right _ (List.mem_flatMap.2 ⟨el[i], List.mem_append_left _ (List.getElem_mem _), hp⟩)
      by_cases h0 : len = 0
      · subst h0
        exact ⟨_, 0, cap, .nil, hcs, hle, hm, .nil _, Nat.zero_le _⟩
      have hsp0 : sp = none := by
        obtain ⟨y, cs', hy, hl5, hat, -, -⟩ := kid 0 (by omega)
        have := hat 0 (by decide)
        rw [List.getElem?_eq_getElem (by omega)] at this
        simpa [Addr.add] using World.cell?_spot this
      subst hsp0
      have hrd : ∀ m, m ≤ len → ∃ p, PR w.heap.size w (some ⟨b, off + (len - m) * 12, none⟩) m p ∧ p.size ≤ Rows.uptoBulkAll ((el.map (·.1)).drop (len - m)) := by
        intro m
        induction m with
        | zero => exact fun _ => ⟨.nil, .nil _, Nat.zero_le _⟩
        | succ m ihm =>
          intro hm'
          obtain ⟨p, hp1, hp2⟩ := ihm (by omega)
          obtain ⟨y, cs', hy, hl5, hat, htr, hlty⟩ := kid (len - (m + 1)) (by omega)
          obtain ⟨k, nm, ca, cb, ea, eb, D, dl, dc, E, el', ec, body, els, rfl, hd1, hd2, he1, he2, ra, rb, hd3, he3, hbk⟩ := open_stmt nn (fun n2 hn2 => ih n2 (by omega)) cs' y htr hlty
          have hat' : ∀ j u, (stcells k nm ca cb D dl dc E el' ec)[j]? = some u → w.cell? ⟨b, off + (len - (m + 1)) * 12 + j, none⟩ = some u := fun j u hu => by
            have hj : j < 12 := by
              have := (List.getElem?_eq_some_iff.1 hu).1
              omega
            have := hat j hj
            rw [Addr.add_lit, Addr.add_lit, hu] at this
            exact this
          refine ⟨.cons k nm.data.toList ea eb body els p, .cons b _ m k nm ca cb ea eb D dl dc E el' ec body els p (World.block_lt_of_cell? w _ (hat' 0 _ rfl)) hd1 hd2 he1 he2 hat' ra rb hd3 he3 ?_, ?_⟩
          · rw [show off + (len - (m + 1)) * 12 + 12 = off + (len - m) * 12 by
              rw [show len - m = (len - (m + 1)) + 1 by omega, Nat.add_mul]; omega]
            exact hp1
          · have hdr : (el.map (·.1)).drop (len - (m + 1)) = y.1 :: (el.map (·.1)).drop (len - m) := by
              have hlt' : len - (m + 1) < (el.map (·.1)).length := by rw [List.length_map]; omega
              rw [List.drop_eq_getElem_cons hlt', show len - (m + 1) + 1 = len - m by omega]
              congr 1
              rw [List.getElem_map]
              obtain ⟨h', e⟩ := List.getElem?_eq_some_iff.1 hy
              rw [e]
            rw [hdr, Rows.uptoBulkAll, St.P.size]
            omega
      obtain ⟨p, hp1, hp2⟩ := hrd len (Nat.le_refl _)
      rw [Nat.sub_self, Nat.zero_mul, Nat.add_zero] at hp1
      rw [Nat.sub_self, List.drop_zero] at hp2
      refine ⟨_, len, cap, p, hcs, hle, hm, hp1, ?_⟩
      rw [hx]
      simp only [Rows.uptoBulk]
      omega
end Go.Proofs.YtkjmddgnfgbioaaDoor
