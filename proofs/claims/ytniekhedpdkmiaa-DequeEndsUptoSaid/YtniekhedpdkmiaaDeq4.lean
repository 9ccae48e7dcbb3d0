/-
  Package deque, walked: do.
-/
import Derived.Test.YtniekhedpdkmiaaDeq3
namespace Go.Proofs.Ytniekhedpdkmiaa
set_option linter.unusedVariables false
set_option linter.unusedSimpArgs false
open Go.RowKit

def DqDo (g : Nat) (l' : List Int) (r : Option Nat) (w : World) (err n : Int) : Ending → World → Prop := fun e w' =>
  e = .returned (.agg #[.int .i64 err, .int .i64 n]) ∧ (∃ r', DqRep w' g l' r' ∧ (r' = r ∨ ∃ b, r' = some b ∧ w.heap.size ≤ b)) ∧ Keeps (fun k => k = g ∨ some k = r) w w'

theorem DqRep.keeps {w w' : World} {g : Nat} {l : List Int} {r : Option Nat} {S : Nat → Prop} (h : DqRep w g l r) (k : Keeps S w w') (hg : ¬ S g) (hr : ∀ b, r = some b → ¬ S b) : DqRep w' g l r := by
  obtain ⟨ring, top, A, c, h, rfl⟩ := h
  exact ⟨ring, top, A, c, ⟨h.blk.keeps k hg, own_keeps h.own k (fun b hb => hr b hb), h.rng, h.small, h.small'⟩, rfl⟩
theorem DqRep.lt {w : World} {g : Nat} {l : List Int} {r : Option Nat} (h : DqRep w g l r) : g < w.heap.size ∧ ∀ b, r = some b → g < b ∧ b < w.heap.size := by
  obtain ⟨ring, top, A, c, h, rfl⟩ := h
  exact ⟨h.blk.lt, fun b hb => h.own.lt b hb⟩

/-- the call's own two blocks: the operation, and the answer -/
def opW (w : World) (k y : Int) : World := (w.alloc (.cells #[.int .i64 k, .int .i64 y] 27)).alloc (.cells #[.int .i64 0, .int .i64 0] 33)
theorem opW_res (w : World) (k y : Int) : Blk (opW w k y) (w.heap.size + 1) 33 [.int .i64 0, .int .i64 0] := by
  have := Blk.new (w.alloc (.cells #[.int .i64 k, .int .i64 y] 27)) 33 [.int .i64 0, .int .i64 0]
  unfold opW
  simpa using this
theorem opW_keeps (w : World) (k y : Int) (S : Nat → Prop) : Keeps S w (opW w k y) := ((Keeps.refl S w).alloc _).alloc _
theorem opW_size (w : World) (k y : Int) : (opW w k y).heap.size = w.heap.size + 2 := by simp [opW]

/-- how do ends: the deque turned, the answer laid -/
theorem do_end {g : Nat} {l' : List Int} {r r' : Option Nat} {w w1 w2 : World} {k y : Int} {l : List Int} (h : DqRep w g l r) (hd : DqRep w1 g l' r') (hr' : r' = r ∨ r' = some (opW w k y).heap.size) (hk : Keeps (fun k => k = g ∨ some k = r) (opW w k y) w1)
    (hg : w1.grownBy w2 (some (w.heap.size + 1))) (err n : Int) : DqDo g l' r w err n (.returned (.agg #[.int .i64 err, .int .i64 n])) w2 := by
  have hs := opW_size w k y
  refine ⟨rfl, ⟨r', hd.keeps (Keeps.of_grown hg) (fun e => ?_) (fun b hb e => ?_), ?_⟩, ?_⟩
  · injection e with e; have := h.lt.1; omega
  · injection e with e
    rcases hr' with rfl | rfl
    · have := (h.lt.2 b hb).2; omega
    · injection hb with hb; omega
  · rcases hr' with rfl | rfl
    · exact .inl rfl
    · exact .inr ⟨_, rfl, by omega⟩
  · exact (opW_keeps w k y _).trans hk |>.step (Keeps.of_grown hg) (fun i hi e => by injection e with e; omega)
theorem do_res {g : Nat} {r : Option Nat} {w w1 : World} {k y : Int} {l : List Int} (h : DqRep w g l r) (hk : Keeps (fun k => k = g ∨ some k = r) (opW w k y) w1) : Blk w1 (w.heap.size + 1) 33 [.int .i64 0, .int .i64 0] :=
  (opW_res w k y).keeps hk (fun e => by
    rcases e with e | e
    · have := h.lt.1; omega
    · have := (h.lt.2 _ e.symm).2; omega)
theorem do_start {g : Nat} {r : Option Nat} {w : World} {l : List Int} (h : DqRep w g l r) (k y : Int) : DqRep (opW w k y) g l r := h.keeps (opW_keeps w k y (fun _ => False)) (fun h => h) (fun _ _ h => h)
theorem ints_one2 {l : List Int} : ∀ v ∈ l.map (Value.int .i64), v.oneCell' = true := ints_oneCell _ _

theorem do_push (g : Nat) (x : Int) (l : List Int) (r : Option Nat) (w : World) (h : DqRep w g l r) (hbig : l.length ≤ 8796093022299) :
    Calls Try.prog 27 #[.pointer (some ⟨g, 0, none⟩), .agg #[.int .i64 1, .int .i64 x]] w (DqDo g (l ++ [x]) r w 0 0) := by
  go_enter Try.func27, Try.ntmps27
  go_wp2_with fail
  refine (push_any g x l r _ (do_start h 1 x) hbig).mono ?_
  rintro e w1 ⟨rfl, ⟨r', hd, hr'⟩, hk⟩
  have hR := do_res h hk
  go_wp2_with (refine wpl_put_blk hR [.int .i64 0, .int .i64 0] (by kernel_rfl) rfl (ints_one2 (l := [0, 0])) rfl rfl rfl rfl ?_; intro w3 hR3 hg3)
  refine ret_blk hR3 rfl rfl Try.underlying33 rfl (by kernel_rfl) rfl ?_
  exact do_end h hd hr' hk hg3 _ _

theorem do_pop_some (g : Nat) (x y : Int) (l : List Int) (r : Option Nat) (w : World) (h : DqRep w g (l ++ [x]) r) :
    Calls Try.prog 27 #[.pointer (some ⟨g, 0, none⟩), .agg #[.int .i64 2, .int .i64 y]] w (DqDo g l r w 0 x) := by
  go_enter Try.func27, Try.ntmps27
  go_wp2_with fail
  refine (pop_some g x l r _ (do_start h 2 y)).mono ?_
  rintro e w1 ⟨rfl, hd, hk0⟩
  have hk := hk0.mono (S' := fun k => k = g ∨ some k = r) (fun i hi => .inl hi)
  have hR := do_res h hk
  go_wp2_with (refine wpl_put_blk hR [.int .i64 0, .int .i64 x] (by kernel_rfl) rfl (ints_one2 (l := [0, x])) rfl rfl rfl rfl ?_; intro w3 hR3 hg3)
  refine ret_blk hR3 rfl rfl Try.underlying33 rfl (by kernel_rfl) rfl ?_
  exact do_end h hd (.inl rfl) hk hg3 _ _

theorem do_pop_none (g : Nat) (y : Int) (r : Option Nat) (w : World) (h : DqRep w g [] r) :
    Calls Try.prog 27 #[.pointer (some ⟨g, 0, none⟩), .agg #[.int .i64 2, .int .i64 y]] w (DqDo g [] r w 7 0) := by
  go_enter Try.func27, Try.ntmps27
  go_wp2_with fail
  refine (pop_none g r _ (do_start h 2 y)).mono ?_
  rintro e w1 ⟨rfl, rfl⟩
  have hd := do_start h 2 y
  have hk := Keeps.refl (fun k => k = g ∨ some k = r) (opW w 2 y)
  have hR := do_res h hk
  go_wp2_with (refine wpl_put_blk hR [.int .i64 7, .int .i64 0] (by kernel_rfl) rfl (ints_one2 (l := [7, 0])) rfl rfl rfl rfl ?_; intro w3 hR3 hg3)
  refine ret_blk hR3 rfl rfl Try.underlying33 rfl (by kernel_rfl) rfl ?_
  exact do_end h hd (.inl rfl) hk hg3 _ _

theorem do_steal_some (g : Nat) (x y : Int) (l : List Int) (r : Option Nat) (w : World) (h : DqRep w g (x :: l) r) :
    Calls Try.prog 27 #[.pointer (some ⟨g, 0, none⟩), .agg #[.int .i64 3, .int .i64 y]] w (DqDo g l r w 0 x) := by
  go_enter Try.func27, Try.ntmps27
  go_wp2_with fail
  refine (steal_some g x l r _ (do_start h 3 y)).mono ?_
  rintro e w1 ⟨rfl, hd, hk0⟩
  have hk := hk0.mono (S' := fun k => k = g ∨ some k = r) (fun i hi => .inl hi)
  have hR := do_res h hk
  go_wp2_with (refine wpl_put_blk hR [.int .i64 0, .int .i64 x] (by kernel_rfl) rfl (ints_one2 (l := [0, x])) rfl rfl rfl rfl ?_; intro w3 hR3 hg3)
  refine ret_blk hR3 rfl rfl Try.underlying33 rfl (by kernel_rfl) rfl ?_
  exact do_end h hd (.inl rfl) hk hg3 _ _

theorem do_steal_none (g : Nat) (y : Int) (r : Option Nat) (w : World) (h : DqRep w g [] r) :
    Calls Try.prog 27 #[.pointer (some ⟨g, 0, none⟩), .agg #[.int .i64 3, .int .i64 y]] w (DqDo g [] r w 7 0) := by
  go_enter Try.func27, Try.ntmps27
  go_wp2_with fail
  refine (steal_none g r _ (do_start h 3 y)).mono ?_
  rintro e w1 ⟨rfl, rfl⟩
  have hd := do_start h 3 y
  have hk := Keeps.refl (fun k => k = g ∨ some k = r) (opW w 3 y)
  have hR := do_res h hk
  go_wp2_with (refine wpl_put_blk hR [.int .i64 7, .int .i64 0] (by kernel_rfl) rfl (ints_one2 (l := [7, 0])) rfl rfl rfl rfl ?_; intro w3 hR3 hg3)
  refine ret_blk hR3 rfl rfl Try.underlying33 rfl (by kernel_rfl) rfl ?_
  exact do_end h hd (.inl rfl) hk hg3 _ _

theorem do_kind (g : Nat) (k y : Int) (l : List Int) (r : Option Nat) (w : World) (h : DqRep w g l r) (hk : k < 1 ∨ 3 < k) :
    Calls Try.prog 27 #[.pointer (some ⟨g, 0, none⟩), .agg #[.int .i64 k, .int .i64 y]] w (DqDo g l r w 9 0) := by
  have k1 : (k == 1) = false := by rw [beq_eq_false_iff_ne]; omega
  have k2 : (k == 2) = false := by rw [beq_eq_false_iff_ne]; omega
  have k3 : (k == 3) = false := by rw [beq_eq_false_iff_ne]; omega
  go_enter Try.func27, Try.ntmps27
  go_wp2
  have hR := Blk.new (w.alloc (.cells #[.int .i64 k, .int .i64 y] 27)) 33 [.int .i64 9, .int .i64 0]
  rw [show (w.alloc (.cells #[.int .i64 k, .int .i64 y] 27)).heap.size = w.heap.size + 1 by simp] at hR
  refine ret_blk hR rfl rfl Try.underlying33 rfl (by kernel_rfl) rfl ?_
  refine ⟨rfl, ⟨r, h.keeps (((Keeps.refl (fun _ => False) w).alloc _).alloc _) (fun h => h) (fun _ _ h => h), .inl rfl⟩, ((Keeps.refl _ w).alloc _).alloc _⟩

theorem do_any (g : Nat) (o : Deq.Op) (l : List Int) (r : Option Nat) (w : World) (h : DqRep w g l r) (hbig : l.length ≤ 8796093022299) :
    Calls Try.prog 27 #[.pointer (some ⟨g, 0, none⟩), .agg #[.int .i64 o.kind, .int .i64 o.n]] w (DqDo g (Deq.next l o) r w (Deq.ans l o).1 (Deq.ans l o).2) := by
  obtain ⟨k, y⟩ := o
  by_cases hk : k < 1 ∨ 3 < k
  · have e1 : Deq.next l ⟨k, y⟩ = l := by
      simp only [Deq.next]
      rw [if_neg (by omega), if_neg (by omega), if_neg (by omega)]
    have e2 : Deq.ans l ⟨k, y⟩ = (9, 0) := by
      simp only [Deq.ans]
      rw [if_neg (by omega), if_neg (by omega), if_neg (by omega)]
    rw [e1, e2]
    exact do_kind g k y l r w h hk
  · rcases (show k = 1 ∨ k = 2 ∨ k = 3 by omega) with rfl | rfl | rfl
    · exact do_push g y l r w h hbig
    · rcases List.eq_nil_or_concat l with rfl | ⟨l, x, rfl⟩
      · exact do_pop_none g y r w h
      · rw [List.concat_eq_append] at h ⊢
        have e1 : Deq.next (l ++ [x]) ⟨2, y⟩ = l := by simp [Deq.next]
        have e2 : Deq.ans (l ++ [x]) ⟨2, y⟩ = (0, x) := by simp [Deq.ans]
        rw [e1, e2]
        exact do_pop_some g x y l r w h
    · cases l with
      | nil => exact do_steal_none g y r w h
      | cons x l => exact do_steal_some g x y l r w h
end Go.Proofs.Ytniekhedpdkmiaa
