/-
  The order of joins is no matter: the law, walked.
-/
import Derived.Test.YtphbegadddamgaaUf7
import Derived.BigRegion
namespace Go.Proofs.Ytphbegadddamgaa
set_option linter.unusedVariables false
set_option linter.unusedSimpArgs false
open Go.RowKit

set_option maxRecDepth 100000 in
theorem asks_bad (v : Value) (ops : List Uf.Op) (n : Int) (o : Uf.Op) (w : World) (hn : n < 0 ∨ 200 < n) (h : SlV w 3 v ops.length (Ufd.opcs ops)) (hr : ops.length ≤ 5864062014804) :
    Calls Try.prog 32 #[.int .i64 n, v, .agg #[.int .i64 o.kind, .int .i64 o.i, .int .i64 o.j]] w fun e w' => e = .returned (.int .i64 (-2)) ∧ Below w.heap.size w w' := by
  obtain ⟨k, i, j⟩ := o
  simp only
  obtain ⟨A, c, rfl, hle, hm, hlen, hc⟩ := h
  unfold maxLen at hm
  have h0 : SlV w 3 (.slice A ops.length c) ops.length (Ufd.opcs ops) := ⟨A, c, rfl, hle, by unfold maxLen; exact hm, hlen, hc⟩
  have hP := Blk.new w 60 [.int .i64 k, .int .i64 i, .int .i64 j]
  have hbw : Below w.heap.size w (w.alloc (.cells #[.int .i64 k, .int .i64 i, .int .i64 j] 60)) := below_alloc (Below.refl _ _) _
  have hsl := h0.alloc (.cells #[.int .i64 k, .int .i64 i, .int .i64 j] 60)
  clear hc hlen h0
  go_enter Try.func32, Try.ntmps32
  go_wp2_with fail
  have hP' : Blk (w.alloc (.cells #[.int .i64 k, .int .i64 i, .int .i64 j] 60)) w.heap.size 60 [.int .i64 k, .int .i64 i, .int .i64 j] := hP
  clear hP
  generalize (w.alloc (.cells #[.int .i64 k, .int .i64 i, .int .i64 j] 60)) = w0 at hP' hbw hsl ⊢
  obtain ⟨q, hq⟩ : ∃ q, q = w.heap.size := ⟨_, rfl⟩
  rw [← hq] at hP' ⊢
  clear hq
  have keepS : ∀ w', Below w0.heap.size w0 w' → (Below w0.heap.size w0 w' ∧ w'.cell? ⟨q, 0, none⟩ = some (.int .i64 k) ∧ w'.cell? ⟨q, 1, none⟩ = some (.int .i64 i) ∧ w'.cell? ⟨q, 2, none⟩ = some (.int .i64 j)) := fun w' hb =>
    ⟨hb, by rw [(hP'.below hb).cell]; rfl, by rw [(hP'.below hb).cell]; rfl, by rw [(hP'.below hb).cell]; rfl⟩
  have hbS : ∀ w', (Below w0.heap.size w0 w' ∧ w'.cell? ⟨q, 0, none⟩ = some (.int .i64 k) ∧ w'.cell? ⟨q, 1, none⟩ = some (.int .i64 i) ∧ w'.cell? ⟨q, 2, none⟩ = some (.int .i64 j)) → Below w0.heap.size w0 w' := fun w' h => h.1
  have hcl : ∀ w', (Below w0.heap.size w0 w' ∧ w'.cell? ⟨q, 0, none⟩ = some (.int .i64 k) ∧ w'.cell? ⟨q, 1, none⟩ = some (.int .i64 i) ∧ w'.cell? ⟨q, 2, none⟩ = some (.int .i64 j)) → Calls Try.prog 36 #[.slice A ops.length c] w' fun e w'' => ∃ u, e = .returned u ∧ w''.ownsRow w0.heap.size 60 3 u ops.length (Ufd.opcs ops) ∧ Below w0.heap.size w0 w'' ∧ Below w'.heap.size w' w'' := fun w' hS =>
    (Ufd.clone_op _ _ _ _ (hsl.below hS.1) (Ufd.opcs_one _) (by omega)).mono fun e w'' ⟨u, h1, h2, h3⟩ => ⟨u, h1, own_base h2 hS.1.size, below_next h3 hS.1, h3⟩
  have hpl : ∀ w' v', Calls Try.prog 33 #[.int .i64 n, v'] w' fun e w'' => e = .returned (.tuple #[.slice none 0 0, .int .i64 2]) ∧ w'' = w' := fun w' v' => ufplay_bad v' ops n w' hn
  clear hn
  have n63 : ops.length + 1 ≤ maxLen := by unfold maxLen; omega
  have n47 : (ops.length + 1) * 24 ≤ 140737488355328 := by omega
  go_region_held3 (fun w' => (Below w0.heap.size w0 w' ∧ w'.cell? ⟨q, 0, none⟩ = some (.int .i64 k) ∧ w'.cell? ⟨q, 1, none⟩ = some (.int .i64 i) ∧ w'.cell? ⟨q, 2, none⟩ = some (.int .i64 j)))
    ((refine keepS _ ?_; repeat (first | exact Below.refl _ _ | assumption | apply below_alloc | apply below_drew | exact (And.left (by assumption)) | (apply below_next; assumption))))
    (first
      | (go_at_call 36; refine (hcl _ (by assumption)).mono ?_; rintro e w2 ⟨u, rfl, hown2, hb2, hb2'⟩)
      | (refine step_append _ _ _ _ _ _ _ _ Try.underlying57 Ufd.info_op rfl (by decide) (by first | assumption | exact World.ownsRow.alloc (by assumption) _) (show Cells _ _ _ (Ufd.opc ⟨k, i, j⟩) from by first | exact Cells.new _ _ _ | exact cells_new_drew (e := 60) (by assumption)) rfl (Ufd.opcs_one [⟨k, i, j⟩]) n63 n47 (hbS _ (by assumption)).size rfl rfl rfl rfl ?_; intro v4 w4 hown4 _ _ hb4; have hb5 := Below.trans (hbS _ (by assumption)) hb4)
      | (go_at_call 33; refine (hpl _ _).mono ?_; rintro e w6 ⟨rfl, rfl⟩))
  all_goals
    have hb7 := below_self hbw hb5
    clear hcl hpl keepS hbS hown4 hown2 hb4 hb5 hb2 hb2' hbw hP' hsl
    go_wp2
    go_ret
    exact ⟨rfl, hb7⟩

namespace Ufd
theorem own_set {w : World} {base : Nat} {e : TypeId} {size g n c : Nat} {xs : List Value} (h : w.ownsRow base e size (.slice (some ⟨g, 0, none⟩) n c) n xs) (i : Nat) (v : Value) : (w.setCell ⟨g, i, none⟩ v).ownsRow base e size (.slice (some ⟨g, 0, none⟩) n c) n (xs.set i v) := by
  refine ⟨by simpa using h.1, ?_⟩
  rcases h.2 with ⟨h', _⟩ | ⟨g1, cap, cur, he, hb, hh, hle, hm, hs, ht⟩
  · cases h'
  · cases he
    refine .inr ⟨g, c, cur.setIfInBounds i v, rfl, hb, heap_setCell_same w g i cur e v hh, hle, hm, by simpa using hs, ?_⟩
    rw [← ht]
    simp [List.take_set]

theorem own_drewN {w : World} {base : Nat} {e : TypeId} {size n k : Nat} {v : Value} {xs : List Value} (h : w.ownsRow base e size v n xs) : (w.drewN k).ownsRow base e size v n xs := ⟨h.1, h.2⟩

def dflt : Uf.Op := ⟨0, 0, 0⟩
def op (l : List Uf.Op) (i : Nat) : Uf.Op := l.getD i dflt
theorem op_get {l : List Uf.Op} {i : Nat} (h : i < l.length) : l[i]? = some (op l i) := by simp [op, List.getD, List.getElem?_eq_getElem h]

theorem opcs_get (l : List Uf.Op) (t : Nat) : (opcs l)[t]? = if t < l.length * 3 then (opc (op l (t / 3)))[t % 3]? else none := by
  by_cases h : t < l.length * 3
  · rw [if_pos h]
    have hq : t / 3 < l.length := Nat.div_lt_of_lt_mul (by omega)
    have := flat_get opc 3 (fun _ => rfl) l (t / 3) (t % 3) _ (op_get hq) (Nat.mod_lt _ (by decide))
    rw [← this]
    congr 1
    omega
  · rw [if_neg h, List.getElem?_eq_none (by rw [opcs_length]; omega)]

/-- three cells of one element are written -/
theorem opcs_set (l : List Uf.Op) (i : Nat) (o : Uf.Op) (h : i < l.length) : (((opcs l).set (i * 3) (.int .i64 o.kind)).set (i * 3 + 1) (.int .i64 o.i)).set (i * 3 + 2) (.int .i64 o.j) = opcs (l.set i o) := by
  apply List.ext_getElem?
  intro t
  simp only [List.getElem?_set, opcs_get, List.length_set, opcs_length]
  by_cases ht : t < l.length * 3
  · have hop : op (l.set i o) (t / 3) = if i = t / 3 then o else op l (t / 3) := by
      unfold op
      simp only [List.getD, List.getElem?_set, h, if_true]
      split <;> rfl
    rw [hop]
    simp only [ht, if_true]
    rcases Nat.lt_trichotomy (t / 3) i with hlt | heq | hgt
    · rw [if_neg (by omega), if_neg (by omega), if_neg (by omega), if_neg (by omega)]
    · have hm : t % 3 = 0 ∨ t % 3 = 1 ∨ t % 3 = 2 := by omega
      rcases hm with hm | hm | hm
      · rw [if_neg (by omega), if_neg (by omega), if_pos (by omega), if_pos (by omega), if_pos (by omega), hm]; rfl
      · rw [if_neg (by omega), if_pos (by omega), if_pos (by omega), if_pos (by omega), hm]; rfl
      · rw [if_pos (by omega), if_pos (by omega), if_pos (by omega), hm]; rfl
    · rw [if_neg (by omega), if_neg (by omega), if_neg (by omega), if_neg (by omega)]
  · rw [if_neg (by omega), if_neg (by omega), if_neg (by omega), if_neg ht, if_neg ht]

theorem op_cell {w : World} {base g n c : Nat} {l : List Uf.Op} (h : w.ownsRow base 60 3 (.slice (some ⟨g, 0, none⟩) n c) n (opcs l)) {i : Nat} (hi : i < l.length) :
    w.cell? ⟨g, i * 3, none⟩ = some (.int .i64 (op l i).kind) ∧ w.cell? ⟨g, i * 3 + 1, none⟩ = some (.int .i64 (op l i).i) ∧ w.cell? ⟨g, i * 3 + 2, none⟩ = some (.int .i64 (op l i).j) := by
  have g' : ∀ j, j < 3 → (opcs l)[i * 3 + j]? = (opc (op l i))[j]? := fun j hj => flat_get opc 3 (fun _ => rfl) l i j _ (op_get hi) hj
  have hlen := opcs_length l
  have hn : (opcs l).length = n * 3 := h.1
  exact ⟨by rw [h.cellAt _ (by omega)]; exact g' 0 (by decide), by rw [h.cellAt _ (by omega)]; exact g' 1 (by decide), by rw [h.cellAt _ (by omega)]; exact g' 2 (by decide)⟩
theorem op_free {w : World} {base g n c : Nat} {e : TypeId} {size : Nat} {xs : List Value} (h : w.ownsRow base e size (.slice (some ⟨g, 0, none⟩) n c) n xs) (i : Nat) : w.frozen? ⟨g, i, none⟩ = false := by
  rcases h.2 with ⟨h', _⟩ | ⟨g1, cap, cur, he, hb, hh, _⟩
  · cases h'
  · cases he
    exact frozen_of_row w g i _ e hh

theorem own_put {w : World} {base g n c : Nat} {e : TypeId} {l : List Uf.Op} (h : w.ownsRow base e 3 (.slice (some ⟨g, 0, none⟩) n c) n (opcs l)) (i : Nat) (o : Uf.Op) (hi : i < l.length) :
    (((w.setCell ⟨g, i * 3, none⟩ (.int .i64 o.kind)).setCell ⟨g, i * 3 + 1, none⟩ (.int .i64 o.i)).setCell ⟨g, i * 3 + 2, none⟩ (.int .i64 o.j)).ownsRow base e 3 (.slice (some ⟨g, 0, none⟩) n c) n (opcs (l.set i o)) ∧ Keeps (fun k => k = g) w (((w.setCell ⟨g, i * 3, none⟩ (.int .i64 o.kind)).setCell ⟨g, i * 3 + 1, none⟩ (.int .i64 o.i)).setCell ⟨g, i * 3 + 2, none⟩ (.int .i64 o.j)) := by
  refine ⟨?_, ?_⟩
  · rw [← opcs_set l i o hi]
    exact own_set (own_set (own_set h _ _) _ _) _ _
  · have k1 : ∀ (w : World) (j : Nat) (v : Value), Keeps (fun k => k = g) w (w.setCell ⟨g, j, none⟩ v) := fun w j v => (Keeps.of_grown (grown_setCell w g j v)).mono (fun i hi => by injection hi)
    exact ((k1 w _ _).trans (k1 _ _ _)).trans (k1 _ _ _)

/-- the first k and the last k are turned round -/
def turned (l : List Uf.Op) (k : Nat) : List Uf.Op := (List.range l.length).map fun t => op l (if t < k ∨ l.length - k ≤ t then l.length - 1 - t else t)
theorem turned_length (l : List Uf.Op) (k : Nat) : (turned l k).length = l.length := by simp [turned]
theorem op_turned (l : List Uf.Op) (k t : Nat) (h : t < l.length) : op (turned l k) t = op l (if t < k ∨ l.length - k ≤ t then l.length - 1 - t else t) := by
  have e : (turned l k)[t]? = some (op l (if t < k ∨ l.length - k ≤ t then l.length - 1 - t else t)) := by
    unfold turned
    rw [List.getElem?_map, List.getElem?_range h]
    rfl
  rw [op_get (by rw [turned_length]; exact h)] at e
  injection e
theorem list_ext_op {a b : List Uf.Op} (hl : a.length = b.length) (h : ∀ t, t < a.length → op a t = op b t) : a = b := by
  apply List.ext_getElem?
  intro t
  by_cases ht : t < a.length
  · rw [op_get ht, op_get (by omega), h t ht]
  · rw [List.getElem?_eq_none (by omega), List.getElem?_eq_none (by omega)]
theorem op_set (l : List Uf.Op) (i t : Nat) (o : Uf.Op) (hi : i < l.length) : op (l.set i o) t = if i = t then o else op l t := by
  unfold op
  simp only [List.getD, List.getElem?_set, hi, if_true]
  split <;> rfl
theorem turned_zero (l : List Uf.Op) : turned l 0 = l := list_ext_op (turned_length _ _) fun t ht => by
  rw [turned_length] at ht
  rw [op_turned _ _ _ ht, if_neg (by omega)]
theorem turned_succ (l : List Uf.Op) (k : Nat) (h : k < l.length - 1 - k) : ((turned l k).set k (op (turned l k) (l.length - 1 - k))).set (l.length - 1 - k) (op (turned l k) k) = turned l (k + 1) := by
  refine list_ext_op (by simp [turned_length]) fun t ht => ?_
  simp only [List.length_set, turned_length] at ht
  rw [op_set _ _ _ _ (by simp only [List.length_set, turned_length]; omega), op_set _ _ _ _ (by rw [turned_length]; omega), op_turned _ _ _ (by omega), op_turned _ _ _ (by omega), op_turned _ _ _ ht, op_turned _ _ _ ht]
  by_cases h1 : l.length - 1 - k = t
  · rw [if_pos h1, if_neg (by omega), if_pos (by omega)]
    congr 1; omega
  · rw [if_neg h1]
    by_cases h2 : k = t
    · rw [if_pos h2, if_neg (by omega), if_pos (by omega)]
      congr 1; omega
    · rw [if_neg h2]
      by_cases h3 : t < k ∨ l.length - k ≤ t
      · rw [if_pos h3, if_pos (by omega)]
      · rw [if_neg h3, if_neg (by omega)]
theorem turned_all (l : List Uf.Op) (k : Nat) (h : ¬ k < l.length - 1 - k) : turned l k = l.reverse := by
  refine list_ext_op (by simp [turned_length]) fun t ht => ?_
  rw [turned_length] at ht
  rw [op_turned _ _ _ ht]
  have : op l.reverse t = op l (l.length - 1 - t) := by
    unfold op
    simp [List.getD, List.getElem?_reverse ht]
  rw [this]
  split
  · rfl
  · congr 1; omega
end Ufd

theorem reverse_uf (base g n c : Nat) (l : List Uf.Op) (w : World) (h : w.ownsRow base 60 3 (.slice (some ⟨g, 0, none⟩) n c) n (Ufd.opcs l)) (hl : l.length = n) (hm : c ≤ maxLen) (hnc : n ≤ c) :
    Calls Try.prog 37 #[.slice (some ⟨g, 0, none⟩) n c] w fun e w' => e = .returned (.tuple #[]) ∧ w'.ownsRow base 60 3 (.slice (some ⟨g, 0, none⟩) n c) n (Ufd.opcs l.reverse) ∧ Keeps (fun k => k = g) w w' := by
  unfold maxLen at hm
  go_enter Try.func37, Try.ntmps37
  go_wp2_with fail
  go_loopw [2, 3] (fun i j wr => ∃ k : Nat, 2 * k ≤ n ∧ i = .int .i64 k ∧ j = .int .i64 ((n : Int) - 1 - k) ∧ wr.ownsRow base 60 3 (.slice (some ⟨g, 0, none⟩) n c) n (Ufd.opcs (Ufd.turned l k)) ∧ Keeps (fun k => k = g) w wr) (fun i _ _ => n - (intOf i).toNat)
  case atStart => exact ⟨0, by omega, rfl, by go_num, by rw [Ufd.turned_zero]; exact h, Keeps.refl _ _⟩
  case round =>
    clear h
    obtain ⟨k, hk, rfl, rfl, hown, hkeep⟩ := hrel
    by_cases hlt : (k : Int) < (n : Int) - 1 - k
    · obtain ⟨m, hm2⟩ : ∃ m : Nat, m = n - 1 - k := ⟨_, rfl⟩
      have em : (n : Int) - 1 - k = (m : Int) := by omega
      have hkm : k < m := by omega
      have hmn : m < n := by omega
      have hsucc := Ufd.turned_succ l k (by omega)
      rw [hl, ← hm2] at hsucc
      have HS := Lib.hid hsucc
      have hll : (Ufd.turned l k).length = n := by rw [Ufd.turned_length, hl]
      have HLL := Lib.hid hll
      obtain ⟨a0, a1, a2⟩ := Ufd.op_cell hown (i := k) (by omega)
      obtain ⟨b0, b1, b2⟩ := Ufd.op_cell hown (i := m) (by omega)
      have f := Ufd.op_free hown
      have f0 := f (k * 3)
      have f1 := f (k * 3 + 1)
      have f2 := f (k * 3 + 2)
      have f3 := f (m * 3)
      have f4 := f (m * 3 + 1)
      have f5 := f (m * 3 + 2)
      clear f hsucc hll hm2
      rw [em]
      rw [em] at hlt
      go_wp2_with fail
      go_region
      have h1 := Ufd.own_put hown k (Ufd.op (Ufd.turned l k) m) (by rw [HLL.out]; omega)
      have h2 := Ufd.own_put h1.1 m (Ufd.op (Ufd.turned l k) k) (by rw [List.length_set, HLL.out]; omega)
      rw [HS.out] at h2
      have hk2 := (hkeep.trans h1.2).trans h2.2
      have ho := h2.1.drew
      have hkk : Keeps (fun k => k = g) w (World.drew _) := hk2.drewN 1
      generalize World.drew _ = w9 at ho hkk ⊢
      clear h1 h2 hk2 a0 a1 a2 b0 b1 b2 f0 f1 f2 f3 f4 f5 hown hkeep
      go_wp2
      go_roundw
      case rel => exact ⟨k + 1, by omega, by go_num, by have : (m : Int) - 1 = (n : Int) - 1 - ((k + 1 : Nat) : Int) := by omega
                                                        rw [this], ho, hkk⟩
      case measure => simp [intOf]; omega
    · have hall := Ufd.turned_all l k (by omega)
      rw [hall] at hown
      clear hall
      go_wp2
      go_end0
      exact ⟨rfl, hown, hkeep⟩

namespace Ufd
def swap (o : Uf.Op) : Uf.Op := ⟨o.kind, o.j, o.i⟩
def swapped (l : List Uf.Op) (k : Nat) : List Uf.Op := (List.range l.length).map fun t => if t < k then swap (op l t) else op l t
theorem swapped_length (l : List Uf.Op) (k : Nat) : (swapped l k).length = l.length := by simp [swapped]
theorem op_swapped (l : List Uf.Op) (k t : Nat) (h : t < l.length) : op (swapped l k) t = if t < k then swap (op l t) else op l t := by
  have e : (swapped l k)[t]? = some (if t < k then swap (op l t) else op l t) := by
    unfold swapped
    rw [List.getElem?_map, List.getElem?_range h]
    rfl
  rw [op_get (by rw [swapped_length]; exact h)] at e
  injection e
theorem swapped_zero (l : List Uf.Op) : swapped l 0 = l := list_ext_op (swapped_length _ _) fun t ht => by
  rw [swapped_length] at ht
  rw [op_swapped _ _ _ ht, if_neg (by omega)]
theorem swapped_succ (l : List Uf.Op) (k : Nat) (h : k < l.length) : (swapped l k).set k (swap (op (swapped l k) k)) = swapped l (k + 1) := by
  refine list_ext_op (by simp [swapped_length]) fun t ht => ?_
  rw [List.length_set, swapped_length] at ht
  rw [op_set _ _ _ _ (by rw [swapped_length]; exact h), op_swapped _ _ _ h, op_swapped _ _ _ ht, op_swapped _ _ _ ht, if_neg (Nat.lt_irrefl k)]
  by_cases e : k = t
  · subst e; rw [if_pos rfl, if_pos (by omega)]
  · rw [if_neg e]
    by_cases h1 : t < k
    · rw [if_pos h1, if_pos (by omega)]
    · rw [if_neg h1, if_neg (by omega)]
theorem swapped_all (l : List Uf.Op) : swapped l l.length = l.map swap := list_ext_op (by simp [swapped_length]) fun t ht => by
  rw [swapped_length] at ht
  rw [op_swapped _ _ _ ht, if_pos ht]
  unfold op
  simp [List.getD, List.getElem?_eq_getElem ht]
theorem opcs_set2 (l : List Uf.Op) (i : Nat) (h : i < l.length) : ((opcs l).set (i * 3 + 1) (.int .i64 (op l i).j)).set (i * 3 + 2) (.int .i64 (op l i).i) = opcs (l.set i (swap (op l i))) := by
  rw [← opcs_set l i _ h]
  have e : (opcs l).set (i * 3) (.int .i64 (swap (op l i)).kind) = opcs l := by
    apply List.ext_getElem?
    intro t
    rw [List.getElem?_set]
    split
    · rename_i e
      subst e
      have := flat_get opc 3 (fun _ => rfl) l i 0 _ (op_get h) (by decide)
      simp only [Nat.add_zero] at this
      unfold opcs
      rw [this]
      have hl : i * 3 < (opcs l).length := by rw [opcs_length]; omega
      unfold opcs at hl
      rw [if_pos hl]
      rfl
    · rfl
  rw [e]
  rfl
theorem own_swap {w : World} {base g n c : Nat} {e : TypeId} {l : List Uf.Op} (h : w.ownsRow base e 3 (.slice (some ⟨g, 0, none⟩) n c) n (opcs l)) (i : Nat) (hi : i < l.length) :
    ((w.setCell ⟨g, i * 3 + 1, none⟩ (.int .i64 (op l i).j)).setCell ⟨g, i * 3 + 2, none⟩ (.int .i64 (op l i).i)).ownsRow base e 3 (.slice (some ⟨g, 0, none⟩) n c) n (opcs (l.set i (swap (op l i)))) ∧ Keeps (fun k => k = g) w ((w.setCell ⟨g, i * 3 + 1, none⟩ (.int .i64 (op l i).j)).setCell ⟨g, i * 3 + 2, none⟩ (.int .i64 (op l i).i)) := by
  refine ⟨?_, ?_⟩
  · rw [← opcs_set2 l i hi]
    exact own_set (own_set h _ _) _ _
  · have k1 : ∀ (w : World) (j : Nat) (v : Value), Keeps (fun k => k = g) w (w.setCell ⟨g, j, none⟩ v) := fun w j v => (Keeps.of_grown (grown_setCell w g j v)).mono (fun i hi => by injection hi)
    exact (k1 w _ _).trans (k1 _ _ _)
end Ufd

theorem reverse_nil (w : World) (c : Nat) : Calls Try.prog 37 #[.slice none 0 c] w fun e w' => e = .returned (.tuple #[]) ∧ w' = w := by
  go_enter Try.func37, Try.ntmps37
  go_wp2_with fail
  go_loop [2, 3] (fun i j => i = .int .i64 0 ∧ j = .int .i64 (-1)) (fun i _ => 0)
  case atStart => exact ⟨rfl, rfl⟩
  case round =>
    obtain ⟨rfl, rfl⟩ := hrel
    go_wp2
    go_end0
    exact ⟨rfl, rfl⟩

end Go.Proofs.Ytphbegadddamgaa
