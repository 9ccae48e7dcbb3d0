/-
  To be in one set is to be the same: the law, walked.
-/
import Derived.Test.YtphbegadddamgaaUf6
import Derived.Test.YtphbegadddamgaaSettle2
namespace Go.Proofs.Ytphbegadddamgaa
set_option linter.unusedVariables false
set_option linter.unusedSimpArgs false
open Go.RowKit

theorem run_max_three {P : Program} (w : World) (ts : Array TypeId) (t : TypeId) (k k' k'' : IntKind) (x y z : Int) : (Builtin.max_ ts t #[.int k x, .int k' y, .int k'' z]).run P w = .ok (.int k (max (max x y) z)) w := by
  have h1 : (if y > x then y else x) = max x y := by split <;> omega
  have h2 : (if z > max x y then z else max x y) = max (max x y) z := by split <;> omega
  rw [← h2, ← h1]
  rfl
theorem run_min_three {P : Program} (w : World) (ts : Array TypeId) (t : TypeId) (k k' k'' : IntKind) (x y z : Int) : (Builtin.min_ ts t #[.int k x, .int k' y, .int k'' z]).run P w = .ok (.int k (min (min x y) z)) w := by
  have h1 : (if y < x then y else x) = min x y := by split <;> omega
  have h2 : (if z < min x y then z else min x y) = min (min x y) z := by split <;> omega
  rw [← h2, ← h1]
  rfl
attribute [go_sem ↓] run_max_three run_min_three

theorem Uf.ans_same (l : List Nat) (x y : Nat) (hx : x < l.length) (hy : y < l.length) : Uf.ans l ⟨2, x, y⟩ = Uf.num (Uf.at_ l x == Uf.at_ l y) := by
  have hg : Uf.good l.length ⟨2, x, y⟩ = true := by simp [Uf.good, Uf.inside]; omega
  simp [Uf.ans, hg, Uf.lab, Uf.at_]
theorem Uf.ans_size (l : List Nat) (x : Nat) (y : Int) (hx : x < l.length) : Uf.ans l ⟨3, x, y⟩ = (l.count (Uf.at_ l x) : Nat) := by
  have hg : Uf.good l.length ⟨3, x, y⟩ = true := by simp [Uf.good, Uf.inside]; omega
  simp [Uf.ans, hg, Uf.lab, Uf.at_]
theorem Uf.num_one (b : Bool) : (Uf.num b == 1) = b := by cases b <;> rfl

/-- the closure: are two in one set? -/
theorem same_uf (v : Value) (ops : List Uf.Op) (n : Nat) (a b : Nat) (x y : Nat) (w : World) (hn : n ≤ 200) (h : SlV w 3 v ops.length (Ufd.opcs ops)) (hr : ops.length ≤ 5864062014804) (hx : x < n) (hy : y < n)
    (ca : w.cell? ⟨a, 0, none⟩ = some (.int .i64 n)) (cb : w.cell? ⟨b, 0, none⟩ = some v) :
    Calls Try.prog 31 #[.int .i64 x, .int .i64 y, .pointer (some ⟨a, 0, none⟩), .pointer (some ⟨b, 0, none⟩)] w fun e w' => e = .returned (.bool (Uf.at_ (Uf.after (Uf.start n) ops) x == Uf.at_ (Uf.after (Uf.start n) ops) y)) ∧ Below w.heap.size w w' := by
  have hl : (Uf.after (Uf.start n) ops).length = n := by rw [Uf.after_length]; simp [Uf.start]
  have ha := Uf.ans_same (Uf.after (Uf.start n) ops) x y (by omega) (by omega)
  have HA := Lib.hid ha
  clear ha hl
  go_enter Try.func31, Try.ntmps31
  go_wp2_with fail
  refine (asks_any _ ops n ⟨2, x, y⟩ _ hn h hr).mono ?_
  rintro e w1 ⟨rfl, hb⟩
  go_wp2
  go_ret
  exact ⟨ret_bool (by rw [HA.out, Uf.num_one]), hb⟩

set_option maxRecDepth 100000 in
set_option maxHeartbeats 8000000 in
theorem ufindSame_walk (v : Value) (ops : List Uf.Op) (n i j k : Int) (w : World) (h : SlV w 3 v ops.length (Ufd.opcs ops)) (hr : ops.length ≤ 5864062014804) :
    Calls Try.prog 11 #[.int .i64 n, v, .int .i64 i, .int .i64 j, .int .i64 k] w fun e w' => e = .returned (.bool true) ∧ Below w.heap.size w w' := by
  obtain ⟨A, c, rfl, hle, hm, hlen, hc⟩ := h
  unfold maxLen at hm
  have h : SlV w 3 (.slice A ops.length c) ops.length (Ufd.opcs ops) := ⟨A, c, rfl, hle, by unfold maxLen; exact hm, hlen, hc⟩
  clear hc hlen
  by_cases h1 : n < 0
  · go_enter Try.func11, Try.ntmps11
    go_wp2_with fail
    refine (alive8_any _).mono ?_
    rintro e w1 ⟨rfl, hb1⟩
    have c0 := hb1.cell (p := ⟨w.heap.size, 0, none⟩) (by simp; omega)
    go_wp2
    go_ret
    exact ⟨rfl, (by repeat (first | exact Below.refl _ _ | assumption | apply below_alloc | apply below_drew | (apply below_next; assumption)))⟩
  by_cases h2 : 200 < n
  · go_enter Try.func11, Try.ntmps11
    go_wp2_with fail
    refine (alive8_any _).mono ?_
    rintro e w1 ⟨rfl, hb1⟩
    have c0 := hb1.cell (p := ⟨w.heap.size, 0, none⟩) (by simp; omega)
    go_wp2
    go_ret
    exact ⟨rfl, (by repeat (first | exact Below.refl _ _ | assumption | apply below_alloc | apply below_drew | (apply below_next; assumption)))⟩
  by_cases h3 : min (min i j) k < 0
  · go_enter Try.func11, Try.ntmps11
    go_wp2_with fail
    refine (alive8_any _).mono ?_
    rintro e w1 ⟨rfl, hb1⟩
    have c0 := hb1.cell (p := ⟨w.heap.size, 0, none⟩) (by simp; omega)
    go_wp2
    go_ret
    exact ⟨rfl, (by repeat (first | exact Below.refl _ _ | assumption | apply below_alloc | apply below_drew | (apply below_next; assumption)))⟩
  by_cases h4 : n ≤ max (max i j) k
  · go_enter Try.func11, Try.ntmps11
    go_wp2_with fail
    refine (alive8_any _).mono ?_
    rintro e w1 ⟨rfl, hb1⟩
    have c0 := hb1.cell (p := ⟨w.heap.size, 0, none⟩) (by simp; omega)
    go_wp2
    go_ret
    exact ⟨rfl, (by repeat (first | exact Below.refl _ _ | assumption | apply below_alloc | apply below_drew | (apply below_next; assumption)))⟩
  obtain ⟨i, rfl⟩ := Int.eq_ofNat_of_zero_le (show 0 ≤ i by omega)
  obtain ⟨j, rfl⟩ := Int.eq_ofNat_of_zero_le (show 0 ≤ j by omega)
  obtain ⟨k, rfl⟩ := Int.eq_ofNat_of_zero_le (show 0 ≤ k by omega)
  obtain ⟨n, rfl⟩ := Int.eq_ofNat_of_zero_le (show 0 ≤ n by omega)
  have hi : i < n := by omega
  have hj : j < n := by omega
  have hk : k < n := by omega
  have hn : n ≤ 200 := by omega
  go_enter Try.func11, Try.ntmps11
  go_wp2_with fail
  refine (alive8_any _).mono ?_
  rintro e w1 ⟨rfl, hb1⟩
  have c0 := hb1.cell (p := ⟨w.heap.size, 0, none⟩) (by simp; omega)
  have c1 := hb1.cell (p := ⟨w.heap.size + 1, 0, none⟩) (by simp)
  have c0' : w1.cell? ⟨w.heap.size, 0, none⟩ = some (.int .i64 n) := by rw [c0]; simp
  have c1' : w1.cell? ⟨w.heap.size + 1, 0, none⟩ = some (.slice A ops.length c) := by rw [c1]; simp
  have hbw : Below w.heap.size w w1 := (by repeat (first | exact Below.refl _ _ | assumption | apply below_alloc | apply below_drew | (apply below_next; assumption)))
  have hsl : SlV w1 3 (.slice A ops.length c) ops.length (Ufd.opcs ops) := h.below hbw
  clear c0 c1 hb1 h
  obtain ⟨a, ha⟩ : ∃ a, a = w.heap.size := ⟨_, rfl⟩
  obtain ⟨b, hb⟩ : ∃ b, b = w.heap.size + 1 := ⟨_, rfl⟩
  rw [← ha] at c0'
  rw [← hb] at c1'
  rw [← hb, ← ha]
  have hlt0 : a < w1.heap.size := World.block_lt_of_cell? w1 _ c0'
  have hlt1 : b < w1.heap.size := World.block_lt_of_cell? w1 _ c1'
  clear ha hb
  go_wp2_with fail
  have hbS : ∀ w', (Below w1.heap.size w1 w' ∧ w'.cell? ⟨a, 0, none⟩ = some (.int .i64 n) ∧ w'.cell? ⟨b, 0, none⟩ = some (.slice A ops.length c)) → Below w1.heap.size w1 w' := fun w' h => h.1
  have keepS : ∀ w', Below w1.heap.size w1 w' → (Below w1.heap.size w1 w' ∧ w'.cell? ⟨a, 0, none⟩ = some (.int .i64 n) ∧ w'.cell? ⟨b, 0, none⟩ = some (.slice A ops.length c)) := fun w' hb => ⟨hb, (hb.cell hlt0).trans c0', (hb.cell hlt1).trans c1'⟩
  obtain ⟨l, hl⟩ : ∃ l, l = Uf.after (Uf.start n) ops := ⟨_, rfl⟩
  have hll : l.length = n := by rw [hl, Uf.after_length]; simp [Uf.start]
  have hsame : ∀ w' (x y : Nat) (q : Bool), (Uf.at_ l x == Uf.at_ l y) = q → x < n → y < n → (Below w1.heap.size w1 w' ∧ w'.cell? ⟨a, 0, none⟩ = some (.int .i64 n) ∧ w'.cell? ⟨b, 0, none⟩ = some (.slice A ops.length c)) → Calls Try.prog 31 #[.int .i64 x, .int .i64 y, .pointer (some ⟨a, 0, none⟩), .pointer (some ⟨b, 0, none⟩)] w' fun e w' => e = .returned (.bool q) ∧ (Below w1.heap.size w1 w' ∧ w'.cell? ⟨a, 0, none⟩ = some (.int .i64 n) ∧ w'.cell? ⟨b, 0, none⟩ = some (.slice A ops.length c)) ∧ True := fun w' x y q hq hx hy hS =>
    (same_uf _ ops n a b x y w' hn (hsl.below hS.1) hr hx hy hS.2.1 hS.2.2).mono fun e w'' ⟨h1, h2⟩ => ⟨by rw [h1, ← hq, hl], keepS _ (below_next h2 hS.1), trivial⟩
  have hasks : ∀ w' (x m : Nat), l.count (Uf.at_ l x) = m → x < n → (Below w1.heap.size w1 w' ∧ w'.cell? ⟨a, 0, none⟩ = some (.int .i64 n) ∧ w'.cell? ⟨b, 0, none⟩ = some (.slice A ops.length c)) → Calls Try.prog 32 #[.int .i64 n, .slice A ops.length c, .agg #[.int .i64 3, .int .i64 x, .int .i64 0]] w' fun e w' => e = .returned (.int .i64 (m : Nat)) ∧ (Below w1.heap.size w1 w' ∧ w'.cell? ⟨a, 0, none⟩ = some (.int .i64 n) ∧ w'.cell? ⟨b, 0, none⟩ = some (.slice A ops.length c)) ∧ True := fun w' x m hm hx hS =>
    (asks_any _ ops n ⟨3, x, 0⟩ w' hn (hsl.below hS.1) hr).mono fun e w'' ⟨h1, h2⟩ => ⟨by rw [h1, ← hl, Uf.ans_size l x 0 (by omega), hm], keepS _ (below_next h2 hS.1), trivial⟩
  clear hl hll hsl
  have hii : (Uf.at_ l i == Uf.at_ l i) = true := by simp
  rcases hij : (Uf.at_ l i == Uf.at_ l j) with _ | _
  · have hji : (Uf.at_ l j == Uf.at_ l i) = false := by rw [beq_eq_false_iff_ne] at hij ⊢; exact Ne.symm hij
    refine wp_walk (by kernel_rfl) (by kernel_rfl) (fun _ _ => True) (fun w' => Below w1.heap.size w1 w' ∧ w'.cell? ⟨a, 0, none⟩ = some (.int .i64 n) ∧ w'.cell? ⟨b, 0, none⟩ = some (.slice A ops.length c)) (keepS _ (below_drew (Below.refl _ _))) ?_
    repeat (first | (refine settle_skip (fun _ => by rfl) ?_; (simp only [Act.put, List.setIfInBounds_toArray, List.set_cons_zero, List.set_cons_succ])) | (refine' settle_run (fun _ _ => trivial) (fun _ => by rfl) ?_ ?_; rotate_left; (focus (intro ρ w hS hF; (try dsimp only at hS); go_split_ands; go_simp; try with_reducible rfl)); (simp only [Act.put, List.setIfInBounds_toArray, List.set_cons_zero, List.set_cons_succ])) | (refine' settle_step (fun _ => by rfl) ?_ ?_; rotate_left; (focus (intro ρ w hS hF K hK; (simp only [Act.put, List.setIfInBounds_toArray, List.set_cons_zero, List.set_cons_succ] at hK); go_simp; first | (go_at_call 31; refine (hsame _ _ _ _ (by assumption) (by assumption) (by assumption) hS).mono ?_; rintro e w' ⟨rfl, hS', hE'⟩; exact hK _ hS' hE') | (go_at_call 32; refine (hasks _ _ _ (by assumption) (by assumption) hS).mono ?_; rintro e w' ⟨rfl, hS', hE'⟩; exact hK _ hS' hE'))); (simp only [Act.put, List.setIfInBounds_toArray, List.set_cons_zero, List.set_cons_succ])))
    refine settle_nil ?_
    intro ρ wS hS _
    clear hsame hasks
    go_wp2
    go_ret
    exact ⟨rfl, below_self hbw hS.1⟩
  have hji : (Uf.at_ l j == Uf.at_ l i) = true := by rw [beq_iff_eq] at hij ⊢; exact hij.symm
  have hci : l.count (Uf.at_ l i) = l.count (Uf.at_ l j) := by rw [beq_iff_eq] at hij; rw [hij]
  obtain ⟨m, hcj⟩ : ∃ m, l.count (Uf.at_ l j) = m := ⟨_, rfl⟩
  rw [hcj] at hci
  rcases hjk : (Uf.at_ l j == Uf.at_ l k) with _ | _
  · have hjk' := hjk
    refine wp_walk (by kernel_rfl) (by kernel_rfl) (fun _ _ => True) (fun w' => Below w1.heap.size w1 w' ∧ w'.cell? ⟨a, 0, none⟩ = some (.int .i64 n) ∧ w'.cell? ⟨b, 0, none⟩ = some (.slice A ops.length c)) (keepS _ (below_drew (Below.refl _ _))) ?_
    repeat (first | (refine settle_skip (fun _ => by rfl) ?_; (simp only [Act.put, List.setIfInBounds_toArray, List.set_cons_zero, List.set_cons_succ])) | (refine' settle_run (fun _ _ => trivial) (fun _ => by rfl) ?_ ?_; rotate_left; (focus (intro ρ w hS hF; (try dsimp only at hS); go_split_ands; go_simp; try with_reducible rfl)); (simp only [Act.put, List.setIfInBounds_toArray, List.set_cons_zero, List.set_cons_succ])) | (refine' settle_step (fun _ => by rfl) ?_ ?_; rotate_left; (focus (intro ρ w hS hF K hK; (simp only [Act.put, List.setIfInBounds_toArray, List.set_cons_zero, List.set_cons_succ] at hK); go_simp; first | (go_at_call 31; refine (hsame _ _ _ _ (by assumption) (by assumption) (by assumption) hS).mono ?_; rintro e w' ⟨rfl, hS', hE'⟩; exact hK _ hS' hE') | (go_at_call 32; refine (hasks _ _ _ (by assumption) (by assumption) hS).mono ?_; rintro e w' ⟨rfl, hS', hE'⟩; exact hK _ hS' hE'))); (simp only [Act.put, List.setIfInBounds_toArray, List.set_cons_zero, List.set_cons_succ])))
    refine settle_nil ?_
    intro ρ wS hS _
    clear hsame hasks
    go_wp2
    go_ret
    exact ⟨rfl, below_self hbw hS.1⟩
  · have hik : (Uf.at_ l i == Uf.at_ l k) = true := by rw [beq_iff_eq] at hij hjk ⊢; rw [hij, hjk]
    refine wp_walk (by kernel_rfl) (by kernel_rfl) (fun _ _ => True) (fun w' => Below w1.heap.size w1 w' ∧ w'.cell? ⟨a, 0, none⟩ = some (.int .i64 n) ∧ w'.cell? ⟨b, 0, none⟩ = some (.slice A ops.length c)) (keepS _ (below_drew (Below.refl _ _))) ?_
    repeat (first | (refine settle_skip (fun _ => by rfl) ?_; (simp only [Act.put, List.setIfInBounds_toArray, List.set_cons_zero, List.set_cons_succ])) | (refine' settle_run (fun _ _ => trivial) (fun _ => by rfl) ?_ ?_; rotate_left; (focus (intro ρ w hS hF; (try dsimp only at hS); go_split_ands; go_simp; try with_reducible rfl)); (simp only [Act.put, List.setIfInBounds_toArray, List.set_cons_zero, List.set_cons_succ])) | (refine' settle_step (fun _ => by rfl) ?_ ?_; rotate_left; (focus (intro ρ w hS hF K hK; (simp only [Act.put, List.setIfInBounds_toArray, List.set_cons_zero, List.set_cons_succ] at hK); go_simp; first | (go_at_call 31; refine (hsame _ _ _ _ (by assumption) (by assumption) (by assumption) hS).mono ?_; rintro e w' ⟨rfl, hS', hE'⟩; exact hK _ hS' hE') | (go_at_call 32; refine (hasks _ _ _ (by assumption) (by assumption) hS).mono ?_; rintro e w' ⟨rfl, hS', hE'⟩; exact hK _ hS' hE'))); (simp only [Act.put, List.setIfInBounds_toArray, List.set_cons_zero, List.set_cons_succ])))
    refine settle_nil ?_
    intro ρ wS hS _
    clear hsame hasks
    go_wp2
    go_ret
    exact ⟨rfl, below_self hbw hS.1⟩
end Go.Proofs.Ytphbegadddamgaa
