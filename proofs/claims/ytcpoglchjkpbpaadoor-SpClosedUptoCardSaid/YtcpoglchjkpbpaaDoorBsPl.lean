/-
  Sets of small numbers: the laws, in plain Lean.
-/
import Derived.Test.YtcpoglchjkpbpaaDoorBs9
import Derived.Test.YtcpoglchjkpbpaaDoorBsLs
namespace Go.Proofs.YtcpoglchjkpbpaaDoor.Bs
set_option linter.unusedVariables false
set_option linter.unusedSimpArgs false
set_option maxRecDepth 100000
open Go.Lib (popAux)

/-! ### word by word -/
theorem fless_bit (a b j : Nat) (ha : a < 18446744073709551616) (hb : b < 18446744073709551616) : (fless a b).testBit j = (a.testBit j && !b.testBit j) := by
  unfold fless
  rw [Nat.testBit_and, show 18446744073709551615 - b = 2 ^ 64 - (b + 1) by omega, Nat.testBit_two_pow_sub_succ hb]
  by_cases hj : j < 64
  · simp [hj]
  · have : a.testBit j = false := Nat.testBit_lt_two_pow (Nat.lt_of_lt_of_le (show a < 2 ^ 64 from ha) (Nat.pow_le_pow_right (by decide) (by omega)))
    simp [this]
theorem word_ext {a b : Nat} (h : ∀ j, a.testBit j = b.testBit j) : a = b := Nat.eq_of_testBit_eq h
def sub (xs ys : List Nat) : Prop := ∀ i j, (at_ xs i).testBit j = true → (at_ ys i).testBit j = true
def win (xs ys : List Nat) : Bool := ((op fless xs ys).length : Int) == 0
theorem win_iff {xs ys : List Nat} (hx : Ws xs) (hy : Ws ys) : win xs ys = true ↔ sub xs ys := by
  have e : win xs ys = true ↔ op fless xs ys = [] := by
    unfold win
    simp
  rw [e]
  have f0 : fless 0 0 = 0 := by decide
  constructor
  · intro h i j hj
    have h0 := at_op fless f0 xs ys i
    rw [h] at h0
    have hb := fless_bit (at_ xs i) (at_ ys i) j (hx.at_ i) (hy.at_ i)
    rw [← h0] at hb
    rw [hj] at hb
    simpa [at_] using hb
  · intro h
    refine tr_all_zero (tr_op _ _ _) fun i => ?_
    rw [at_op fless f0]
    refine word_ext fun j => ?_
    rw [fless_bit _ _ _ (hx.at_ i) (hy.at_ i), Nat.zero_testBit]
    cases hj : (at_ xs i).testBit j with
    | false => rfl
    | true => rw [h i j hj]; rfl
theorem wand {xs ys : List Nat} (hx : Ws xs) (hy : Ws ys) : Ws (op fand xs ys) := Ws.op (fun _ _ ha _ => fand_lt ha) hx hy
theorem wor {xs ys : List Nat} (hx : Ws xs) (hy : Ws ys) : Ws (op for_ xs ys) := Ws.op (fun _ _ ha hb => for_lt ha hb) hx hy
theorem wless {xs ys : List Nat} (hx : Ws xs) (hy : Ws ys) : Ws (op fless xs ys) := Ws.op (fun _ _ ha _ => fless_lt ha) hx hy
theorem aand (xs ys : List Nat) (i : Nat) : at_ (op fand xs ys) i = at_ xs i &&& at_ ys i := at_op fand (by decide) xs ys i
theorem aor (xs ys : List Nat) (i : Nat) : at_ (op for_ xs ys) i = at_ xs i ||| at_ ys i := at_op for_ (by decide) xs ys i
theorem aless (xs ys : List Nat) (i : Nat) : at_ (op fless xs ys) i = fless (at_ xs i) (at_ ys i) := at_op fless (by decide) xs ys i
theorem at_nil (i : Nat) : at_ [] i = 0 := by simp [at_]
theorem ws_nil : Ws [] := fun x h => by cases h

/-! ### Boole -/
theorem alg1 (s t : List Nat) : op fand s t = op fand t s := tr_ext (tr_op _ _ _) (tr_op _ _ _) fun i => by rw [aand, aand, Nat.and_comm]
theorem alg2 (s t : List Nat) : op for_ s t = op for_ t s := tr_ext (tr_op _ _ _) (tr_op _ _ _) fun i => by rw [aor, aor, Nat.or_comm]
theorem alg3 (s t u : List Nat) : op fand s (op for_ t u) = op for_ (op fand s t) (op fand s u) := tr_ext (tr_op _ _ _) (tr_op _ _ _) fun i => by
  rw [aand, aor, aor, aand, aand]
  refine word_ext fun j => ?_
  simp only [Nat.testBit_and, Nat.testBit_or]
  cases (at_ s i).testBit j <;> simp
theorem alg4 (s t u : List Nat) : op for_ s (op fand t u) = op fand (op for_ s t) (op for_ s u) := tr_ext (tr_op _ _ _) (tr_op _ _ _) fun i => by
  rw [aor, aand, aand, aor, aor]
  refine word_ext fun j => ?_
  simp only [Nat.testBit_and, Nat.testBit_or]
  cases (at_ s i).testBit j <;> simp
theorem alg5 {s t : List Nat} (hs : Ws s) (ht : Ws t) : op for_ (op fand s t) (op fless s t) = op for_ s [] := tr_ext (tr_op _ _ _) (tr_op _ _ _) fun i => by
  rw [aor, aand, aless, aor, at_nil]
  refine word_ext fun j => ?_
  rw [Nat.testBit_or, Nat.testBit_and, fless_bit _ _ _ (hs.at_ i) (ht.at_ i), Nat.testBit_or, Nat.zero_testBit]
  cases (at_ s i).testBit j <;> cases (at_ t i).testBit j <;> rfl
theorem alg6 {s t : List Nat} (hs : Ws s) (ht : Ws t) : op fand (op fless s t) t = [] := tr_all_zero (tr_op _ _ _) fun i => by
  rw [aand, aless]
  refine word_ext fun j => ?_
  rw [Nat.testBit_and, fless_bit _ _ _ (hs.at_ i) (ht.at_ i), Nat.zero_testBit]
  cases (at_ s i).testBit j <;> cases (at_ t i).testBit j <;> rfl

/-! ### to be within -/
theorem win1 {s : List Nat} (hs : Ws s) : win s s = true := (win_iff hs hs).2 fun _ _ h => h
theorem win2 {s t u : List Nat} (hs : Ws s) (ht : Ws t) (hu : Ws u) : win u (op fand s t) = (win u s && win u t) := by
  rw [Bool.eq_iff_iff, Bool.and_eq_true, win_iff hu (wand hs ht), win_iff hu hs, win_iff hu ht]
  refine ⟨fun h => ⟨fun i j hj => ?_, fun i j hj => ?_⟩, fun ⟨h1, h2⟩ i j hj => ?_⟩
  · have := h i j hj; rw [aand, Nat.testBit_and, Bool.and_eq_true] at this; exact this.1
  · have := h i j hj; rw [aand, Nat.testBit_and, Bool.and_eq_true] at this; exact this.2
  · rw [aand, Nat.testBit_and, h1 i j hj, h2 i j hj]; rfl
theorem win3 {s t u : List Nat} (hs : Ws s) (ht : Ws t) (hu : Ws u) : win (op for_ s t) u = (win s u && win t u) := by
  rw [Bool.eq_iff_iff, Bool.and_eq_true, win_iff (wor hs ht) hu, win_iff hs hu, win_iff ht hu]
  refine ⟨fun h => ⟨fun i j hj => h i j ?_, fun i j hj => h i j ?_⟩, fun ⟨h1, h2⟩ i j hj => ?_⟩
  · rw [aor, Nat.testBit_or, hj]; rfl
  · rw [aor, Nat.testBit_or, hj, Bool.or_true]
  · rw [aor, Nat.testBit_or, Bool.or_eq_true] at hj
    exact hj.elim (h1 i j) (h2 i j)
theorem win4 {s t u : List Nat} (hs : Ws s) (ht : Ws t) (hu : Ws u) (h1 : win s t = true) (h2 : win t u = true) : win s u = true := by
  rw [win_iff hs ht] at h1
  rw [win_iff ht hu] at h2
  exact (win_iff hs hu).2 fun i j hj => h2 i j (h1 i j hj)
theorem win5 {s t : List Nat} (hs : Ws s) (ht : Ws t) : (win s t && win t s) = decide (op for_ s [] = op for_ t []) := by
  rw [Bool.eq_iff_iff, Bool.and_eq_true, decide_eq_true_eq, win_iff hs ht, win_iff ht hs]
  have k : ∀ (l : List Nat) i, at_ (op for_ l []) i = at_ l i := fun l i => by rw [aor, at_nil, Nat.or_zero]
  refine ⟨fun ⟨h1, h2⟩ => tr_ext (tr_op _ _ _) (tr_op _ _ _) fun i => ?_, fun h => ?_⟩
  · rw [k, k]
    exact word_ext fun j => Bool.eq_iff_iff.2 ⟨h1 i j, h2 i j⟩
  · have e : ∀ i, at_ s i = at_ t i := fun i => by rw [← k s, ← k t, h]
    exact ⟨fun i j hj => by rw [← e]; exact hj, fun i j hj => by rw [e]; exact hj⟩

/-! ### counting -/
def sizeN : Nat → (Nat → Nat) → Nat
  | 0, _ => 0
  | n + 1, f => popAux 64 (f n) + sizeN n f
theorem sizeN_zero (n : Nat) (f : Nat → Nat) (h : ∀ i, i < n → f i = 0) : sizeN n f = 0 := by
  induction n with
  | zero => rfl
  | succ n ih => rw [sizeN, h n (by omega), ih (fun i hi => h i (by omega))]; decide
theorem sizeN_congr {n : Nat} {f g : Nat → Nat} (h : ∀ i, i < n → f i = g i) : sizeN n f = sizeN n g := by
  induction n with
  | zero => rfl
  | succ n ih => rw [sizeN, sizeN, h n (by omega), ih (fun i hi => h i (by omega))]
theorem sizeN_shift (n : Nat) (f : Nat → Nat) : sizeN (n + 1) f = popAux 64 (f 0) + sizeN n (fun i => f (i + 1)) := by
  induction n with
  | zero => rw [sizeN]; rfl
  | succ n ih => rw [sizeN, ih, sizeN]; omega
theorem size_N : ∀ (l : List Nat) (n : Nat), l.length ≤ n → size l = sizeN n (at_ l)
  | [], n, _ => (sizeN_zero n _ (fun i _ => at_nil i)).symm
  | x :: r, 0, h => by simp at h
  | x :: r, n + 1, h => by
    rw [sizeN_shift, size, size_N r n (by simpa using h)]
    rfl
theorem count (s t : List Nat) : size s + size t = size (op for_ s t) + size (op fand s t) := by
  obtain ⟨n, hn⟩ : ∃ n, n = max s.length t.length := ⟨_, rfl⟩
  have l1 := op_length for_ s t
  have l2 := op_length fand s t
  rw [size_N s n (by omega), size_N t n (by omega), size_N _ n (by omega : (op for_ s t).length ≤ n), size_N _ n (by omega : (op fand s t).length ≤ n)]
  clear hn l1 l2
  induction n with
  | zero => rfl
  | succ n ih =>
    rw [sizeN, sizeN, sizeN, sizeN, aor, aand]
    have := pop_or_and 64 (at_ s n) (at_ t n)
    omega
theorem size_ls : ∀ (k : Nat) (l : List Nat), Ws l → (ls k l).length = size l
  | _, [], _ => rfl
  | k, x :: r, h => by
    rw [ls, List.length_append, List.length_map, bl_length x x (Nat.le_refl _) (h x List.mem_cons_self), size, size_ls (k + 1) r (fun y hy => h y (List.mem_cons_of_mem _ hy))]
end Go.Proofs.YtcpoglchjkpbpaaDoor.Bs
