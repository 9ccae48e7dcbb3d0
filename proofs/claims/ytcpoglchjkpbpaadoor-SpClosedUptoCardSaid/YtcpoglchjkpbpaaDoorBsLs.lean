/-
  The numbers of a set, rising: in plain Lean. No program is named here.
-/
import Derived.Test.YtcpoglchjkpbpaaDoorBsLaw
import Derived.Lib.TrailingZeros
import Derived.Lib.BitFns
namespace Go.Proofs.YtcpoglchjkpbpaaDoor.Bs
set_option linter.unusedVariables false
set_option linter.unusedSimpArgs false
set_option maxRecDepth 100000
open Go.Lib (popAux)

theorem clear_low {w : Nat} (h : w ≠ 0) : w &&& (w - 1) < w := by
  have := Nat.and_le_right (n := w) (m := w - 1)
  omega
/-- the bits of a word, the least first -/
def bl (w : Nat) : List Nat := if h : w = 0 then [] else Lib.ctz 64 w :: bl (w &&& (w - 1))
termination_by w
decreasing_by exact clear_low h
theorem bl_zero : bl 0 = [] := by rw [bl]; rfl
theorem bl_pos {w : Nat} (h : w ≠ 0) : bl w = Lib.ctz 64 w :: bl (w &&& (w - 1)) := by rw [bl, dif_neg h]

/-- a word that is not nought, and its lowest bit -/
theorem low {w : Nat} (h : w ≠ 0) (hw : w < 18446744073709551616) : ∃ m, w = 2 ^ Lib.ctz 64 w * (2 * m + 1) ∧ Lib.ctz 64 w < 64 ∧ w &&& (w - 1) = 2 ^ Lib.ctz 64 w * (2 * m) := by
  obtain ⟨m, h1, h2⟩ := Lib.ctzFrom_spec 64 w (by omega) hw
  have e : Lib.ctz 64 w = Lib.ctzFrom 64 w := by unfold Lib.ctz; rw [if_neg h]
  rw [e]
  obtain ⟨k, hk⟩ : ∃ k, k = Lib.ctzFrom 64 w := ⟨_, rfl⟩
  rw [← hk] at h1 h2 ⊢
  refine ⟨m, h1, h2, ?_⟩
  have hp : 0 < 2 ^ k := Nat.two_pow_pos k
  have h3 : w - 1 = 2 ^ k * (2 * m) + (2 ^ k - 1) := by rw [h1, Nat.mul_add, Nat.mul_one]; omega
  have h4 : w = 2 ^ k * (2 * m + 1) + 0 := by omega
  rw [h3]
  conv => lhs; lhs; rw [h4]
  apply Nat.eq_of_testBit_eq
  intro i
  have e0 : 2 ^ k * (2 * m) = 2 ^ k * (2 * m) + 0 := rfl
  conv => rhs; rw [e0]
  rw [Nat.testBit_and, Nat.testBit_two_pow_mul_add _ hp, Nat.testBit_two_pow_mul_add _ (by omega), Nat.testBit_two_pow_mul_add _ hp]
  split
  · simp
  · rcases hj : i - k with _ | j
    · simp [Nat.testBit_zero]
    · rw [Nat.testBit_succ, Nat.testBit_succ]
      have e1 : (2 * m + 1) / 2 = m := by omega
      have e2 : 2 * m / 2 = m := by omega
      rw [e1, e2, Bool.and_self]
theorem clear_bit {w : Nat} (h : w ≠ 0) (hw : w < 18446744073709551616) (i : Nat) : (w &&& (w - 1)).testBit i = (w.testBit i && !(i == Lib.ctz 64 w)) := by
  obtain ⟨m, h1, h2, h3⟩ := low h hw
  obtain ⟨k, hk⟩ : ∃ k, k = Lib.ctz 64 w := ⟨_, rfl⟩
  rw [← hk] at h1 h2 h3 ⊢
  have hp : 0 < 2 ^ k := Nat.two_pow_pos k
  rw [h3]
  conv => rhs; rw [h1]
  have e0 : ∀ x, 2 ^ k * x = 2 ^ k * x + 0 := fun _ => rfl
  rw [e0, e0 (2 * m + 1), Nat.testBit_two_pow_mul_add _ hp, Nat.testBit_two_pow_mul_add _ hp]
  by_cases hik : i < k
  · simp [hik]
  · rw [if_neg hik, if_neg hik]
    rcases hj : i - k with _ | j
    · have : i = k := by omega
      simp [this, Nat.testBit_zero]
    · have : (i == k) = false := by simp; omega
      rw [this, Nat.testBit_succ, Nat.testBit_succ]
      have e1 : (2 * m + 1) / 2 = m := by omega
      have e2 : 2 * m / 2 = m := by omega
      rw [e1, e2]
      simp
theorem low_bit {w : Nat} (h : w ≠ 0) (hw : w < 18446744073709551616) : w.testBit (Lib.ctz 64 w) = true ∧ ∀ i, i < Lib.ctz 64 w → w.testBit i = false := by
  obtain ⟨m, h1, h2, h3⟩ := low h hw
  obtain ⟨k, hk⟩ : ∃ k, k = Lib.ctz 64 w := ⟨_, rfl⟩
  rw [← hk] at h1 h2 h3 ⊢
  have hp : 0 < 2 ^ k := Nat.two_pow_pos k
  have e0 : 2 ^ k * (2 * m + 1) = 2 ^ k * (2 * m + 1) + 0 := rfl
  refine ⟨?_, fun i hi => ?_⟩
  · rw [h1, e0, Nat.testBit_two_pow_mul_add _ hp]
    simp [Nat.testBit_zero]
  · rw [h1, e0, Nat.testBit_two_pow_mul_add _ hp]
    simp [hi]
theorem clear_lt {w : Nat} (hw : w < 18446744073709551616) : w &&& (w - 1) < 18446744073709551616 := Nat.lt_of_le_of_lt Nat.and_le_left hw
/-- in it, as a number -/
theorem mem_bl : ∀ (n w : Nat), w ≤ n → w < 18446744073709551616 → ∀ i, i ∈ bl w ↔ w.testBit i = true := by
  intro n
  induction n with
  | zero =>
    intro w hn hw i
    have : w = 0 := by omega
    subst this
    simp [bl_zero]
  | succ n ih =>
    intro w hn hw i
    by_cases h : w = 0
    · subst h
      simp [bl_zero]
    · rw [bl_pos h, List.mem_cons, ih _ (by have := clear_low h; omega) (clear_lt hw), clear_bit h hw]
      by_cases hi : i = Lib.ctz 64 w
      · simp [hi, (low_bit h hw).1]
      · have : (i == Lib.ctz 64 w) = false := by simpa using hi
        simp [hi, this]
theorem bl_lt64 {w i : Nat} (hw : w < 18446744073709551616) (hi : i ∈ bl w) : i < 64 := by
  have h := (mem_bl w w (Nat.le_refl _) hw i).1 hi
  rcases Nat.lt_or_ge i 64 with h' | h'
  · exact h'
  · have := Nat.testBit_lt_two_pow (Nat.lt_of_lt_of_le (show w < 2 ^ 64 from hw) (Nat.pow_le_pow_right (by decide) h'))
    rw [this] at h
    cases h
/-- rising -/
theorem bl_rise : ∀ (n w : Nat), w ≤ n → w < 18446744073709551616 → (bl w).Pairwise (· < ·) := by
  intro n
  induction n with
  | zero =>
    intro w hn hw
    have : w = 0 := by omega
    subst this
    simp [bl_zero]
  | succ n ih =>
    intro w hn hw
    by_cases h : w = 0
    · subst h
      simp [bl_zero]
    · rw [bl_pos h, List.pairwise_cons]
      refine ⟨fun j hj => ?_, ih _ (by have := clear_low h; omega) (clear_lt hw)⟩
      have hj' := (mem_bl _ _ (Nat.le_refl _) (clear_lt hw) j).1 hj
      rw [clear_bit h hw] at hj'
      rcases Nat.lt_trichotomy j (Lib.ctz 64 w) with hl | hl | hl
      · rw [(low_bit h hw).2 j hl] at hj'
        cases hj'
      · rw [hl] at hj'
        simp at hj'
      · exact hl
/-- as many as there are bits -/
theorem pop_clear : ∀ (n w k : Nat), k < n → w.testBit k = true → ∀ v, (∀ i, v.testBit i = (w.testBit i && !(i == k))) → popAux n w = popAux n v + 1 := by
  intro n
  induction n with
  | zero => intro w k h; omega
  | succ n ih =>
    intro w k hk hb v hv
    rw [popAux, popAux]
    have p : ∀ x : Nat, x % 2 = (x.testBit 0).toNat := fun x => by
      rw [Nat.testBit_zero]
      rcases Nat.mod_two_eq_zero_or_one x with h | h <;> simp [h]
    rcases k with _ | k
    · have h0 := hv 0
      rw [hb] at h0
      have hs : v / 2 = w / 2 := Nat.eq_of_testBit_eq fun i => by
        rw [← Nat.testBit_succ, ← Nat.testBit_succ, hv]
        simp
      rw [p w, p v, h0, hb, hs]
      simp
      omega
    · have h0 := hv 0
      have := ih (w / 2) k (by omega) (by rw [← Nat.testBit_succ]; exact hb) (v / 2) (fun i => by
        rw [← Nat.testBit_succ, ← Nat.testBit_succ, hv]
        congr 2
        simp)
      rw [this, p w, p v, h0]
      simp
      omega
theorem bl_length : ∀ (n w : Nat), w ≤ n → w < 18446744073709551616 → (bl w).length = popAux 64 w := by
  intro n
  induction n with
  | zero =>
    intro w hn hw
    have : w = 0 := by omega
    subst this
    rw [bl_zero]
    decide
  | succ n ih =>
    intro w hn hw
    by_cases h : w = 0
    · subst h
      rw [bl_zero]
      decide
    · obtain ⟨m, h1, h2, h3⟩ := low h hw
      rw [bl_pos h, List.length_cons, ih _ (by have := clear_low h; omega) (clear_lt hw)]
      exact (pop_clear 64 w _ h2 (low_bit h hw).1 _ (clear_bit h hw)).symm

/-! ### a whole set -/
/-- its numbers from word k on -/
def ls : Nat → List Nat → List Nat
  | _, [] => []
  | k, x :: r => (bl x).map (64 * k + ·) ++ ls (k + 1) r
theorem ls_append : ∀ (a b : List Nat) (k : Nat), ls k (a ++ b) = ls k a ++ ls (k + a.length) b
  | [], b, k => rfl
  | x :: a, b, k => by
    rw [List.cons_append, ls, ls, ls_append a b, List.append_assoc, List.length_cons, show k + 1 + a.length = k + (a.length + 1) by omega]
theorem ls_snoc (a : List Nat) (x : Nat) : ls 0 (a ++ [x]) = ls 0 a ++ (bl x).map (64 * a.length + ·) := by
  rw [ls_append, Nat.zero_add, ls, ls, List.append_nil]
end Go.Proofs.YtcpoglchjkpbpaaDoor.Bs
