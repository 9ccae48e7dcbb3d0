/-
  Package sp, walked: the leaves are numbered.
-/
import Derived.Test.YtcoijmnnnfogdaaChecked
import Derived.WalkKit
import Derived.ProofKit
import Derived.SizedLaws
import Derived.Deep.Slices
import Derived.Lib.Hide
import Derived.BigQuiet
import Derived.Deep.QuietTactic
import Derived.Deep.RegionHeld3
import Derived.Deep.AppendLies
import Derived.Maps.AppendAt
import Derived.WalkSpells
import Derived.ChangeKeysEq
import Derived.Test.YtcoijmnnnfogdaaRows
import Derived.StillTailTactics
import Derived.Deep.RegionLaw

namespace Go.Proofs.Ytcoijmnnnfogdaa.Sp
set_option linter.unusedVariables false
set_option linter.unusedSimpArgs false
set_option maxRecDepth 100000

inductive T where
  | nil
  | one (c : Int) (wr : Bool) (lb : Int)
  | two (par : Bool) (l r : T)

abbrev Acc := Int × Bool × Int

def T.leaves : T → List Acc
  | .nil => []
  | .one c b l => [(c, b, l)]
  | .two _ l r => l.leaves ++ r.leaves
def T.size (t : T) : Nat := t.leaves.length
def T.span : T → Nat
  | .nil => 0
  | .one _ _ _ => 1
  | .two par l r => if par then max l.span r.span else l.span + r.span
def T.width : T → Nat
  | .nil => 0
  | .one _ _ _ => 1
  | .two par l r => if par then l.width + r.width else max l.width r.width

theorem T.size_two (p : Bool) (l r : T) : (T.two p l r).size = l.size + r.size := by simp [T.size, T.leaves]
def T.cnt : T → Nat
  | .nil => 1
  | .one _ _ _ => 1
  | .two _ l r => 1 + l.cnt + r.cnt
theorem T.size_le_cnt (t : T) : t.size ≤ t.cnt := by
  induction t with
  | nil => exact Nat.zero_le _
  | one _ _ _ => exact Nat.le_refl _
  | two p l r ihl ihr => rw [T.size_two, T.cnt]; omega
theorem T.span_le (t : T) : t.span ≤ t.size := by
  induction t with
  | nil => exact Nat.le_refl _
  | one _ _ _ => exact Nat.le_refl _
  | two p l r ihl ihr =>
    rw [T.size_two]
    cases p <;> simp only [T.span] <;> simp <;> omega
theorem T.width_le (t : T) : t.width ≤ t.size := by
  induction t with
  | nil => exact Nat.le_refl _
  | one _ _ _ => exact Nat.le_refl _
  | two p l r ihl ihr =>
    rw [T.size_two]
    cases p <;> simp only [T.width] <;> simp <;> omega
theorem T.area (t : T) : t.size ≤ t.span * t.width := by
  induction t with
  | nil => exact Nat.le_refl _
  | one _ _ _ => exact Nat.le_refl _
  | two p l r ihl ihr =>
    rw [T.size_two]
    cases p
    · simp only [T.span, T.width, Bool.false_eq_true, if_false, Nat.add_mul]
      exact Nat.add_le_add (Nat.le_trans ihl (Nat.mul_le_mul_left _ (Nat.le_max_left _ _))) (Nat.le_trans ihr (Nat.mul_le_mul_left _ (Nat.le_max_right _ _)))
    · simp only [T.span, T.width, if_true, Nat.mul_add]
      exact Nat.add_le_add (Nat.le_trans ihl (Nat.mul_le_mul_right _ (Nat.le_max_left _ _))) (Nat.le_trans ihr (Nat.mul_le_mul_right _ (Nat.le_max_right _ _)))
theorem T.zero (t : T) : (t.size = 0 ↔ t.span = 0) ∧ (t.size = 0 ↔ t.width = 0) := by
  have h1 := t.span_le
  have h2 := t.width_le
  have h3 := t.area
  refine ⟨⟨fun h => by omega, fun h => ?_⟩, ⟨fun h => by omega, fun h => ?_⟩⟩
  · rw [h, Nat.zero_mul] at h3; omega
  · rw [h, Nat.mul_zero] at h3; omega
end Go.Proofs.Ytcoijmnnnfogdaa.Sp


namespace Go.Proofs.Ytcoijmnnnfogdaa.Sp
set_option linter.unusedVariables false
set_option linter.unusedSimpArgs false
set_option maxRecDepth 100000

def put {α : Type} (ps : List α) (a : Nat) (ms : List α) : List α := ps.take a ++ ms ++ ps.drop (a + ms.length)

theorem put_get {α : Type} (ps ms : List α) (a i : Nat) (h : a + ms.length ≤ ps.length) : (put ps a ms)[i]? = if i < a then ps[i]? else if i < a + ms.length then ms[i - a]? else ps[i]? := by
  unfold put
  have h1 : (ps.take a).length = a := by simp; omega
  by_cases h2 : i < a
  · rw [if_pos h2, List.append_assoc, List.getElem?_append_left (by omega), List.getElem?_take_of_lt h2]
  · rw [if_neg h2]
    by_cases h3 : i < a + ms.length
    · rw [if_pos h3, List.append_assoc, List.getElem?_append_right (by omega), h1, List.getElem?_append_left (by omega)]
    · rw [if_neg h3, List.getElem?_append_right (by simp; omega), List.getElem?_drop]
      congr 1; simp; omega
theorem put_length {α : Type} (ps ms : List α) (a : Nat) (h : a + ms.length ≤ ps.length) : (put ps a ms).length = ps.length := by
  unfold put; simp; omega
theorem put_nil {α : Type} (ps : List α) (a : Nat) : put ps a [] = ps := by simp [put]
theorem put_put {α : Type} (ps m1 m2 : List α) (a : Nat) (h : a + m1.length + m2.length ≤ ps.length) : put (put ps a m1) (a + m1.length) m2 = put ps a (m1 ++ m2) := by
  apply List.ext_getElem?
  intro i
  rw [put_get _ _ _ _ (by rw [put_length _ _ _ (by omega)]; omega), put_get _ _ _ _ (by omega), put_get _ _ _ _ (by simp; omega)]
  simp only [List.length_append]
  by_cases h1 : i < a
  · rw [if_pos h1, if_pos h1, if_pos (by omega)]
  · rw [if_neg h1, if_neg h1]
    by_cases h2 : i < a + m1.length
    · rw [if_pos h2, if_pos h2, if_pos (by omega), List.getElem?_append_left (by omega)]
    · rw [if_neg h2, if_neg h2]
      by_cases h3 : i < a + m1.length + m2.length
      · rw [if_pos h3, if_pos (by omega), List.getElem?_append_right (by omega)]
        congr 1; omega
      · rw [if_neg h3, if_neg (by omega)]
theorem put_back {α : Type} (ps m1 m2 : List α) (a : Nat) (h : a + m1.length + m2.length ≤ ps.length) : put (put ps (a + m1.length) m2) a m1 = put ps a (m1 ++ m2) := by
  apply List.ext_getElem?
  intro i
  rw [put_get _ _ _ _ (by rw [put_length _ _ _ (by omega)]; omega), put_get _ _ _ _ (by omega), put_get _ _ _ _ (by simp; omega)]
  simp only [List.length_append]
  by_cases h1 : i < a
  · rw [if_pos h1, if_pos h1, if_pos (by omega)]
  · rw [if_neg h1, if_neg h1]
    by_cases h2 : i < a + m1.length
    · rw [if_pos h2, if_pos (by omega), List.getElem?_append_left (by omega)]
    · rw [if_neg h2, if_neg h2]
      by_cases h3 : i < a + m1.length + m2.length
      · rw [if_pos h3, if_pos (by omega), List.getElem?_append_right (by omega)]
        congr 1; omega
      · rw [if_neg h3, if_neg (by omega)]
theorem put_all {α : Type} (ps ms : List α) (h : ms.length = ps.length) : put ps 0 ms = ms := by
  unfold put
  rw [List.take_zero, List.nil_append, List.drop_of_length_le (by omega), List.append_nil]
theorem put_one {α : Type} (ps : List α) (a : Nat) (x : α) (h : a < ps.length) : put ps a [x] = ps.set a x := by
  unfold put
  rw [List.set_eq_take_append_cons_drop, if_pos h]
  simp

def T.marks : T → Nat → Nat → List (Nat × Nat)
  | .nil, _, _ => []
  | .one _ _ _, a, j => [(a, j)]
  | .two par l r, a, j => l.marks a (if par then j + r.size else j) ++ r.marks (a + l.size) (if par then j else j + l.size)
theorem T.marks_length (t : T) : ∀ a j, (t.marks a j).length = t.size := by
  induction t with
  | nil => intro a j; rfl
  | one _ _ _ => intro a j; rfl
  | two p l r ihl ihr => intro a j; rw [T.size_two, T.marks, List.length_append, ihl, ihr]

/-- the place of leaf i in the second numbering -/
def T.rk : T → Nat → Nat
  | .nil, _ => 0
  | .one _ _ _, _ => 0
  | .two par l r, i => if i < l.size then l.rk i + (if par then r.size else 0) else r.rk (i - l.size) + (if par then 0 else l.size)
theorem T.rk_lt (t : T) : ∀ i, i < t.size → t.rk i < t.size := by
  induction t with
  | nil => intro i h; exact absurd h (Nat.not_lt_zero _)
  | one _ _ _ => intro i h; exact Nat.zero_lt_one
  | two p l r ihl ihr =>
    intro i h
    rw [T.size_two] at h ⊢
    unfold T.rk
    split
    · have := ihl i ‹_›; cases p <;> simp <;> omega
    · have := ihr (i - l.size) (by omega); cases p <;> simp <;> omega
theorem T.marks_get (t : T) : ∀ a j i, i < t.size → (t.marks a j)[i]? = some (a + i, j + t.rk i) := by
  induction t with
  | nil => intro a j i h; exact absurd h (Nat.not_lt_zero _)
  | one _ _ _ =>
    intro a j i h
    have : i = 0 := by have : i < 1 := h; omega
    subst this; rfl
  | two p l r ihl ihr =>
    intro a j i h
    rw [T.size_two] at h
    rw [T.marks, T.rk]
    by_cases h1 : i < l.size
    · rw [List.getElem?_append_left (by rw [T.marks_length]; exact h1), ihl _ _ _ h1, if_pos h1]
      cases p <;> simp <;> omega
    · rw [List.getElem?_append_right (by rw [T.marks_length]; omega), T.marks_length, ihr _ _ _ (by omega), if_neg h1]
      cases p <;> simp <;> omega
theorem T.rk_side (p : Bool) (l r : T) (i : Nat) (h : i < (T.two p l r).size) :
    (i < l.size ∧ (T.two p l r).rk i = l.rk i + (if p then r.size else 0) ∧ l.rk i < l.size) ∨ (l.size ≤ i ∧ i - l.size < r.size ∧ (T.two p l r).rk i = r.rk (i - l.size) + (if p then 0 else l.size) ∧ r.rk (i - l.size) < r.size) := by
  rw [T.size_two] at h
  by_cases h1 : i < l.size
  · exact .inl ⟨h1, by rw [T.rk, if_pos h1], l.rk_lt _ h1⟩
  · exact .inr ⟨by omega, by omega, by rw [T.rk, if_neg h1], r.rk_lt _ (by omega)⟩
theorem T.rk_inj (t : T) : ∀ i k, i < t.size → k < t.size → t.rk i = t.rk k → i = k := by
  induction t with
  | nil => intro i k h; exact absurd h (Nat.not_lt_zero _)
  | one _ _ _ => intro i k h h' _; have : i < 1 := h; have : k < 1 := h'; omega
  | two p l r ihl ihr =>
    intro i k h h' e
    rcases T.rk_side p l r i h with ⟨h1, h2, h3⟩ | ⟨h1, h0, h2, h3⟩ <;> rcases T.rk_side p l r k h' with ⟨k1, k2, k3⟩ | ⟨k1, k0, k2, k3⟩
    · exact ihl i k h1 k1 (by cases p <;> simp at h2 k2 <;> omega)
    · cases p <;> simp at h2 k2 <;> omega
    · cases p <;> simp at h2 k2 <;> omega
    · have := ihr _ _ h0 k0 (by cases p <;> simp at h2 k2 <;> omega)
      omega

/-- leaf i is ahead of leaf k -/
def T.bf (t : T) (i k : Nat) : Prop := i < k ∧ t.rk i < t.rk k
instance (t : T) (i k : Nat) : Decidable (t.bf i k) := inferInstanceAs (Decidable (_ ∧ _))
def T.apart (t : T) (i k : Nat) : Prop := i ≠ k ∧ ¬ t.bf i k ∧ ¬ t.bf k i
theorem T.no_n (t : T) : ∀ a b c d, a < t.size → b < t.size → c < t.size → d < t.size → t.bf a c → t.bf a d → t.bf b d → t.apart a b → t.apart c d → ¬ t.apart b c := by
  induction t with
  | nil => intro a b c d h; exact absurd h (Nat.not_lt_zero _)
  | one _ _ _ => intro a b c d h h1 h2 h3 h4; have : a < 1 := h; have : c < 1 := h2; have := h4.1; omega
  | two p l r ihl ihr =>
    intro a b c d ha hb hc hd h1 h2 h3 h4 h5 h6
    unfold T.apart T.bf at h4 h5 h6
    unfold T.bf at h1 h2 h3
    rcases T.rk_side p l r a ha with ⟨a1, a2, a3⟩ | ⟨a1, a0, a2, a3⟩ <;> rcases T.rk_side p l r b hb with ⟨b1, b2, b3⟩ | ⟨b1, b0, b2, b3⟩ <;>
    rcases T.rk_side p l r c hc with ⟨c1, c2, c3⟩ | ⟨c1, c0, c2, c3⟩ <;> rcases T.rk_side p l r d hd with ⟨d1, d2, d3⟩ | ⟨d1, d0, d2, d3⟩
    · exact ihl a b c d a1 b1 c1 d1 (by unfold T.bf; omega) (by unfold T.bf; omega) (by unfold T.bf; omega) (by unfold T.apart T.bf; omega) (by unfold T.apart T.bf; omega) (by unfold T.apart T.bf; omega)
    all_goals first
      | (exfalso; cases p <;> simp at a2 b2 c2 d2 <;> omega)
      | exact ihr (a - l.size) (b - l.size) (c - l.size) (d - l.size) a0 b0 c0 d0 (by unfold T.bf; omega) (by unfold T.bf; omega) (by unfold T.bf; omega) (by unfold T.apart T.bf; omega) (by unfold T.apart T.bf; omega) (by unfold T.apart T.bf; omega)

def T.before (t : T) (i j : Int) : Bool := decide ((0 ≤ i ∧ 0 ≤ j ∧ i < t.size ∧ j < t.size) ∧ t.bf i.toNat j.toNat)
theorem T.before_irr (t : T) (i : Int) : t.before i i = false := by
  unfold T.before T.bf; simp
theorem T.before_lt (t : T) (i j : Int) (h : t.before i j = true) : i < j := by
  unfold T.before T.bf at h; have := of_decide_eq_true h; omega
theorem T.before_trans (t : T) (i j k : Int) (h : t.before i j = true) (h' : t.before j k = true) : t.before i k = true := by
  unfold T.before T.bf at *
  have h1 := of_decide_eq_true h
  have h2 := of_decide_eq_true h'
  exact decide_eq_true (by omega)

/-! ### brackets -/
def T.same (s t : T) : Prop := s.leaves = t.leaves ∧ ∀ a j, s.marks a j = t.marks a j
theorem T.same_size {s t : T} (h : s.same t) : s.size = t.size := by unfold T.size; rw [h.1]
theorem T.same_rk {s t : T} (h : s.same t) (i : Nat) (hi : i < s.size) : s.rk i = t.rk i := by
  have h1 := s.marks_get 0 0 i hi
  rw [h.2, t.marks_get 0 0 i (by rw [← T.same_size h]; exact hi)] at h1
  injection h1 with h1
  injection h1 with _ h1
  omega
theorem T.same_before {s t : T} (h : s.same t) (i j : Int) : s.before i j = t.before i j := by
  have e := T.same_size h
  rw [Bool.eq_iff_iff]
  unfold T.before T.bf
  rw [decide_eq_true_iff, decide_eq_true_iff]
  constructor
  · rintro ⟨hb, h1, h2⟩
    rw [T.same_rk h _ (by omega), T.same_rk h _ (by omega)] at h2
    exact ⟨by omega, h1, h2⟩
  · rintro ⟨hb, h1, h2⟩
    rw [← T.same_rk h _ (by omega), ← T.same_rk h _ (by omega)] at h2
    exact ⟨by omega, h1, h2⟩
theorem T.same_joins (p : Bool) (a b c : T) : (T.two p (.two p a b) c).same (.two p a (.two p b c)) := by
  refine ⟨by simp [T.leaves], fun x j => ?_⟩
  simp only [T.marks, T.size_two]
  cases p <;> simp [Nat.add_assoc]
  rw [Nat.add_comm b.size]
theorem T.same_none (p : Bool) (a : T) : (T.two p (.two p .nil a) .nil).same a := by
  refine ⟨by simp [T.leaves], fun x j => ?_⟩
  simp only [T.marks, T.size_two]
  cases p <;> simp [T.size, T.leaves]

/-! ### orders -/
/-- in how many ways a things and b others are mixed -/
def ch : Nat → Nat → Nat
  | 0, _ => 1
  | _ + 1, 0 => 1
  | a + 1, b + 1 => ch a (b + 1) + ch (a + 1) b
def fac : Nat → Nat
  | 0 => 1
  | n + 1 => (n + 1) * fac n
theorem fac_pos : ∀ n, 0 < fac n
  | 0 => Nat.zero_lt_one
  | n + 1 => Nat.mul_pos (Nat.succ_pos _) (fac_pos n)
theorem ch_zero (a : Nat) : ch a 0 = 1 := by cases a <;> simp [ch]
theorem ch_fac : ∀ a b, ch a b * (fac a * fac b) = fac (a + b)
  | 0, b => by simp [ch, fac]
  | a + 1, 0 => by simp [ch, fac]
  | a + 1, b + 1 => by
    have h1 := ch_fac a (b + 1)
    have h2 := ch_fac (a + 1) b
    have e1 : a + (b + 1) = a + b + 1 := by omega
    have e2 : a + 1 + b = a + b + 1 := by omega
    have e3 : a + 1 + (b + 1) = a + b + 1 + 1 := by omega
    rw [e1] at h1
    rw [e2] at h2
    rw [ch, e3, Nat.add_mul]
    have i1 : ch a (b + 1) * (fac (a + 1) * fac (b + 1)) = (a + 1) * fac (a + b + 1) := by
      rw [← h1]; show _ * ((a + 1) * fac a * _) = _; simp only [Nat.mul_assoc, Nat.mul_left_comm, Nat.mul_comm]
    have i2 : ch (a + 1) b * (fac (a + 1) * fac (b + 1)) = (b + 1) * fac (a + b + 1) := by
      rw [← h2]; show _ * (_ * ((b + 1) * fac b)) = _; ac_rfl
    rw [i1, i2, ← Nat.add_mul]
    show _ = (a + b + 1 + 1) * fac (a + b + 1)
    congr 1 <;> omega
theorem ch_three (a b c : Nat) : ch (a + b) c * ch a b = ch a (b + c) * ch b c := by
  have h1 := ch_fac (a + b) c
  have h2 := ch_fac a b
  have h3 := ch_fac a (b + c)
  have h4 := ch_fac b c
  apply Nat.eq_of_mul_eq_mul_right (Nat.mul_pos (Nat.mul_pos (fac_pos a) (fac_pos b)) (fac_pos c))
  have i1 : ch (a + b) c * ch a b * (fac a * fac b * fac c) = fac (a + b + c) := by
    rw [← h1, ← h2]; ac_rfl
  have i2 : ch a (b + c) * ch b c * (fac a * fac b * fac c) = fac (a + b + c) := by
    rw [Nat.add_assoc, ← h3, ← h4]; ac_rfl
  rw [i1, i2]

def T.ways : T → Nat
  | .nil => 1
  | .one _ _ _ => 1
  | .two p l r => l.ways * r.ways * (if p then ch l.size r.size else 1)
theorem T.ways_joins (p : Bool) (a b c : T) : (T.two p (.two p a b) c).ways = (T.two p a (.two p b c)).ways := by
  simp only [T.ways, T.size_two]
  cases p
  · simp; ac_rfl
  · have := ch_three a.size b.size c.size
    simp only [if_true]
    calc _ = a.ways * b.ways * c.ways * (ch (a.size + b.size) c.size * ch a.size b.size) := by ac_rfl
      _ = _ := by rw [this]; ac_rfl
theorem T.ways_none (p : Bool) (a : T) : (T.two p (.two p .nil a) .nil).ways = a.ways := by
  have h0 : T.nil.size = 0 := rfl
  simp only [T.ways, T.size_two, h0]
  cases p <;> simp [ch_zero, ch]
end Go.Proofs.Ytcoijmnnnfogdaa.Sp


namespace Go.Proofs.Ytcoijmnnnfogdaa.Rc
set_option linter.unusedVariables false
set_option linter.unusedSimpArgs false
set_option maxRecDepth 100000
open Sp (T Acc)

def acc (t : T) (n : Nat) : Acc := t.leaves.getD n (0, false, 0)
theorem acc_get {t : T} {n : Nat} (h : n < t.size) : t.leaves[n]? = some (acc t n) := by
  unfold T.size at h
  unfold acc
  rw [List.getD_eq_getElem?_getD, List.getElem?_eq_getElem h, Option.getD_some]
def clash (t : T) (i j : Nat) : Bool := (acc t i).1 == (acc t j).1 && ((acc t i).2.1 || (acc t j).2.1)
theorem clash_comm (t : T) (i j : Nat) : clash t i j = clash t j i := by
  unfold clash
  rw [Bool.or_comm, Bool.eq_iff_iff]
  simp only [Bool.and_eq_true, beq_iff_eq]
  exact ⟨fun h => ⟨h.1.symm, h.2⟩, fun h => ⟨h.1.symm, h.2⟩⟩

/-! ### races -/
def hit (t : T) (i j : Nat) : Bool := clash t i j && decide (t.rk j < t.rk i)
def rowR (t : T) (i m : Nat) : List (Nat × Nat) := ((List.range m).filter fun k => hit t i (i + 1 + k)).map fun k => (i, i + 1 + k)
def racesK (t : T) (k : Nat) : List (Nat × Nat) := (List.range k).flatMap fun i => rowR t i (t.size - (i + 1))
def races (t : T) : List (Nat × Nat) := racesK t t.size
theorem rowR_zero (t : T) (i : Nat) : rowR t i 0 = [] := rfl
theorem rowR_succ (t : T) (i m : Nat) : rowR t i (m + 1) = rowR t i m ++ (if hit t i (i + 1 + m) then [(i, i + 1 + m)] else []) := by
  unfold rowR
  rw [List.range_succ, List.filter_append, List.map_append]
  simp only [List.filter_cons, List.filter_nil]
  split <;> rfl
theorem racesK_succ (t : T) (k : Nat) : racesK t (k + 1) = racesK t k ++ rowR t k (t.size - (k + 1)) := by
  unfold racesK
  rw [List.range_succ, List.flatMap_append]
  simp
theorem rowR_mem {t : T} {i m : Nat} {p : Nat × Nat} : p ∈ rowR t i m ↔ p.1 = i ∧ i < p.2 ∧ p.2 < i + 1 + m ∧ hit t i p.2 = true := by
  unfold rowR
  rw [List.mem_map]
  constructor
  · rintro ⟨k, hk, rfl⟩
    rw [List.mem_filter, List.mem_range] at hk
    exact ⟨rfl, by show i < i + 1 + k; omega, by show i + 1 + k < _; omega, hk.2⟩
  · rintro ⟨h1, h2, h3, h4⟩
    refine ⟨p.2 - (i + 1), ?_, ?_⟩
    · rw [List.mem_filter, List.mem_range, show i + 1 + (p.2 - (i + 1)) = p.2 by omega]
      exact ⟨by omega, h4⟩
    · rw [← h1, show p.1 + 1 + (p.2 - (p.1 + 1)) = p.2 by omega]
theorem races_mem {t : T} {p : Nat × Nat} : p ∈ races t ↔ p.1 < p.2 ∧ p.2 < t.size ∧ hit t p.1 p.2 = true := by
  unfold races racesK
  rw [List.mem_flatMap]
  constructor
  · rintro ⟨i, hi, hp⟩
    have := List.mem_range.1 hi
    obtain ⟨h1, h2, h3, h4⟩ := rowR_mem.1 hp
    rw [h1]
    exact ⟨h2, by omega, h4⟩
  · rintro ⟨h1, h2, h3⟩
    exact ⟨p.1, List.mem_range.2 (by omega), rowR_mem.2 ⟨rfl, h1, by omega, h3⟩⟩
theorem rowR_len (t : T) (i m : Nat) : (rowR t i m).length ≤ m := by
  unfold rowR
  rw [List.length_map]
  exact Nat.le_trans (List.length_filter_le _ _) (by simp)
theorem racesK_len (t : T) : ∀ k, (racesK t k).length ≤ k * t.size
  | 0 => by simp [racesK]
  | k + 1 => by
    rw [racesK_succ, List.length_append, Nat.add_mul, Nat.one_mul]
    exact Nat.add_le_add (racesK_len t k) (Nat.le_trans (rowR_len t k _) (by omega))
/-- two that clash, of which none races: the lesser one is ahead -/
theorem free_bf {t : T} (h : races t = []) {i j : Nat} (hij : i < j) (hj : j < t.size) (hc : clash t i j = true) : t.bf i j := by
  refine ⟨hij, ?_⟩
  have hn : ¬ t.rk j < t.rk i := fun hr => by
    have : (i, j) ∈ races t := races_mem.2 ⟨hij, hj, by unfold hit; rw [hc, decide_eq_true hr]; rfl⟩
    rw [h] at this
    cases this
  have hne : t.rk i ≠ t.rk j := fun e => by
    have := t.rk_inj i j (by omega) hj e
    omega
  omega

/-! ### an order -/
def pos (ns : List Nat) (x : Nat) : Nat := ns.findIdx (· == x)
theorem pos_eq {ns : List Nat} {k x : Nat} (hn : ns.Nodup) (h : ns[k]? = some x) : pos ns x = k := by
  unfold pos
  obtain ⟨hk, rfl⟩ := List.getElem?_eq_some_iff.1 h
  rw [List.findIdx_eq hk]
  refine ⟨by simp, fun j hj => ?_⟩
  rw [beq_eq_false_iff_ne]
  intro e
  have := (List.getElem_inj hn).1 e
  omega
structure Right (t : T) (ns : List Nat) : Prop where
  len : ns.length = t.size
  lt : ∀ x ∈ ns, x < t.size
  nd : ns.Nodup
  up : ∀ i j, i < j → j < t.size → t.rk i < t.rk j → pos ns i < pos ns j
theorem Right.all {t : T} {ns : List Nat} (h : Right t ns) {x : Nat} (hx : x < t.size) : x ∈ ns := by
  refine Decidable.byContradiction fun hn => ?_
  have h1 := (List.nodup_cons.2 ⟨hn, h.nd⟩).length_le_of_subset (l₂ := List.range t.size) (fun y hy => by
    rcases List.mem_cons.1 hy with rfl | hy
    · exact List.mem_range.2 hx
    · exact List.mem_range.2 (h.lt y hy))
  have := h.len
  simp at h1
  omega
theorem Right.at_pos {t : T} {ns : List Nat} (h : Right t ns) {x : Nat} (hx : x < t.size) : ns[pos ns x]? = some x := by
  obtain ⟨k, hk⟩ := List.getElem?_of_mem (h.all hx)
  rw [pos_eq h.nd hk]
  exact hk
theorem pos_range {n x : Nat} (h : x < n) : pos (List.range n) x = x := pos_eq List.nodup_range (List.getElem?_range h)
theorem right_plain (t : T) : Right t (List.range t.size) := by
  refine ⟨by simp, fun x hx => List.mem_range.1 hx, List.nodup_range, fun i j hij hj _ => ?_⟩
  rw [pos_range hj, pos_range (by omega)]
  exact hij

/-! ### what each one finds -/
def isw (t : T) (c : Int) (y : Nat) : Bool := (acc t y).2.1 && (acc t y).1 == c
/-- whose writing lies in the cell, from 1; 0: nobody's -/
def lw (t : T) (pre : List Nat) (c : Int) : Int := pre.foldl (fun v y => if isw t c y then ((y : Int) + 1) else v) 0
theorem lw_nil (t : T) (c : Int) : lw t [] c = 0 := rfl
theorem lw_snoc (t : T) (pre : List Nat) (y : Nat) (c : Int) : lw t (pre ++ [y]) c = if isw t c y then ((y : Int) + 1) else lw t pre c := by
  unfold lw
  rw [List.foldl_append]
  rfl
theorem lw_last (t : T) (c : Int) : ∀ (pre : List Nat) (v : Int), pre.foldl (fun v y => if isw t c y then ((y : Int) + 1) else v) v = (((pre.filter (isw t c)).getLast?).map fun y => (y : Int) + 1).getD v := by
  intro pre
  induction pre with
  | nil => intro v; rfl
  | cons y pre ih =>
    intro v
    rw [List.foldl_cons, ih]
    by_cases h : isw t c y = true
    · rw [if_pos h, List.filter_cons_of_pos h, List.getLast?_cons]
      cases (pre.filter (isw t c)).getLast? with
      | none => rfl
      | some z => rfl
    · rw [if_neg h, List.filter_cons_of_neg h]
def seeL (t : T) (ns : List Nat) : List Int := (List.range t.size).map fun x => lw t (ns.take (pos ns x)) (acc t x).1 - 1
/-- two lists that go up and have the same numbers -/
theorem rise_same : ∀ {l m : List Nat}, l.Pairwise (· < ·) → m.Pairwise (· < ·) → (∀ x, x ∈ l ↔ x ∈ m) → l = m
  | [], [], _, _, _ => rfl
  | [], y :: m, _, _, h => by have := (h y).2 List.mem_cons_self; cases this
  | x :: l, [], _, _, h => by have := (h x).1 List.mem_cons_self; cases this
  | x :: l, y :: m, hl, hm, h => by
    have hl' := List.pairwise_cons.1 hl
    have hm' := List.pairwise_cons.1 hm
    have e : x = y := by
      rcases List.mem_cons.1 ((h x).1 List.mem_cons_self) with e | hx
      · exact e
      · rcases List.mem_cons.1 ((h y).2 List.mem_cons_self) with e | hy
        · exact e.symm
        · have := hm'.1 x hx
          have := hl'.1 y hy
          omega
    subst e
    congr 1
    refine rise_same hl'.2 hm'.2 fun z => ⟨fun hz => ?_, fun hz => ?_⟩
    · rcases List.mem_cons.1 ((h z).1 (List.mem_cons_of_mem _ hz)) with e | h1
      · have := hl'.1 z hz; omega
      · exact h1
    · rcases List.mem_cons.1 ((h z).2 (List.mem_cons_of_mem _ hz)) with e | h1
      · have := hm'.1 z hz; omega
      · exact h1
theorem isw_clash {t : T} {c : Int} {x y : Nat} (hx : (acc t x).1 = c) (hy : isw t c y = true) : clash t x y = true ∧ clash t y x = true := by
  unfold isw at hy
  rw [Bool.and_eq_true, beq_iff_eq] at hy
  have : clash t y x = true := by
    unfold clash
    rw [hy.1, hy.2, hx]
    simp
  exact ⟨by rw [clash_comm]; exact this, this⟩
/-- where nothing races the order is no matter -/
theorem free_same {t : T} {ns : List Nat} (hf : races t = []) (h : Right t ns) : seeL t ns = seeL t (List.range t.size) := by
  refine List.map_congr_left fun x hx => ?_
  have hx := List.mem_range.1 hx
  have key : (ns.take (pos ns x)).filter (isw t (acc t x).1) = ((List.range t.size).take (pos (List.range t.size) x)).filter (isw t (acc t x).1) := by
    rw [pos_range hx, List.take_range, Nat.min_eq_left (by omega)]
    refine rise_same ?_ (List.pairwise_lt_range.filter _) fun y => ?_
    · rw [List.pairwise_iff_getElem]
      intro a b ha hb hab
      have hsub : ((ns.take (pos ns x)).filter (isw t (acc t x).1)).Sublist ns := List.filter_sublist.trans (List.take_sublist _ _)
      obtain ⟨y1, h1⟩ : ∃ y, y = ((ns.take (pos ns x)).filter (isw t (acc t x).1))[a] := ⟨_, rfl⟩
      obtain ⟨y2, h2⟩ : ∃ y, y = ((ns.take (pos ns x)).filter (isw t (acc t x).1))[b] := ⟨_, rfl⟩
      rw [← h1, ← h2]
      have w1 : isw t (acc t x).1 y1 = true := by have := List.getElem_mem ha; rw [← h1] at this; exact (List.mem_filter.1 this).2
      have w2 : isw t (acc t x).1 y2 = true := by have := List.getElem_mem hb; rw [← h2] at this; exact (List.mem_filter.1 this).2
      -- y1 is ahead of y2 in the order
      have hps : [y1, y2].Sublist ns := by
        refine List.Sublist.trans ?_ hsub
        have : ((ns.take (pos ns x)).filter (isw t (acc t x).1)).Sublist ((ns.take (pos ns x)).filter (isw t (acc t x).1)) := List.Sublist.refl _
        rw [h1, h2]
        exact List.pairwise_iff_getElem.1 (List.pairwise_of_forall_sublist (R := fun u v => [u, v].Sublist ((ns.take (pos ns x)).filter (isw t (acc t x).1))) (fun h => h)) a b ha hb hab
      have hpp : pos ns y1 < pos ns y2 := by
        have := List.pairwise_iff_forall_sublist.1 (List.pairwise_iff_getElem.2 (fun i j hi hj hij => by
          rw [pos_eq h.nd (List.getElem?_eq_getElem hi), pos_eq h.nd (List.getElem?_eq_getElem hj)]
          exact hij) : ns.Pairwise (fun u v => pos ns u < pos ns v)) hps
        exact this
      have hy1 : y1 < t.size := h.lt y1 (hps.subset (by simp))
      have hy2 : y2 < t.size := h.lt y2 (hps.subset (by simp))
      rcases Nat.lt_trichotomy y1 y2 with hlt | rfl | hgt
      · exact hlt
      · omega
      · have hcl := (isw_clash (x := y1) (by unfold isw at w1; rw [Bool.and_eq_true, beq_iff_eq] at w1; exact w1.2) w2).2
        obtain ⟨b1, b2⟩ := free_bf hf hgt hy1 hcl
        have := h.up y2 y1 b1 hy1 b2
        omega
    · rw [List.mem_filter, List.mem_filter, List.mem_range]
      constructor
      · rintro ⟨hy, hw⟩
        refine ⟨?_, hw⟩
        have hyl : y < t.size := h.lt y (List.mem_of_mem_take hy)
        obtain ⟨k, hk⟩ := List.getElem?_of_mem hy
        rw [List.getElem?_take] at hk
        split at hk
        · rename_i hkp
          have hpy := pos_eq h.nd hk
          rcases Nat.lt_trichotomy y x with hlt | rfl | hgt
          · exact hlt
          · omega
          · obtain ⟨b1, b2⟩ := free_bf hf hgt hyl (isw_clash rfl hw).1
            have := h.up x y b1 hyl b2
            omega
        · cases hk
      · rintro ⟨hy, hw⟩
        refine ⟨?_, hw⟩
        obtain ⟨b1, b2⟩ := free_bf hf hy hx (isw_clash rfl hw).2
        have h1 := h.up y x b1 hx b2
        have h2 := h.at_pos (show y < t.size by omega)
        refine List.mem_of_getElem? (i := pos ns y) ?_
        rw [List.getElem?_take, if_pos h1]
        exact h2
  show lw t _ _ - 1 = lw t _ _ - 1
  unfold lw
  rw [lw_last, lw_last, key]
end Go.Proofs.Ytcoijmnnnfogdaa.Rc


namespace Go.Proofs.Ytcoijmnnnfogdaa.Rc
set_option linter.unusedVariables false
set_option linter.unusedSimpArgs false
set_option maxRecDepth 100000
open Sp (T Acc)

def atf (pre : List Int) (n : Nat) : Int := if (n : Int) ∈ pre then (pre.findIdx (· == (n : Int)) : Int) + 1 else 0
theorem atf_snoc {pre : List Int} {z : Int} (hz : z ∉ pre) (n : Nat) : atf (pre ++ [z]) n = if (n : Int) = z then (pre.length : Int) + 1 else atf pre n := by
  unfold atf
  by_cases e : (n : Int) = z
  · rw [if_pos e, if_pos (by rw [e]; simp), List.findIdx_append, List.findIdx_eq_length_of_false (by
      intro x hx
      rw [beq_eq_false_iff_ne]
      rintro rfl
      rw [e] at hx
      exact hz hx)]
    simp [e]
  · rw [if_neg e]
    by_cases hm : (n : Int) ∈ pre
    · rw [if_pos hm, if_pos (List.mem_append_left _ hm), List.findIdx_append]
      have : pre.findIdx (· == (n : Int)) < pre.length := List.findIdx_lt_length_of_exists ⟨_, hm, by simp⟩
      rw [if_pos this]
    · rw [if_neg hm, if_neg (by simp [hm, e])]
theorem atf_pos {pre : List Int} {n : Nat} : 0 < atf pre n ↔ (n : Int) ∈ pre := by
  unfold atf
  split
  · rename_i h
    exact ⟨fun _ => h, fun _ => by omega⟩
  · rename_i h
    exact ⟨fun h' => absurd h' (by omega), fun h' => absurd h' h⟩
theorem atf_le (pre : List Int) (n : Nat) : 0 ≤ atf pre n ∧ atf pre n ≤ pre.length := by
  unfold atf
  split
  · rename_i h
    have : pre.findIdx (· == (n : Int)) < pre.length := List.findIdx_lt_length_of_exists ⟨_, h, by simp⟩
    omega
  · omega
def atL (N : Nat) (pre : List Int) : List Value := (List.range N).map fun n => .int .i64 (atf pre n)
theorem atL_length (N : Nat) (pre : List Int) : (atL N pre).length = N := by simp [atL]
theorem atL_nil (N : Nat) : atL N [] = List.replicate N (.int .i64 0) := by
  unfold atL
  apply List.ext_getElem?
  intro i
  by_cases h : i < N
  · simp [h, atf]
  · simp [h]
theorem atL_get {N : Nat} {pre : List Int} {n : Nat} (h : n < N) : (atL N pre)[n]? = some (.int .i64 (atf pre n)) := by
  unfold atL
  rw [List.getElem?_map, List.getElem?_range h]
  rfl
theorem atL_set {N : Nat} {pre : List Int} {n : Nat} (h : n < N) (hz : (n : Int) ∉ pre) : (atL N pre).set n (.int .i64 ((pre.length : Int) + 1)) = atL N (pre ++ [(n : Int)]) := by
  apply List.ext_getElem?
  intro i
  by_cases hi : i < N
  · rw [atL_get hi, atf_snoc hz]
    by_cases e : i = n
    · subst e
      rw [List.getElem?_set_self (by rw [atL_length]; exact h), if_pos rfl]
    · rw [List.getElem?_set_ne (fun h => e h.symm), atL_get hi, if_neg (by omega)]
  · rw [List.getElem?_eq_none (by rw [List.length_set, atL_length]; omega), List.getElem?_eq_none (by rw [atL_length]; omega)]

structure Pre (N : Nat) (pre : List Int) : Prop where
  lt : ∀ x ∈ pre, 0 ≤ x ∧ x < N
  nd : pre.Nodup
theorem Pre.nil (N : Nat) : Pre N [] := ⟨fun x h => (by cases h), List.nodup_nil⟩
theorem Pre.snoc {N : Nat} {pre : List Int} {n : Nat} (h : Pre N pre) (hn : n < N) (hm : (n : Int) ∉ pre) : Pre N (pre ++ [(n : Int)]) := by
  refine ⟨fun x hx => ?_, List.nodup_append.2 ⟨h.nd, by simp, fun a ha b hb => ?_⟩⟩
  · rcases List.mem_append.1 hx with h1 | h1
    · exact h.lt x h1
    · rw [List.mem_singleton] at h1
      omega
  · rw [List.mem_singleton] at hb
    rintro rfl
    rw [hb] at ha
    exact hm ha
theorem Pre.head {N : Nat} {a b : List Int} (h : Pre N (a ++ b)) : Pre N a := ⟨fun x hx => h.lt x (List.mem_append_left _ hx), (List.nodup_append.1 h.nd).1⟩
theorem Pre.last {N : Nat} {a : List Int} {z : Int} (h : Pre N (a ++ [z])) : 0 ≤ z ∧ z < N ∧ z ∉ a :=
  ⟨(h.lt z (by simp)).1, (h.lt z (by simp)).2, fun hm => (List.nodup_append.1 h.nd).2.2 z hm z (by simp) rfl⟩

theorem nodup_ints {ns : List Nat} : (ns.map fun n : Nat => (n : Int)).Nodup ↔ ns.Nodup := by
  unfold List.Nodup
  rw [List.pairwise_map]
  exact ⟨fun h => h.imp fun h e => h (by rw [e]), fun h => h.imp fun h e => h (by omega)⟩
def RightI (t : T) (zs : List Int) : Prop := ∃ ns : List Nat, zs = ns.map (fun n : Nat => (n : Int)) ∧ Right t ns
theorem RightI.len {t : T} {zs : List Int} (h : RightI t zs) : zs.length = t.size := by
  obtain ⟨ns, rfl, h⟩ := h
  rw [List.length_map, h.len]
theorem RightI.pre {t : T} {zs : List Int} (h : RightI t zs) : Pre t.size zs := by
  obtain ⟨ns, rfl, h⟩ := h
  refine ⟨fun x hx => ?_, nodup_ints.2 h.nd⟩
  obtain ⟨n, hn, rfl⟩ := List.mem_map.1 hx
  have := h.lt n hn
  omega
theorem atf_nats {ns : List Nat} {n : Nat} (h : n ∈ ns) : atf (ns.map fun n : Nat => (n : Int)) n = (pos ns n : Int) + 1 := by
  unfold atf pos
  rw [if_pos (List.mem_map.2 ⟨n, h, rfl⟩), List.findIdx_map]
  have : ((fun x : Int => x == (n : Int)) ∘ fun n : Nat => (n : Int)) = fun x : Nat => x == n := by
    funext x
    simp only [Function.comp]
    rw [Bool.eq_iff_iff, beq_iff_eq, beq_iff_eq]
    omega
  rw [this]
def Ups (t : T) (zs : List Int) (i j : Nat) : Prop := t.rk i < t.rk j → ¬ atf zs j < atf zs i
theorem RightI.ups {t : T} {zs : List Int} (h : RightI t zs) {i j : Nat} (hij : i < j) (hj : j < t.size) : Ups t zs i j := by
  obtain ⟨ns, rfl, h⟩ := h
  intro hr
  have := h.up i j hij hj hr
  rw [atf_nats (n := i) (h.all (by omega)), atf_nats (n := j) (h.all hj)]
  omega
theorem rightI_of {t : T} {zs : List Int} (hl : zs.length = t.size) (hp : Pre t.size zs) (hu : ∀ i j, i < j → j < t.size → Ups t zs i j) : RightI t zs := by
  obtain ⟨ns, rfl⟩ : ∃ ns : List Nat, zs = ns.map fun n : Nat => (n : Int) := by
    refine ⟨zs.map Int.toNat, ?_⟩
    rw [List.map_map]
    conv => lhs; rw [← List.map_id zs]
    refine List.map_congr_left fun x hx => ?_
    have := (hp.lt x hx).1
    simp only [Function.comp, id]
    omega
  have hnd : ns.Nodup := nodup_ints.1 hp.nd
  have hlt : ∀ x ∈ ns, x < t.size := fun x hx => by
    have := (hp.lt (x : Int) (List.mem_map.2 ⟨x, hx, rfl⟩)).2
    omega
  rw [List.length_map] at hl
  have hall : ∀ {x : Nat}, x < t.size → x ∈ ns := fun {x} hx => by
    refine Decidable.byContradiction fun hn => ?_
    have h1 := (List.nodup_cons.2 ⟨hn, hnd⟩).length_le_of_subset (l₂ := List.range t.size) (fun y hy => by
      rcases List.mem_cons.1 hy with rfl | hy
      · exact List.mem_range.2 hx
      · exact List.mem_range.2 (hlt y hy))
    simp at h1
    omega
  refine ⟨ns, rfl, hl, hlt, hnd, fun i j hij hj hr => ?_⟩
  have h1 := hu i j hij hj hr
  rw [atf_nats (n := j) (hall hj), atf_nats (n := i) (hall (by omega))] at h1
  have hne : pos ns i ≠ pos ns j := fun e => by
    obtain ⟨a, ha⟩ := List.getElem?_of_mem (hall (show i < t.size by omega))
    obtain ⟨b, hb⟩ := List.getElem?_of_mem (hall hj)
    rw [pos_eq hnd ha, pos_eq hnd hb] at e
    subst e
    rw [ha] at hb
    injection hb with hb
    omega
  omega
theorem right_nats {t : T} {ns : List Nat} (h : Right t ns) : RightI t (ns.map fun n : Nat => (n : Int)) := ⟨ns, rfl, h⟩
end Go.Proofs.Ytcoijmnnnfogdaa.Rc


namespace Go.Proofs.Ytcoijmnnnfogdaa
set_option linter.unusedVariables false
set_option linter.unusedSimpArgs false
set_option maxRecDepth 100000
open Go.ChangeShapes Go.WideShapes Go.ChangeAt Go.RowKit

/-- The cells of a slice's elements lie at its address, below block B. -/
def Cells (w : World) (B : Nat) (A : Option Addr) (vs : List Value) : Prop :=
  ∃ b o, (vs ≠ [] → A = some ⟨b, o, none⟩ ∧ b < B) ∧ ∀ j u, vs[j]? = some u → w.cell? ⟨b, o + j, none⟩ = some u

/-- A slice value of n elements, each of sz cells, that reads as the cells vs. -/
def SlV (w : World) (sz : Nat) (v : Value) (n : Nat) (vs : List Value) : Prop :=
  ∃ A c, v = .slice A n c ∧ n ≤ c ∧ c ≤ maxLen ∧ vs.length = n * sz ∧ Cells w w.heap.size A vs

/-- a slice's length, for a loop's measure -/
def slLen : Value → Nat | .slice _ n _ => n | _ => 0

def ints (k : IntKind) (xs : List Int) : List Value := xs.map (Value.int k)

def Wfs (k : IntKind) (xs : List Int) : Prop := ∀ x ∈ xs, (Lit.int k x).wf = true

def SlI (k : IntKind) (w : World) (v : Value) (xs : List Int) : Prop := SlV w 1 v xs.length (ints k xs) ∧ Wfs k xs

theorem ints_length (k : IntKind) (xs : List Int) : (ints k xs).length = xs.length := by simp [ints]
theorem ints_get (k : IntKind) (xs : List Int) (j : Nat) (h : j < xs.length) : (ints k xs)[j]? = some (.int k (xs.getD j 0)) := by
  simp [ints, List.getD, List.getElem?_eq_getElem h]

theorem Cells.nil (w : World) (B : Nat) (A : Option Addr) : Cells w B A [] := ⟨0, 0, fun h => absurd rfl h, fun j u h => by simp at h⟩

theorem Cells.keep {w w' : World} {B B' : Nat} {A : Option Addr} {vs : List Value} (h : Cells w B A vs) (hB : B ≤ B') (hk : ∀ p : Addr, p.block < B → w'.cell? p = w.cell? p) : Cells w' B' A vs := by
  obtain ⟨b, o, h1, h2⟩ := h
  refine ⟨b, o, fun hne => ⟨(h1 hne).1, Nat.lt_of_lt_of_le (h1 hne).2 hB⟩, fun j u hu => ?_⟩
  have hne : vs ≠ [] := by intro h0; subst h0; simp at hu
  exact (hk _ (h1 hne).2).trans (h2 j u hu)

theorem Cells.below {w w' : World} {B : Nat} {A : Option Addr} {vs : List Value} (h : Cells w B A vs) (hb : Below B w w') (hB : B ≤ w'.heap.size) : Cells w' w'.heap.size A vs :=
  h.keep hB fun _ hp => hb.cell hp

theorem SlV.below {w w' : World} {sz n : Nat} {v : Value} {vs : List Value} (h : SlV w sz v n vs) (hb : Below w.heap.size w w') : SlV w' sz v n vs := by
  obtain ⟨A, c, h1, h2, h3, h4, h5⟩ := h
  exact ⟨A, c, h1, h2, h3, h4, h5.below hb hb.size⟩

theorem SlI.below {w w' : World} {k : IntKind} {v : Value} {xs : List Int} (h : SlI k w v xs) (hb : Below w.heap.size w w') : SlI k w' v xs := ⟨h.1.below hb, h.2⟩

theorem SlV.alloc {w : World} {sz n : Nat} {v : Value} {vs : List Value} (h : SlV w sz v n vs) (o : Obj) : SlV (w.alloc o) sz v n vs := h.below ((Below.refl _ _).alloc (Nat.le_refl _) o)
theorem SlI.alloc {w : World} {k : IntKind} {v : Value} {xs : List Int} (h : SlI k w v xs) (o : Obj) : SlI k (w.alloc o) v xs := ⟨h.1.alloc o, h.2⟩

theorem SlV.step {w w' : World} {sz n : Nat} {v : Value} {vs : List Value} (hb : Below w.heap.size w w') (h : SlV w sz v n vs) : SlV w' sz v n vs := h.below hb
theorem SlI.step {w w' : World} {k : IntKind} {v : Value} {xs : List Int} (hb : Below w.heap.size w w') (h : SlI k w v xs) : SlI k w' v xs := h.below hb

theorem below_next {w w1 w2 : World} (hb : Below w1.heap.size w1 w2) (h : Below w.heap.size w w1) : Below w.heap.size w w2 := h.trans (hb.mono h.size)
theorem below_alloc {w w1 : World} (h : Below w.heap.size w w1) (o : Obj) : Below w.heap.size w (w1.alloc o) := h.alloc h.size o
theorem below_drew {w w1 : World} (h : Below w.heap.size w w1) : Below w.heap.size w w1.drew := h.drew

theorem SlV.nil (w : World) (sz : Nat) : SlV w sz (.slice none 0 0) 0 [] := ⟨none, 0, rfl, Nat.le_refl _, Nat.zero_le _, by simp, Cells.nil _ _ _⟩
theorem SlI.nil (k : IntKind) (w : World) : SlI k w (.slice none 0 0) [] := ⟨SlV.nil w 1, fun x h => by simp at h⟩

theorem Cells.of_own {w : World} {base : Nat} {e : TypeId} {size n c : Nat} {A : Option Addr} {xs : List Value} (h : w.ownsRow base e size (.slice A n c) n xs) : Cells w w.heap.size A xs := by
  rcases h.2 with ⟨h1, h2⟩ | ⟨g, cap, cur, hv, _, hg, _, _, _, _⟩
  · have : xs = [] := List.eq_nil_of_length_eq_zero (by rw [h.1, h2]; simp)
    subst this
    exact Cells.nil _ _ _
  · have hA : A = some ⟨g, 0, none⟩ := by injection hv
    subst hA
    refine ⟨g, 0, fun _ => ⟨rfl, (Array.getElem?_eq_some_iff.1 hg).1⟩, fun j u hu => ?_⟩
    have := h.cells (g := g) rfl j u hu
    rw [Nat.zero_add]
    rwa [show ((⟨g, 0, none⟩ : Addr).add j) = ⟨g, j, none⟩ from by unfold Addr.add; split <;> simp_all] at this

theorem SlV.of_own {w : World} {base : Nat} {e : TypeId} {size n : Nat} {v : Value} {xs : List Value} (h : w.ownsRow base e size v n xs) : SlV w size v n xs := by
  have h' := h
  rcases h'.2 with ⟨rfl, rfl⟩ | ⟨g, cap, cur, rfl, _, _, hle, hm, _, _⟩
  · exact ⟨none, 0, rfl, Nat.le_refl _, Nat.zero_le _, h'.1, Cells.of_own h⟩
  · exact ⟨_, cap, rfl, hle, hm, h'.1, Cells.of_own h⟩

theorem SlI.of_own {w : World} {base : Nat} {e : TypeId} {k : IntKind} {v : Value} {xs : List Int} (h : w.ownsRow base e 1 v xs.length (ints k xs)) (hw : Wfs k xs) : SlI k w v xs := ⟨SlV.of_own h, hw⟩

theorem below_drewN {B : Nat} {a w : World} (h : Below B a w) (n : Nat) : Below B a (w.drewN n) := ⟨h.os, h.tape, h.output, h.size, h.block⟩

theorem run_max_two {P : Program} (w : World) (ts : Array TypeId) (t : TypeId) (k k' : IntKind) (x y : Int) : (Builtin.max_ ts t #[.int k x, .int k' y]).run P w = .ok (.int k (max x y)) w := by
  have : (if y > x then y else x) = max x y := by split <;> omega
  rw [← this]
  rfl
theorem run_min_two {P : Program} (w : World) (ts : Array TypeId) (t : TypeId) (k k' : IntKind) (x y : Int) : (Builtin.min_ ts t #[.int k x, .int k' y]).run P w = .ok (.int k (min x y)) w := by
  have : (if y < x then y else x) = min x y := by split <;> omega
  rw [← this]
  rfl
attribute [go_sem ↓] run_max_two run_min_two

/-- one element's cell -/
theorem Cells.int {w : World} {B : Nat} {A : Option Addr} {xs : List Int} {k : IntKind} (h : Cells w B A (ints k xs)) {j : Nat} (hj : j < xs.length) :
    ∃ b o, A = some ⟨b, o, none⟩ ∧ b < B ∧ ∀ i, i < xs.length → w.cell? ⟨b, o + i, none⟩ = some (.int k (xs.getD i 0)) := by
  obtain ⟨b, o, h1, h2⟩ := h
  have hne : ints k xs ≠ [] := by
    intro h0
    have : xs.length = 0 := by simpa [ints] using congrArg List.length h0
    omega
  obtain ⟨h3, h4⟩ := h1 hne
  exact ⟨b, o, h3, h4, fun i hi => h2 i _ (ints_get k xs i hi)⟩

/-- one element, under a name of its own -/
theorem Cells.one {w : World} {B : Nat} {A : Option Addr} {xs : List Int} {k : IntKind} (h : Cells w B A (ints k xs)) {j : Nat} (hj : j < xs.length) :
    ∃ b o x, A = some ⟨b, o, none⟩ ∧ b < B ∧ Hid (xs[j]? = some x) ∧ w.cell? ⟨b, o + j, none⟩ = some (.int k x) := by
  obtain ⟨b, o, h1, h2, h3⟩ := h.int hj
  exact ⟨b, o, xs[j], h1, h2, List.getElem?_eq_getElem hj, by rw [h3 j hj]; simp [List.getD, List.getElem?_eq_getElem hj]⟩

theorem Wfs.get {k : IntKind} {xs : List Int} (h : Wfs k xs) {j : Nat} (hj : j < xs.length) : (Lit.int k (xs.getD j 0)).wf = true := by
  have e : xs.getD j 0 = xs[j] := by simp [List.getD, List.getElem?_eq_getElem hj]
  rw [e]
  exact h _ (List.getElem_mem hj)

theorem wf_u64 {x : Int} : (Lit.int .u64 x).wf = true ↔ 0 ≤ x ∧ x ≤ 18446744073709551615 := by
  simp [Lit.wf, IntKind.min, IntKind.max, IntKind.signed, IntKind.bits]
theorem wf_i64 {x : Int} : (Lit.int .i64 x).wf = true ↔ -9223372036854775808 ≤ x ∧ x ≤ 9223372036854775807 := by
  simp [Lit.wf, IntKind.min, IntKind.max, IntKind.signed, IntKind.bits]

theorem wrap_u64 (n : Int) : IntKind.u64.wrap n = n % 18446744073709551616 := by
  simp [IntKind.wrap, IntKind.bits, IntKind.signed]
theorem ints_set (k : IntKind) (xs : List Int) (i : Nat) (x : Int) : ints k (xs.set i x) = (ints k xs).set i (.int k x) := by simp [ints, List.map_set]
theorem Wfs.set {k : IntKind} {xs : List Int} (h : Wfs k xs) (i : Nat) {x : Int} (hx : (Lit.int k x).wf = true) : Wfs k (xs.set i x) := by
  intro y hy
  rcases List.mem_or_eq_of_mem_set hy with hy | rfl
  · exact h y hy
  · exact hx
theorem Wfs.append {k : IntKind} {xs ys : List Int} (h : Wfs k xs) (h' : Wfs k ys) : Wfs k (xs ++ ys) := by
  intro y hy
  rcases List.mem_append.1 hy with hy | hy
  · exact h y hy
  · exact h' y hy
theorem Wfs.replicate {k : IntKind} {x : Int} (hx : (Lit.int k x).wf = true) (n : Nat) : Wfs k (List.replicate n x) := by
  intro y hy
  rw [(List.mem_replicate.1 hy).2]
  exact hx

theorem ret_int {k : IntKind} {a b : Int} (h : a = b) : Ending.returned (.int k a) = .returned (.int k b) := by rw [h]
theorem ret_bool {a b : Bool} (h : a = b) : Ending.returned (.bool a) = .returned (.bool b) := by rw [h]

theorem Cells.take {w : World} {B : Nat} {A : Option Addr} {vs : List Value} (h : Cells w B A vs) (k : Nat) : Cells w B A (vs.take k) := by
  obtain ⟨b, o, h1, h2⟩ := h
  refine ⟨b, o, fun hne => h1 (fun h0 => hne (by rw [h0]; simp)), fun j u hu => h2 j u ?_⟩
  rw [List.getElem?_take] at hu
  split at hu
  · exact hu
  · cases hu

/-- the first k elements -/
theorem SlI.take {k : IntKind} {w : World} {A : Option Addr} {n c : Nat} {xs ys : List Int} (h : SlI k w (.slice A n c) xs) (j : Nat) (hy : ys = xs.take j) (hj : j ≤ xs.length) : SlI k w (.slice A ys.length c) ys := by
  obtain ⟨⟨A', c', he, h1, h2, h3, h4⟩, h5⟩ := h
  injection he with e1 e2 e3
  subst e1 e3
  have hl : ys.length ≤ xs.length := by rw [hy]; simp; omega
  refine ⟨⟨A, c, rfl, by omega, h2, by simp [ints], ?_⟩, fun x hx => h5 x ?_⟩
  · have : ints k ys = (ints k xs).take j := by rw [hy]; simp [ints, List.map_take]
    rw [this]
    exact h4.take j
  · rw [hy] at hx
    exact List.mem_of_mem_take hx

/-- 'make([]T, n)' -/
theorem wp_make {P : Program} (w : World) {ops : Array Oper} {rest : List Oper} {o : Oper} {a : Act} {Q : Exit → Act → World → Prop}
    (t e : TypeId) (z : Value) (bytes : Nat) (n : Nat) (ht : P.underlying t = some (.slice e)) (hinfo : (P.info? e).map (fun i => (i.zero, i.size, i.bytes)) = some (some z, 1, bytes)) (hz : z.cells = #[z])
    {L C : Int} (hL : L = (n : Int)) (hC : C = (n : Int)) (b2 : bytes * n ≤ 281474976710656) (b3 : n ≤ 9223372036854775807)
    {l c : Operand} {kl kc : IntKind} (hg : o.guard = none) (hop : o.op = Op.makeSlice t l c) (hl : a.eval l = .int kl L) (hc : a.eval c = .int kc C)
    (hK : ∀ w', w'.ownsRow w.heap.size e 1 (.slice (some ⟨w.heap.size, 0, none⟩) n n) n (List.replicate n z) → Below w.heap.size w w' → w'.heap.size = w.heap.size + 1 → wpList P ops Q rest (a.put o.dst (.slice (some ⟨w.heap.size, 0, none⟩) n n)) w') :
    wpList P ops Q (o :: rest) a w := by
  obtain ⟨i, hi, hz0, hz1, hz2⟩ := info_parts hinfo
  refine wpList_plain hg fun K hK' => ?_
  subst hL
  subst hC
  have h63' : (n : Int) ≤ 9223372036854775807 := by omega
  have hb' : (i.bytes : Int) * (n : Int) ≤ 281474976710656 := by
    have h : ((i.bytes * n : Nat) : Int) ≤ 281474976710656 := by rw [hz2]; omega
    rwa [Int.natCast_mul] at h
  have hr := run_make (P := P) w t e i z ht hi hz0 kl kc n n (by omega) (Int.le_refl _) hb' h63'
  simp only [Int.toNat_natCast, hz1, hz, Nat.mul_one] at hr
  unfold Oper.wp
  simp [execOp, hop, hl, hc, hr, Result.andThen]
  refine hK' _ _ (hK _ ?_ ((Below.refl _ _).alloc (Nat.le_refl _) _) (by simp))
  have := World.ownsRow_lit (e := e) (size := 1) (base := w.heap.size) w (madeCells #[z] n) n (Nat.le_refl _) (by unfold maxLen; omega) (by simp [madeCells])
  rwa [toList_madeCells_one] at this

theorem Cells.new (w : World) (vs : List Value) (e : TypeId) : Cells (w.alloc (.cells vs.toArray e)) (w.heap.size + 1) (some ⟨w.heap.size, 0, none⟩) vs := by
  refine ⟨w.heap.size, 0, fun _ => ⟨rfl, by omega⟩, fun j u hu => ?_⟩
  rw [cell_of_row _ _ _ _ _ _ (heap_alloc_new w (.cells vs.toArray e))]
  simpa using hu

theorem run_append_nil_src {P : Program} (w : World) (base : Nat) (t ty e : TypeId) (i : TypeInfo) (size : Nat) (ht : P.underlying t = some (.slice e)) (hi : P.info? e = some i)
    (v : Value) (n : Nat) (xs : List Value) (hown : w.ownsRow base e size v n xs) (c : Nat) : (Builtin.append_ #[t, t] ty #[v, .slice none 0 c]).run P w = .ok v w := by
  rcases hown.2 with ⟨rfl, rfl⟩ | ⟨g, cap, cur, rfl, _, _, hnc, _⟩
  · simp [Builtin.append_, run_underlying ht, sizeOf, typeInfo, hi, Builtin.lenOf, Builtin.firstCells]
  · simp [Builtin.append_, run_underlying ht, sizeOf, typeInfo, hi, Builtin.lenOf, Builtin.firstCells, hnc, storeCells]

/-- 'append(v, src...)', v nil or the call's own, src whatever -/
theorem run_append {P : Program} (w : World) (base : Nat) (t ty e : TypeId) (z : Value) (size bytes : Nat) (ht : P.underlying t = some (.slice e)) (hinfo : (P.info? e).map (fun i => (i.zero, i.size, i.bytes)) = some (some z, size, bytes)) (hz : z.cells.size = size) (hsz : 0 < size)
    (v : Value) (n : Nat) (xs : List Value) (hown : w.ownsRow base e size v n xs) (B : Nat) (A : Option Addr) (m c : Nat) (news : List Value) (hlen : news.length = m * size) (hcs : Cells w B A news) (h1 : ∀ u ∈ news, u.oneCell' = true)
    (h63 : n + m ≤ maxLen) (hbytes : (n + m) * bytes ≤ 140737488355328) (hbase : base ≤ w.heap.size) :
    ∃ v' w', (Builtin.append_ #[t, t] ty #[v, .slice A m c]).run P w = .ok v' w' ∧ w'.ownsRow base e size v' (n + m) (xs ++ news) ∧ w.grownBy w' v.ownBlock ∧ (v'.ownBlock = v.ownBlock ∨ v'.ownBlock = some w.heap.size) := by
  obtain ⟨i, hi, hz0, hz1, hz2⟩ := info_parts hinfo
  by_cases hm : m = 0
  · subst hm
    have hn : news = [] := List.eq_nil_of_length_eq_zero (by simpa using hlen)
    subst hn
    rcases A with _ | ad
    · exact ⟨v, w, run_append_nil_src w base t ty e i size ht hi v n xs hown c, by simpa using hown, World.grownBy.refl w _, .inl rfl⟩
    · obtain ⟨v', w', hrun, h2, h3, _, h5⟩ := run_append_own_at (P := P) w base t ty e i z size bytes ht hi hz0 hz1 hz2 hz hsz v n xs hown ad 0 c [] hlen (by simp) h1 h63 hbytes hbase
      exact ⟨v', w', hrun, h2, h3, h5⟩
  · obtain ⟨b, o, hA, hcell⟩ := hcs
    have hne : news ≠ [] := by
      intro h0
      rw [h0] at hlen
      have : 0 < m * size := Nat.mul_pos (by omega) hsz
      simp at hlen
      omega
    obtain ⟨rfl, _⟩ := hA hne
    obtain ⟨v', w', hrun, h2, h3, _, h5⟩ := run_append_own_at (P := P) w base t ty e i z size bytes ht hi hz0 hz1 hz2 hz hsz v n xs hown ⟨b, o, none⟩ m c news hlen (fun j u hu => by rw [Addr.add_lit]; exact hcell j u hu) h1 h63 hbytes hbase
    exact ⟨v', w', hrun, h2, h3, h5⟩

theorem own_ge {w : World} {base : Nat} {e : TypeId} {size : Nat} {v : Value} {n : Nat} {xs : List Value} (h : w.ownsRow base e size v n xs) : ∀ k, v.ownBlock = some k → base ≤ k := fun k hk => (h.lt k hk).1

theorem own_slice {w : World} {base : Nat} {e : TypeId} {size : Nat} {v : Value} {n : Nat} {xs : List Value} (h : w.ownsRow base e size v n xs) : ∃ A c, v = .slice A n c ∧ n ≤ c ∧ c ≤ maxLen := by
  rcases h.2 with ⟨rfl, rfl⟩ | ⟨g, cap, cur, rfl, _, _, hle, hm, _, _⟩
  · exact ⟨none, 0, rfl, Nat.le_refl _, Nat.zero_le _⟩
  · exact ⟨_, cap, rfl, hle, hm⟩
theorem own_addr {w : World} {base : Nat} {e : TypeId} {size : Nat} {v : Value} {n : Nat} {xs : List Value} (h : w.ownsRow base e size v n xs) (hn : 0 < n) : ∃ g c, v = .slice (some ⟨g, 0, none⟩) n c ∧ n ≤ c ∧ c ≤ maxLen ∧ base ≤ g ∧ g < w.heap.size := by
  rcases h.2 with ⟨rfl, rfl⟩ | ⟨g, cap, cur, rfl, hb, hg, hle, hm, _, _⟩
  · omega
  · exact ⟨g, cap, rfl, hle, hm, hb, (Array.getElem?_eq_some_iff.1 hg).1⟩

theorem own_len {w : World} {base : Nat} {e : TypeId} {size : Nat} {v : Value} {n : Nat} {xs : List Value} (h : w.ownsRow base e size v n xs) : slLen v = n := by
  obtain ⟨A, c, rfl, _, _⟩ := own_slice h
  rfl

theorem wp_append {P : Program} (w : World) {ops : Array Oper} {rest : List Oper} {o : Oper} {a : Act} {Q : Exit → Act → World → Prop} (s x : Operand)
    (base t e : TypeId) (z : Value) (size bytes : Nat) (ht : P.underlying t = some (.slice e)) (hinfo : (P.info? e).map (fun i => (i.zero, i.size, i.bytes)) = some (some z, size, bytes)) (hz : z.cells.size = size) (hsz : 0 < size)
    {v : Value} {n : Nat} {xs : List Value} (hown : w.ownsRow base e size v n xs) {B : Nat} {A : Option Addr} {m c : Nat} {news : List Value} (hcs : Cells w B A news) (hlen : news.length = m * size) (h1 : ∀ u ∈ news, u.oneCell' = true)
    (h63 : n + m ≤ maxLen) (hbytes : (n + m) * bytes ≤ 140737488355328) (hbase : base ≤ w.heap.size)
    (hgd : o.guard = none) (ho : o.op = .call { callee := .builtin .append, args := #[s, x], argTypes := #[t, t] }) (hs : a.eval s = v) (hx : a.eval x = .slice A m c)
    (h : ∀ v' w', w'.ownsRow base e size v' (n + m) (xs ++ news) → w.grownBy w' v.ownBlock → (v'.ownBlock = v.ownBlock ∨ v'.ownBlock = some w.heap.size) → Below base w w' → wpList P ops Q rest (a.put o.dst v') w') : wpList P ops Q (o :: rest) a w := by
  refine wpList_plain hgd fun _ hK => ?_
  obtain ⟨v', w', hrun, h2, h3, h4⟩ := run_append (P := P) w base t o.type e z size bytes ht hinfo hz hsz v n xs hown B A m c news hlen hcs h1 h63 hbytes hbase
  unfold Oper.wp execOp
  simp only [ho, resolve, invoke, builtin, Sem.run_bind, Sem.run_pure, Result.andThen_ok, List.map_toArray, List.map_cons, List.map_nil, hs, hx, hrun]
  exact hK _ _ (h v' w' h2 h3 h4 ((Below.refl _ _).grown h3 hbase (own_ge hown)))

/-- 'append(v, x)': the one element lies in a block of its own -/
theorem wp_push {P : Program} (w : World) {ops : Array Oper} {rest : List Oper} {o : Oper} {a : Act} {Q : Exit → Act → World → Prop} (s x : Operand)
    (base t e : TypeId) (z : Value) (size bytes : Nat) (ht : P.underlying t = some (.slice e)) (hinfo : (P.info? e).map (fun i => (i.zero, i.size, i.bytes)) = some (some z, size, bytes)) (hz : z.cells.size = size) (hsz : 0 < size)
    {v : Value} {n : Nat} {xs : List Value} (hown : w.ownsRow base e size v n xs) {c : Nat} (news : List Value) (hlen : news.length = 1 * size) (h1 : ∀ u ∈ news, u.oneCell' = true)
    (h63 : n + 1 ≤ maxLen) (hbytes : (n + 1) * bytes ≤ 140737488355328) (hbase : base ≤ w.heap.size)
    (hgd : o.guard = none) (ho : o.op = .call { callee := .builtin .append, args := #[s, x], argTypes := #[t, t] }) (hs : a.eval s = v) (hx : a.eval x = .slice (some ⟨w.heap.size, 0, none⟩) 1 c)
    (h : ∀ v' w', w'.ownsRow base e size v' (n + 1) (xs ++ news) → w.grownBy w' v.ownBlock → (v'.ownBlock = v.ownBlock ∨ v'.ownBlock = some (w.heap.size + 1)) → Below base w w' → wpList P ops Q rest (a.put o.dst v') w') : wpList P ops Q (o :: rest) a (w.alloc (.cells news.toArray e)) := by
  refine wp_append _ s x base t e z size bytes ht hinfo hz hsz (hown.alloc _) (Cells.new w news e) hlen h1 h63 hbytes (Nat.le_trans hbase (by simp)) hgd ho hs hx fun v' w' h2 h3 h4 h5 => ?_
  have hg : w.grownBy w' v.ownBlock :=
    ⟨h3.os, h3.tape, h3.output, Nat.le_trans (by simp) h3.size, fun k hk hne => (h3.block k (by simp; omega) hne).trans (Below.heap_alloc w _ k hk)⟩
  exact h v' w' h2 hg (by simpa using h4) (((Below.refl _ _).alloc hbase _).trans h5)

theorem flat_length {α : Type} (f : α → List Value) (n : Nat) (hf : ∀ a, (f a).length = n) (l : List α) : (l.flatMap f).length = l.length * n := by
  induction l with
  | nil => simp
  | cons a l ih => rw [List.flatMap_cons, List.length_append, hf, ih, List.length_cons, Nat.add_mul]; omega

theorem flat_get {α : Type} (f : α → List Value) (n : Nat) (hf : ∀ a, (f a).length = n) (l : List α) (k j : Nat) (x : α) (hx : l[k]? = some x) (hj : j < n) : (l.flatMap f)[k * n + j]? = (f x)[j]? := by
  induction l generalizing k with
  | nil => simp at hx
  | cons a l ih =>
    rw [List.flatMap_cons]
    rcases k with _ | k
    · simp at hx
      subst hx
      rw [Nat.zero_mul, Nat.zero_add, List.getElem?_append_left (by rw [hf]; exact hj)]
    · have e : (k + 1) * n + j = (f a).length + (k * n + j) := by rw [hf, Nat.add_mul]; omega
      rw [e, List.getElem?_append_right (by omega), Nat.add_sub_cancel_left]
      exact ih k (by simpa using hx)

/-- the address of a slice whose cells are known, and its cells one by one -/
theorem Cells.at_ {w : World} {B : Nat} {A : Option Addr} {vs : List Value} (h : Cells w B A vs) (hne : vs ≠ []) : ∃ b o, A = some ⟨b, o, none⟩ ∧ b < B ∧ ∀ j u, vs[j]? = some u → w.cell? ⟨b, o + j, none⟩ = some u := by
  obtain ⟨b, o, h1, h2⟩ := h
  exact ⟨b, o, (h1 hne).1, (h1 hne).2, h2⟩

theorem own_base {w : World} {base base' : Nat} {e : TypeId} {size : Nat} {v : Value} {n : Nat} {xs : List Value} (h : w.ownsRow base e size v n xs) (hb : base' ≤ base) : w.ownsRow base' e size v n xs := by
  refine ⟨h.1, ?_⟩
  rcases h.2 with h' | ⟨g, cap, cur, h1, h2, h3⟩
  · exact .inl h'
  · exact .inr ⟨g, cap, cur, h1, by omega, h3⟩

/-- an argument that is a slice of integers -/
theorem open_sl {H : Type} {enc : TypeId × Value → H} {P : Program} {w : World} {t e : TypeId} {k : IntKind} {v : Value} {d : DataW H} {ps : List MemPlace} (ht : P.underlying t = some (.slice e)) (he : P.underlying e = some (.int k)) (hc : P.cellsOf e = 1)
    (hv : ∃ a len cap, v = .slice a len cap)
    (h : DataW.Trod enc P w 0 (fun _ => true) true t v d ps) (hlt : ∀ x ∈ ps, x.block < w.heap.size) :
    ∃ xs : List Int, SlI k w v xs ∧ ((d = .nil ∧ xs = []) ∨ ∃ sp : List (DataW H), d = .slice (lits k xs) sp) := by
  obtain ⟨a0, len, cap, rfl⟩ := hv
  obtain ⟨fuel, hf⟩ := h
  rcases open_ints ht he hc hf with ⟨hcs, hx⟩ | ⟨a, len', cap', zs, hcs, _, hl, hm, hz, hx, hcell, hwz⟩
  · simp [Value.cells] at hcs
    obtain ⟨rfl, rfl, rfl⟩ := hcs
    simp only [Prod.mk.injEq] at hx
    exact ⟨[], SlI.nil _ _, .inl ⟨hx.1, rfl⟩⟩
  · simp [Value.cells] at hcs
    obtain ⟨rfl, rfl, rfl⟩ := hcs
    simp only [Prod.mk.injEq] at hx
    simp only [if_true] at hz
    have htl : (zs.take len).length = len := by simp; omega
    refine ⟨zs.take len, ⟨⟨some a, cap, by rw [htl], by omega, hm, by simp [ints], ?_⟩, fun x hx => hwz x (List.mem_of_mem_take hx)⟩, .inr ⟨_, hx.1⟩⟩
    by_cases h0 : zs.take len = []
    · rw [h0]
      exact Cells.nil _ _ _
    · have hl0 : 0 < len := by
        rcases Nat.eq_zero_or_pos len with h | h
        · subst h; simp at h0
        · exact h
      obtain ⟨b, off, spot⟩ := a
      have hspot : spot = none := by simpa [Addr.add] using World.cell?_spot (hcell 0 (by omega))
      subst hspot
      refine ⟨b, off, fun _ => ⟨rfl, hlt (.cell b off) (by rw [hx.2]; exact MemPlace.mem_row.2 ⟨0, by omega, by simp⟩)⟩, fun j u hu => ?_⟩
      have hj : j < len := by
        have := (List.getElem?_eq_some_iff.1 hu).1
        simp [ints] at this
        omega
      have := hcell j (by omega)
      rw [add_plain] at this
      rw [this, ← hu]
      simp [ints, List.getD, hj, List.getElem?_eq_getElem (show j < zs.length by omega)]

/-- all arguments read behind the call as before it -/
theorem trodAll_keep {H : Type} {enc : TypeId × Value → H} {P : Program} (hl : laidOutB P = true) {W W' : World} (hb : Below W.heap.size W W') :
    ∀ (ts : List TypeId) (vs : List Value) (ds : List (DataW H)) (ps : List MemPlace), (∀ t ∈ ts, P.readableRec t = true ∧ t < P.types.size) → (∀ x ∈ ps, x.block < W.heap.size) →
      DataW.TrodAll enc P W 0 (fun _ => true) true ts vs ds ps → DataW.TrodAll enc P W' 0 (fun b => decide (b < W.heap.size)) true ts vs ds ps
  | [], [], [], _, _, _, h => h
  | t :: ts, v :: vs, d :: ds, ps, hts, hlt, h => by
    obtain ⟨p, q, h1, h2, rfl⟩ := h
    exact ⟨p, q, Below.trod hl (hts t (by simp)).1 (hts t (by simp)).2 h1 hb (fun x hx => hlt x (by simp [hx])),
      trodAll_keep hl hb ts vs ds q (fun t' h' => hts t' (by simp [h'])) (fun x hx => hlt x (by simp [hx])) h2, rfl⟩
  | [], _ :: _, _, _, _, _, h => h.elim
  | [], [], _ :: _, _, _, _, h => h.elim
  | _ :: _, [], _, _, _, _, h => h.elim
  | _ :: _, _ :: _, [], _, _, _, h => h.elim

/-- THE END OF A LAW: it returned true, and nothing that was there has turned. -/
theorem post_true {H : Type} {enc : TypeId × Value → H} {P : Program} {f : Func} {s : ChangeSpec} {W W' : World} {args : Array Value} {ds gs : List (DataW H)} {before : List MemPlace} {tb : TypeId}
    (hl : laidOutB P = true) (hres : f.resultTypes = #[tb]) (htb : P.underlying tb = some .bool) (hts : ∀ t ∈ f.params.toList, P.readableRec t = true ∧ t < P.types.size) (hvars : s.vars = [])
    (hfn : s.fn H ds = { results := [.lit (.bool true)], args := ds })
    (hW : DataW.Whole enc P f.params.toList s.vars false W args.toList ds gs before) (hb : Below W.heap.size W W') :
    s.post enc P f false true false false W args (.bool true) W' := by
  have hW' := hW
  obtain ⟨p, q, hA, hV, rfl, _, _⟩ := hW
  have hgs : gs = [] ∧ q = [] := by
    rw [hvars] at hV
    cases gs with
    | nil => exact ⟨rfl, hV⟩
    | cons g gs => exact hV.elim
  obtain ⟨rfl, rfl⟩ := hgs
  have e : s.fn H (ds ++ []) = { results := [.lit (.bool true)], args := ds } := by rw [List.append_nil]; exact hfn
  refine ⟨ds, [], _, [], p, [], hW', ?_, ?_, ?_, hb.frame _, fun h => by cases h⟩
  · rw [e, hres]
    exact trodAll_mk1 (shut_bool htb true)
  · rw [e]
    exact trodAll_keep hl hb _ _ _ _ hts (fun x hx => by simpa using hW'.lt x (by simp [hx])) hA
  · rw [e, hvars]
    rfl

end Go.Proofs.Ytcoijmnnnfogdaa


namespace Go.Proofs.Ytcoijmnnnfogdaa
set_option linter.unusedVariables false
set_option linter.unusedSimpArgs false
set_option maxRecDepth 100000
open Go.ChangeShapes Go.WideShapes Go.ChangeAt Go.RowKit Go.Deep

/-- every field is an int of one cell, and they lie one behind the other -/
def intFields (P : Program) (fs : Array Field) : Bool :=
  (List.range fs.size).all fun j => match fs[j]? with
    | some f => f.offset == j && P.cellsOf f.type == 1 && (match P.underlying f.type with | some (.int .i64) => true | _ => false)
    | none => false

theorem intFields_at {P : Program} {fs : Array Field} (h : intFields P fs = true) {j : Nat} (hj : j < fs.size) : ∃ f, fs[j]? = some f ∧ f.offset = j ∧ P.cellsOf f.type = 1 ∧ P.underlying f.type = some (.int .i64) := by
  have := List.all_eq_true.1 h j (by simpa using hj)
  rw [Array.getElem?_eq_getElem hj] at this
  simp only [Bool.and_eq_true, beq_iff_eq] at this
  refine ⟨fs[j], Array.getElem?_eq_getElem hj, this.1.1, this.1.2, ?_⟩
  have h3 := this.2
  split at h3
  · assumption
  · cases h3

def irow (r : List Int) : List Value := ints .i64 r

section
variable {H : Type} {enc : TypeId × Value → H} {P : Program} {w : World}

/-- one struct's cells are integers -/
theorem struct_ints {e : TypeId} {fs : Array Field} {n fuel : Nat} {cs : List Value} {x : DataW H × List MemPlace} (he : P.underlying e = some (.struct fs)) (hn : fs.size = n) (hC : P.cellsOf e = n) (hf : intFields P fs = true)
    (h : DataW.trod enc P w 0 (fun _ => true) true fuel e cs = some x) : ∃ r : List Int, r.length = n ∧ cs = irow r ∧ Wfs .i64 r := by
  obtain ⟨xs, m, _, _, hl, hxl, hfs⟩ := DataW.trod_struct he h
  rw [hC] at hl
  have each : ∀ j, j < n → ∃ k : Int, cs[j]? = some (.int .i64 k) ∧ (Lit.int .i64 k).wf = true := by
    intro j hj
    obtain ⟨f, hfj, ho, hc, hu⟩ := intFields_at hf (j := j) (by omega)
    have h1 := hfs j f hfj
    rw [ho, hc] at h1
    have hxj : xs[j]? = some xs[j] := List.getElem?_eq_getElem (by omega)
    rw [hxj] at h1
    obtain ⟨k, hk, _, hw⟩ := DataW.trod_int hu h1
    refine ⟨k, ?_, hw⟩
    have := congrArg (fun l => l[0]?) hk
    simp only [List.getElem?_cons_zero] at this
    rw [← this, List.getElem?_take, if_pos (by decide), List.getElem?_drop, Nat.add_zero]
  refine ⟨(List.range n).map fun j => intOf (cs.getD j undef), by simp, ?_, ?_⟩
  · apply List.ext_getElem?
    intro j
    by_cases hj : j < n
    · obtain ⟨k, hk, _⟩ := each j hj
      rw [hk]
      simp [irow, ints, hj, hk, List.getD, intOf]
    · rw [List.getElem?_eq_none (by omega), List.getElem?_eq_none (by simp [irow, ints]; omega)]
  · intro y hy
    obtain ⟨j, hj, rfl⟩ := List.mem_map.1 hy
    obtain ⟨k, hk, hw⟩ := each j (by simpa using hj)
    simp only [List.getD, hk, Option.getD_some, intOf]
    exact hw

/-- an argument that is a slice of structs of n integers -/
theorem open_rows {t e : TypeId} {fs : Array Field} {n : Nat} {v : Value} {d : DataW H} {ps : List MemPlace} (ht : P.underlying t = some (.slice e)) (he : P.underlying e = some (.struct fs)) (hn : fs.size = n) (hn0 : 0 < n) (hC : P.cellsOf e = n) (hf : intFields P fs = true)
    (hv : ∃ a len cap, v = .slice a len cap) (h : DataW.Trod enc P w 0 (fun _ => true) true t v d ps) (hlt : ∀ x ∈ ps, x.block < w.heap.size) :
    ∃ rs : List (List Int), (∀ r ∈ rs, r.length = n ∧ Wfs .i64 r) ∧ SlV w n v rs.length (rs.flatMap irow) ∧ ((d = .nil ∧ rs = []) ∨ ∃ (el sp : List (DataW H)), d = .slice el sp ∧ el.length = rs.length) := by
  obtain ⟨a0, len, cap, rfl⟩ := hv
  obtain ⟨fuel, hfu⟩ := h
  rcases open_slice ht hfu with ⟨hcs, hx⟩ | ⟨a, len', cap', m, k, D, Pl, hcs, _, hl, hm, hmm, hx, hi⟩
  · simp [Value.cells] at hcs
    obtain ⟨rfl, rfl, rfl⟩ := hcs
    simp only [Prod.mk.injEq] at hx
    exact ⟨[], by simp, SlV.nil _ _, .inl ⟨hx.1, rfl⟩⟩
  · simp [Value.cells] at hcs
    obtain ⟨rfl, rfl, rfl⟩ := hcs
    simp only [Prod.mk.injEq] at hx
    simp only [if_true] at hmm
    rw [hC] at hi hx
    have each : ∀ i, i < len → ∃ r : List Int, (r.length = n ∧ Wfs .i64 r) ∧ w.cells? 0 (a.add (i * n)) n = some (irow r) := by
      intro i hil
      obtain ⟨cs', hc, htr⟩ := hi i (by omega)
      obtain ⟨r, hr, hcr, hw⟩ := struct_ints he hn hC hf htr
      exact ⟨r, ⟨hr, hw⟩, by rw [hc, hcr]⟩
    obtain ⟨f, hff⟩ := choose_lt each
    have hlen : ∀ r ∈ (List.range len).map f, r.length = n ∧ Wfs .i64 r := by
      intro r hr
      obtain ⟨i, hi', rfl⟩ := List.mem_map.1 hr
      exact (hff i (by simpa using hi')).1
    have hflat : (((List.range len).map f).flatMap irow).length = len * n := by
      have : ∀ l : List (List Int), (∀ r ∈ l, r.length = n) → (l.flatMap irow).length = l.length * n := by
        intro l
        induction l with
        | nil => simp
        | cons r l ih =>
          intro hl'
          rw [List.flatMap_cons, List.length_append, ih (fun x hx => hl' x (by simp [hx])), List.length_cons, Nat.add_mul]
          have := hl' r (by simp)
          simp [irow, ints, this]
          omega
      rw [this _ fun r hr => (hlen r hr).1]
      simp
    refine ⟨(List.range len).map f, hlen, ⟨some a, cap, by simp, by simpa using hl, hm, by simpa using hflat, ?_⟩, .inr ⟨_, _, hx.1, by simp⟩⟩
    by_cases h0 : len = 0
    · subst h0
      exact Cells.nil _ _ _
    · obtain ⟨b, off, spot⟩ := a
      have hcell : ∀ i, i < len → ∀ j u, (irow (f i))[j]? = some u → w.cell? ((⟨b, off, spot⟩ : Addr).add (i * n + j)) = some u := by
        intro i hil j u hu
        have hj : j < n := by
          have := (List.getElem?_eq_some_iff.1 hu).1
          have h1 := (hff i hil).1.1
          simp [irow, ints, h1] at this
          exact this
        obtain ⟨_, _, hat⟩ := World.cells?_some (hff i hil).2
        have := hat j hj
        rw [Go.Deep.add_add] at this
        rw [this, hu]
      have hspot : spot = none := by
        have hr := (hff 0 (by omega)).1.1
        have hex : ∃ u, (irow (f 0))[0]? = some u := ⟨_, List.getElem?_eq_getElem (by simp [irow, ints]; omega)⟩
        obtain ⟨u, hu⟩ := hex
        have := hcell 0 (by omega) 0 u hu
        simpa [Addr.add] using World.cell?_spot this
      subst hspot
      refine ⟨b, off, fun _ => ⟨rfl, hlt (.cell b off) (by
        rw [hx.2]
        refine List.mem_append_left _ (MemPlace.mem_row.2 ⟨0, ?_, by simp⟩)
        exact Nat.mul_pos (by omega) hn0)⟩, fun j u hu => ?_⟩
      have hjl : j < len * n := by
        have := (List.getElem?_eq_some_iff.1 hu).1
        omega
      have hq : j / n < len := Nat.div_lt_of_lt_mul (by rw [Nat.mul_comm]; exact hjl)
      have hr : j % n < n := Nat.mod_lt _ hn0
      have hj : j = j / n * n + j % n := by have := Nat.div_add_mod j n; rw [Nat.mul_comm] at this; omega
      have hget : ((List.range len).map f)[j / n]? = some (f (j / n)) := by simp [hq]
      have key : ∀ (l : List (List Int)), (∀ r ∈ l, r.length = n) → ∀ (q s : Nat) (r : List Int), l[q]? = some r → s < n → (l.flatMap irow)[q * n + s]? = (irow r)[s]? := by
        intro l
        induction l with
        | nil => intro _ q s r h'; simp at h'
        | cons r0 l ih =>
          intro hl' q s r h' hs
          have h00 : (irow r0).length = n := by simp [irow, ints, hl' r0 (by simp)]
          rw [List.flatMap_cons]
          rcases q with _ | q
          · simp at h'
            subst h'
            rw [Nat.zero_mul, Nat.zero_add, List.getElem?_append_left (by omega)]
          · have e : (q + 1) * n + s = (irow r0).length + (q * n + s) := by rw [h00, Nat.add_mul]; omega
            rw [e, List.getElem?_append_right (by omega), Nat.add_sub_cancel_left]
            exact ih (fun x hx => hl' x (by simp [hx])) q s r (by simpa using h') hs
      rw [hj, key _ (fun r hr => (hlen r hr).1) _ _ _ hget hr] at hu
      have := hcell _ hq _ _ hu
      rw [← hj, Addr.add_lit] at this
      exact this
end
end Go.Proofs.Ytcoijmnnnfogdaa


namespace Go.Proofs.Ytcoijmnnnfogdaa
set_option linter.unusedVariables false
set_option linter.unusedSimpArgs false
set_option maxRecDepth 100000
open Go

def fieldsOf (P : Program) (t : TypeId) : Array Field := match P.underlying t with | some (.struct fs) => fs | _ => #[]
end Go.Proofs.Ytcoijmnnnfogdaa


namespace Go.Proofs.Ytcoijmnnnfogdaa
set_option linter.unusedVariables false
set_option linter.unusedSimpArgs false
set_option maxRecDepth 100000
open Go.ChangeShapes Go.WideShapes Go.ChangeAt Go.RowKit

def Blk (w : World) (g : Nat) (t : TypeId) (cs : List Value) : Prop := w.heap[g]? = some (.cells cs.toArray t (0, 0))

section
variable {w w' : World} {g : Nat} {t : TypeId} {cs : List Value}
theorem Blk.lt (h : Blk w g t cs) : g < w.heap.size := (Array.getElem?_eq_some_iff.1 h).1
theorem Blk.cell (h : Blk w g t cs) (i : Nat) : w.cell? ⟨g, i, none⟩ = cs[i]? := by
  rw [cell_of_row w g i cs.toArray t (0, 0) h]; simp
theorem Blk.frozen (h : Blk w g t cs) (i : Nat) : w.frozen? ⟨g, i, none⟩ = false := frozen_of_row w g i _ t h
theorem Blk.new (w : World) (t : TypeId) (cs : List Value) : Blk (w.alloc (.cells cs.toArray t)) w.heap.size t cs := heap_alloc_new w _
theorem Blk.alloc (h : Blk w g t cs) (o : Obj) : Blk (w.alloc o) g t cs := (Below.heap_alloc w o g h.lt).trans h
theorem Blk.below (h : Blk w g t cs) (hb : Below w.heap.size w w') : Blk w' g t cs := (hb.block g h.lt).trans h
theorem Blk.set_ (h : Blk w g t cs) (i : Nat) (u : Value) : Blk (w.setCell ⟨g, i, none⟩ u) g t (cs.set i u) := by
  have := heap_setCell_same w g i cs.toArray t u h
  unfold Blk
  rw [this]
  simp
theorem Blk.far (h : Blk w g t cs) {p : Addr} (hp : g ≠ p.block) (u : Value) : Blk (w.setCell p u) g t cs := (Below.heap_setCell w p u g hp).trans h
theorem Blk.row (h : Blk w g t cs) (ds : List Value) : Blk (w.setRow g ds.toArray) g t ds := setRow_heap w g cs.toArray _ t _ h
theorem Blk.farRow (h : Blk w g t cs) {k : Nat} (hk : g ≠ k) (ds : Array Value) : Blk (w.setRow k ds) g t cs := (setRow_other w k g ds hk).trans h

theorem Blk.drewN (h : Blk w g t cs) (n : Nat) : Blk (w.drewN n) g t cs := h
theorem Blk.drew (h : Blk w g t cs) : Blk w.drew g t cs := h
theorem grown_undrewN {a b : World} {n : Nat} {r : Option Nat} (h : (a.drewN n).grownBy b r) : a.grownBy b r := ⟨h.os, h.tape, h.output, h.size, h.block⟩
theorem Blk.grown (h : Blk w g t cs) {r : Option Nat} (hg : w.grownBy w' r) (hne : some g ≠ r) : Blk w' g t cs := (hg.block g h.lt hne).trans h

theorem grown_setRow (w : World) (g : Nat) (ds : Array Value) : w.grownBy (w.setRow g ds) (some g) := ⟨rfl, rfl, rfl, by simp, fun k _ hk => setRow_other w g k ds (fun e => hk (by simp [e]))⟩
theorem grown_setCell (w : World) (g i : Nat) (u : Value) : w.grownBy (w.setCell ⟨g, i, none⟩ u) (some g) := ⟨rfl, rfl, rfl, by simp [World.setCell], fun k _ hk => Below.heap_setCell w _ u k (fun e => hk (by simp [e]))⟩
theorem grown_alloc (w : World) (o : Obj) (r : Option Nat) : w.grownBy (w.alloc o) r := World.grownBy_alloc w o r
theorem grown_trans {a b c : World} {r : Option Nat} (h : a.grownBy b r) (k : b.grownBy c r) : a.grownBy c r :=
  ⟨k.os.trans h.os, k.tape.trans h.tape, k.output.trans h.output, Nat.le_trans h.size k.size, fun i hi hne => (k.block i (Nat.lt_of_lt_of_le hi h.size) hne).trans (h.block i hi hne)⟩
theorem grown_of_below {a b : World} (h : Below a.heap.size a b) (r : Option Nat) : a.grownBy b r := ⟨h.os, h.tape, h.output, h.size, fun i hi _ => h.block i hi⟩
theorem grown_drewN (w : World) (n : Nat) (r : Option Nat) : w.grownBy (w.drewN n) r := ⟨rfl, rfl, rfl, Nat.le_refl _, fun _ _ _ => rfl⟩
theorem grown_drew (w : World) (r : Option Nat) : w.grownBy w.drew r := ⟨rfl, rfl, rfl, Nat.le_refl _, fun _ _ _ => rfl⟩
/-- only block g may have turned, and g is the call's own -/
theorem below_of_grown {a b : World} {B g : Nat} (h : a.grownBy b (some g)) (hB : B ≤ a.heap.size) (hg : B ≤ g) : Below B a b :=
  ⟨h.os, h.tape, h.output, h.size, fun i hi => h.block i (by omega) (fun e => by injection e; omega)⟩
end

theorem wpList_want {P : Program} {ops : Array Oper} {Q : Exit → Act → World → Prop} {a : Act} {w : World} {rest : List Oper} {o : Oper} (hg : Region.wanted o (yielded ops a.tmps) = true)
    (h : ∀ K : Act → World → Prop, (∀ a w, wpList P ops Q rest a w → K a w) → o.wp P a w K Q) : wpList P ops Q (o :: rest) a w :=
  wpList_step fun K hK => by rw [if_pos hg]; exact h K hK

section
variable {P : Program} {w : World} {g : Nat} {t : TypeId} {cs : List Value}

theorem run_loadVar_blk (h : Blk w g t cs) (ty : TypeId) (o k : Nat) (hu : ((P.underlying ty).map fun | .struct _ | .array _ _ => true | _ => false) = some true) (hi : (P.info? ty).map (·.size) = some k) (hk : o + k ≤ cs.length) :
    (loadVar ty ⟨g, o, none⟩).run P w = .ok (.agg ((cs.drop o).take k).toArray) w := by
  obtain ⟨d, hd, hdd⟩ := Option.map_eq_some_iff.1 hu
  obtain ⟨i, hii, his⟩ := Option.map_eq_some_iff.1 hi
  have hl : ((cs.drop o).take k).length = k := by simp; omega
  have hc : ∀ j v, ((cs.drop o).take k)[j]? = some v → w.cell? ((⟨g, o, none⟩ : Addr).add j) = some v := by
    intro j v hv
    rw [Addr.add_lit, h.cell]
    rw [List.getElem?_take] at hv
    split at hv
    · rw [← hv, List.getElem?_drop]
    · cases hv
  have hld := run_loadCells_list (P := P) w ⟨g, o, none⟩ _ hc
  rw [hl] at hld
  have hagg : (isAgg ty).run P w = .ok true w := by
    unfold isAgg
    rw [Sem.run_bind, run_underlying hd w]
    cases d <;> simp_all
  simp [loadVar, Sem.run_bind, hagg, sizeOf, typeInfo, hii, his, hld]

theorem wp_load_blk {o : Oper} {a : Act} {K : Act → World → Prop} {Q : Exit → Act → World → Prop} (h : Blk w g t cs) (ty : TypeId) (x : Operand) (off k : Nat)
    (hu : ((P.underlying ty).map fun | .struct _ | .array _ _ => true | _ => false) = some true) (hi : (P.info? ty).map (·.size) = some k) (hk : off + k ≤ cs.length)
    (ho : o.op = .load ty x) (hx : a.eval x = .pointer (some ⟨g, off, none⟩))
    (hK : K (a.put o.dst (.agg ((cs.drop off).take k).toArray)) w) : o.wp P a w K Q := by
  unfold Oper.wp execOp
  simp only [ho, hx, Instr.loadAt, Instr.sureAddr, Sem.run_bind, Sem.run_pure, Result.andThen_ok, run_loadVar_blk h ty off k hu hi hk]
  exact hK

theorem wpl_load_blk {ops : Array Oper} {rest : List Oper} {o : Oper} {a : Act} {Q : Exit → Act → World → Prop} (h : Blk w g t cs) (ty : TypeId) (off k : Nat)
    (hu : ((P.underlying ty).map fun | .struct _ | .array _ _ => true | _ => false) = some true) (hi : (P.info? ty).map (·.size) = some k) (hk : off + k ≤ cs.length)
    (hgd : Region.wanted o (yielded ops a.tmps) = true) {x : Operand} (ho : o.op = .load ty x) (hx : a.eval x = .pointer (some ⟨g, off, none⟩))
    (hK : wpList P ops Q rest (a.put o.dst (.agg ((cs.drop off).take k).toArray)) w) : wpList P ops Q (o :: rest) a w :=
  wpList_want hgd fun _ h' => wp_load_blk h ty x off k hu hi hk ho hx (h' _ _ hK)

theorem run_storeVar_blk (h : Blk w g t cs) (ty : TypeId) (o k : Nat) (vs : List Value) (hi : (P.info? ty).map (·.size) = some k) (hv : vs.length = k) (hk : o + k ≤ cs.length) (h1 : ∀ v ∈ vs, v.oneCell' = true) :
    (storeVar ty ⟨g, o, none⟩ (.agg vs.toArray)).run P w = .ok () (w.setRow g (cs.take o ++ vs ++ cs.drop (o + k)).toArray) := by
  obtain ⟨i, hii, his⟩ := Option.map_eq_some_iff.1 hi
  have := run_storeCells_at P g o t vs 0 cs.toArray w h (by simp; omega) h1
  simp only [Nat.add_zero, hv] at this
  simp [storeVar, sizeOf, typeInfo, hii, his, Value.cells, hv, this]

theorem wp_store_blk {o : Oper} {a : Act} {K : Act → World → Prop} {Q : Exit → Act → World → Prop} (h : Blk w g t cs) (ty : TypeId) (x y : Operand) (off k : Nat) (vs : List Value) (hi : (P.info? ty).map (·.size) = some k) (hv : vs.length = k) (hk : off + k ≤ cs.length) (h1 : ∀ v ∈ vs, v.oneCell' = true)
    (ho : o.op = .store ty x y) (hx : a.eval x = .pointer (some ⟨g, off, none⟩)) (hy : a.eval y = .agg vs.toArray)
    (hK : K (a.put o.dst undef) (w.setRow g (cs.take off ++ vs ++ cs.drop (off + k)).toArray)) : o.wp P a w K Q := by
  unfold Oper.wp execOp
  simp only [ho, hx, hy, Instr.storeAt, Instr.sureAddr, Sem.run_bind, Sem.run_pure, Result.andThen_ok, run_storeVar_blk h ty off k vs hi hv hk h1]
  exact hK

theorem wpl_store_blk {ops : Array Oper} {rest : List Oper} {o : Oper} {a : Act} {Q : Exit → Act → World → Prop} (h : Blk w g t cs) (ty : TypeId) (off k : Nat) (vs : List Value) (hi : (P.info? ty).map (·.size) = some k) (hv : vs.length = k) (hk : off + k ≤ cs.length) (h1 : ∀ v ∈ vs, v.oneCell' = true)
    (hgd : Region.wanted o (yielded ops a.tmps) = true) {x y : Operand} (ho : o.op = .store ty x y) (hx : a.eval x = .pointer (some ⟨g, off, none⟩)) (hy : a.eval y = .agg vs.toArray)
    (hK : ∀ w', Blk w' g t (cs.take off ++ vs ++ cs.drop (off + k)) → w.grownBy w' (some g) → wpList P ops Q rest (a.put o.dst undef) w') : wpList P ops Q (o :: rest) a w :=
  wpList_want hgd fun _ h' => wp_store_blk h ty x y off k vs hi hv hk h1 ho hx hy (h' _ _ (hK _ (h.row _) (grown_setRow _ _ _)))

theorem whole_put {cs vs : List Value} {k : Nat} (h : cs.length = k) : cs.take 0 ++ vs ++ cs.drop (0 + k) = vs := by
  rw [List.take_zero, List.nil_append, List.drop_of_length_le (by omega), List.append_nil]

/-- a store of all of it -/
theorem wpl_put_blk {ops : Array Oper} {rest : List Oper} {o : Oper} {a : Act} {Q : Exit → Act → World → Prop} (h : Blk w g t cs) (vs : List Value) {ty : TypeId} (hi : (P.info? ty).map (·.size) = some cs.length) (hv : vs.length = cs.length) (h1 : ∀ v ∈ vs, v.oneCell' = true)
    (hgd : Region.wanted o (yielded ops a.tmps) = true) {x y : Operand} (ho : o.op = .store ty x y) (hx : a.eval x = .pointer (some ⟨g, 0, none⟩)) (hy : a.eval y = .agg vs.toArray)
    (hK : ∀ w', Blk w' g t vs → w.grownBy w' (some g) → wpList P ops Q rest (a.put o.dst undef) w') : wpList P ops Q (o :: rest) a w := by
  refine wpl_store_blk h ty 0 cs.length vs hi hv (by omega) h1 hgd ho hx hy fun w' h2 h3 => hK w' ?_ h3
  rwa [whole_put rfl] at h2
/-- a load of all of it -/
theorem wpl_get_blk {ops : Array Oper} {rest : List Oper} {o : Oper} {a : Act} {Q : Exit → Act → World → Prop} (h : Blk w g t cs) {ty : TypeId}
    (hu : ((P.underlying ty).map fun | .struct _ | .array _ _ => true | _ => false) = some true) (hi : (P.info? ty).map (·.size) = some cs.length)
    (hgd : Region.wanted o (yielded ops a.tmps) = true) {x : Operand} (ho : o.op = .load ty x) (hx : a.eval x = .pointer (some ⟨g, 0, none⟩))
    (hK : wpList P ops Q rest (a.put o.dst (.agg cs.toArray)) w) : wpList P ops Q (o :: rest) a w := by
  refine wpl_load_blk h ty 0 cs.length hu hi (by omega) hgd ho hx ?_
  rw [List.drop_zero, List.take_length]
  exact hK

/-- a store into one cell of it -/
theorem wpl_set_blk {ops : Array Oper} {rest : List Oper} {o : Oper} {a : Act} {Q : Exit → Act → World → Prop} (h : Blk w g t cs) (i : Nat) (u : Value) {ty : TypeId} (hi : (P.info? ty).map (·.size) = some 1) (hk : i < cs.length) (hu : u.cells = #[u]) (h1 : u.oneCell' = true)
    (hgd : Region.wanted o (yielded ops a.tmps) = true) {x y : Operand} (ho : o.op = .store ty x y) (hx : a.eval x = .pointer (some ⟨g, i, none⟩)) (hy : a.eval y = u)
    (hK : ∀ w', Blk w' g t (cs.set i u) → w.grownBy w' (some g) → wpList P ops Q rest (a.put o.dst undef) w') : wpList P ops Q (o :: rest) a w := by
  refine wpList_want hgd fun _ h' => ?_
  obtain ⟨inf, hii, his⟩ := Option.map_eq_some_iff.1 hi
  have := run_storeCells_at P g i t [u] 0 cs.toArray w h (by simp; omega) (by simpa using h1)
  simp only [Nat.add_zero, List.length_singleton] at this
  have hrun : (storeVar ty ⟨g, i, none⟩ u).run P w = .ok () (w.setRow g (cs.take i ++ [u] ++ cs.drop (i + 1)).toArray) := by
    simp [storeVar, sizeOf, typeInfo, hii, his, hu, this]
  have e : cs.take i ++ [u] ++ cs.drop (i + 1) = cs.set i u := by
    rw [List.set_eq_take_append_cons_drop, if_pos hk]
    simp
  rw [e] at hrun
  unfold Oper.wp execOp
  simp only [ho, hx, hy, Instr.storeAt, Instr.sureAddr, Sem.run_bind, Sem.run_pure, Result.andThen_ok, hrun]
  exact h' _ _ (hK _ (h.row _) (grown_setRow _ _ _))
end

/-- a result that lies in a block -/
theorem ret_blk {P : Program} {fn : Func} {R : Ending → World → Prop} {a : Act} {w : World} {p : Tmp} {ty : TypeId} {g : Nat} {t : TypeId} {cs : List Value} (hB : Blk w g t cs) (hr : fn.results = #[.cell p ty]) (hp : a.tmps.getD p undef = .pointer (some ⟨g, 0, none⟩)) {d : TypeDesc}
    (hu : P.underlying ty = some d) (hd : (match d with | .struct _ | .array _ _ => true | _ => false) = true) (hi : (P.info? ty).map (·.size) = some cs.length) (hdf : a.defers = []) (hR : R (.returned (.agg cs.toArray)) w) : bodyPost P fn R .ret a w :=
  bodyPost_ret (results_cell_row hr _ _ g t cs.toArray (0, 0) d hp hB hu hd (by simpa using hi)) hdf hR

/-! ### two arrays of bools -/
def bools (l : List Bool) : List Value := l.map .bool
theorem bools_one (l : List Bool) : ∀ v ∈ bools l, v.oneCell' = true := by
  intro v hv
  obtain ⟨b, _, rfl⟩ := List.mem_map.1 hv
  rfl

theorem run_eqItems_bools {P : Program} (w : World) (d : Nat) (e : TypeId) (he : P.underlying e = some .bool) (hc : P.cellsOf e = 1) (xs ys : List Bool) (hl : xs.length = ys.length) :
    ∀ (n k : Nat), k + n = xs.length → (Op.eqItems (d + 1) e (P.cellsOf e) (bools xs).toArray (bools ys).toArray (List.range' k n)).run P w = .ok (decide (xs.drop k = ys.drop k)) w := by
  intro n
  induction n with
  | zero =>
    intro k hk
    rw [List.drop_of_length_le (by omega), List.drop_of_length_le (by omega)]
    simp [Op.eqItems]
  | succ n ih =>
    intro k hk
    have hx : xs[k]? = some xs[k] := List.getElem?_eq_getElem (by omega)
    have hy : ys[k]? = some ys[k] := List.getElem?_eq_getElem (by omega)
    have hagg : (isAgg e).run P w = .ok false w := by
      unfold isAgg
      rw [Sem.run_bind, run_underlying he w]
      rfl
    have px : (part e (bools xs).toArray (k * P.cellsOf e)).run P w = .ok (.bool xs[k]) w := by
      simp [part, Sem.run_bind, hagg, hc, bools, hx]
    have py : (part e (bools ys).toArray (k * P.cellsOf e)).run P w = .ok (.bool ys[k]) w := by
      simp [part, Sem.run_bind, hagg, hc, bools, hy]
    rw [List.range'_succ]
    simp only [Op.eqItems, Sem.run_bind, px, py, run_equalIn_bool w d e _ _ he, Result.andThen_ok]
    have dx : xs.drop k = xs[k] :: xs.drop (k + 1) := List.drop_eq_getElem_cons (by omega)
    have dy : ys.drop k = ys[k] :: ys.drop (k + 1) := List.drop_eq_getElem_cons (by omega)
    have e : (xs.drop k = ys.drop k) ↔ (xs[k] = ys[k] ∧ xs.drop (k + 1) = ys.drop (k + 1)) := by rw [dx, dy, List.cons.injEq]
    by_cases hb : xs[k] = ys[k]
    · have hb' : (!(xs[k] == ys[k])) = false := by simp [hb]
      rw [hb', if_neg (by simp), ih (k + 1) (by omega)]
      simp only [e, hb, true_and]
    · have hb' : (!(xs[k] == ys[k])) = true := by simp [hb]
      rw [hb', if_pos rfl]
      simp only [e, hb, false_and]
      rfl

theorem run_equal_bools {P : Program} (w : World) (t e : TypeId) (n : Nat) (ht : P.underlying t = some (.array n e)) (he : P.underlying e = some .bool) (hc : P.cellsOf e = 1) (hi : (P.info? e).isSome = true) (xs ys : List Bool) (hx : xs.length = n) (hy : ys.length = n) (b : Bool) (hb : decide (xs = ys) = b) :
    (Op.equalIn 10000 t (.agg (bools xs).toArray) (.agg (bools ys).toArray)).run P w = .ok b w := by
  subst hb
  obtain ⟨i, hi⟩ := Option.isSome_iff_exists.1 hi
  have := run_equalIn_array (P := P) w 9999 (bools xs).toArray (bools ys).toArray ht hi
  have h2 := run_eqItems_bools (P := P) w 9998 e he hc xs ys (by omega) n 0 (by omega)
  rw [← List.range_eq_range'] at h2
  rw [this, h2]
  simp
end Go.Proofs.Ytcoijmnnnfogdaa


namespace Go.Proofs.Ytcoijmnnnfogdaa
set_option linter.unusedVariables false
set_option linter.unusedSimpArgs false
set_option maxRecDepth 100000
open Go.RowKit

/-- of the blocks that were there those outside S are as they were -/
structure Keeps (S : Nat → Prop) (w w' : World) : Prop where
  os : w'.os = w.os
  tape : w'.tape = w.tape
  output : w'.output = w.output
  size : w.heap.size ≤ w'.heap.size
  block : ∀ k, k < w.heap.size → ¬ S k → w'.heap[k]? = w.heap[k]?

section
variable {S S' : Nat → Prop} {a b c w w' : World}
theorem Keeps.refl (S : Nat → Prop) (w : World) : Keeps S w w := ⟨rfl, rfl, rfl, Nat.le_refl _, fun _ _ _ => rfl⟩
theorem Keeps.trans (h : Keeps S a b) (k : Keeps S b c) : Keeps S a c :=
  ⟨k.os.trans h.os, k.tape.trans h.tape, k.output.trans h.output, Nat.le_trans h.size k.size, fun i hi hn => (k.block i (Nat.lt_of_lt_of_le hi h.size) hn).trans (h.block i hi hn)⟩
/-- the second may have turned blocks that the first has made, too -/
theorem Keeps.step (h : Keeps S a b) (k : Keeps S' b c) (hs : ∀ i, i < a.heap.size → S' i → S i) : Keeps S a c :=
  ⟨k.os.trans h.os, k.tape.trans h.tape, k.output.trans h.output, Nat.le_trans h.size k.size, fun i hi hn => (k.block i (Nat.lt_of_lt_of_le hi h.size) (fun h' => hn (hs i hi h'))).trans (h.block i hi hn)⟩
theorem Keeps.mono (h : Keeps S a b) (hs : ∀ i, S i → S' i) : Keeps S' a b := ⟨h.os, h.tape, h.output, h.size, fun i hi hn => h.block i hi (fun h' => hn (hs i h'))⟩
theorem Keeps.of_grown {r : Option Nat} (h : a.grownBy b r) : Keeps (fun k => some k = r) a b := ⟨h.os, h.tape, h.output, h.size, fun i hi hn => h.block i hi hn⟩
theorem Keeps.of_below (h : Below a.heap.size a b) (S : Nat → Prop) : Keeps S a b := ⟨h.os, h.tape, h.output, h.size, fun i hi _ => h.block i hi⟩
theorem Keeps.alloc (h : Keeps S a b) (o : Obj) : Keeps S a (b.alloc o) := h.step (Keeps.of_grown (grown_alloc b o none)) (fun i _ hi => by cases hi)
theorem Keeps.drewN (h : Keeps S a b) (n : Nat) : Keeps S a (b.drewN n) := ⟨h.os, h.tape, h.output, h.size, h.block⟩
theorem Keeps.undrewN {n : Nat} (h : Keeps S (a.drewN n) b) : Keeps S a b := ⟨h.os, h.tape, h.output, h.size, h.block⟩
theorem Keeps.below {B : Nat} (h : Keeps S a b) (hB : B ≤ a.heap.size) (hs : ∀ i, S i → B ≤ i) : Below B a b := ⟨h.os, h.tape, h.output, h.size, fun i hi => h.block i (by omega) (fun h' => by have := hs i h'; omega)⟩
theorem Blk.keeps {g : Nat} {t : TypeId} {cs : List Value} (h : Blk w g t cs) (k : Keeps S w w') (hg : ¬ S g) : Blk w' g t cs := (k.block g h.lt hg).trans h
theorem own_keeps {base : Nat} {e : TypeId} {size n : Nat} {v : Value} {xs : List Value} (h : w.ownsRow base e size v n xs) (k : Keeps S w w') (hv : ∀ g, v.ownBlock = some g → ¬ S g) : w'.ownsRow base e size v n xs := by
  refine ⟨h.1, ?_⟩
  rcases h.2 with h' | ⟨g, cap, cur, rfl, hb, hg, rest⟩
  · exact .inl h'
  · refine .inr ⟨g, cap, cur, rfl, hb, ?_, rest⟩
    rw [k.block g (Array.getElem?_eq_some_iff.1 hg).1 (hv g rfl)]
    exact hg
theorem Cells.keeps {A : Option Addr} {vs : List Value} {B : Nat} (h : Cells w B A vs) (k : Keeps S w w') (hB : B ≤ w.heap.size) (hs : ∀ i, S i → B ≤ i) : Cells w' B A vs :=
  h.keep (Nat.le_refl _) fun _ hp => (k.below hB hs).cell hp

/-- rows of unlike element types lie in unlike blocks -/
theorem own_own_ne {base base' : Nat} {e e' : TypeId} {size size' n n' : Nat} {v v' : Value} {xs xs' : List Value} (h : w.ownsRow base e size v n xs) (h' : w.ownsRow base' e' size' v' n' xs') (hne : e ≠ e') {g : Nat} (hg : v.ownBlock = some g) : v'.ownBlock ≠ some g := by
  intro hg'
  rcases h.2 with ⟨rfl, _⟩ | ⟨g1, cap, cur, rfl, _, hh, _⟩
  · simp [Value.ownBlock] at hg
  · rcases h'.2 with ⟨rfl, _⟩ | ⟨g2, cap', cur', rfl, _, hh', _⟩
    · simp [Value.ownBlock] at hg'
    · simp only [Value.ownBlock, Option.some.injEq] at hg hg'
      subst hg
      subst hg'
      rw [hh] at hh'
      injection hh' with hh'
      injection hh' with _ ht
      exact hne ht
theorem own_blk_ne {base : Nat} {e t : TypeId} {size n g : Nat} {v : Value} {xs cs : List Value} (h : w.ownsRow base e size v n xs) (h' : Blk w g t cs) (hne : e ≠ t) : v.ownBlock ≠ some g := by
  intro hg
  rcases h.2 with ⟨rfl, _⟩ | ⟨g1, cap, cur, rfl, _, hh, _⟩
  · simp [Value.ownBlock] at hg
  · simp only [Value.ownBlock, Option.some.injEq] at hg
    subst hg
    unfold Blk at h'
    rw [hh] at h'
    injection h' with h'
    injection h' with _ ht
    exact hne ht
end
end Go.Proofs.Ytcoijmnnnfogdaa


namespace Go.Proofs.Ytcoijmnnnfogdaa
set_option linter.unusedVariables false
set_option linter.unusedSimpArgs false
set_option maxRecDepth 100000
open Go.ChangeShapes Go.WideShapes Go.ChangeAt Go.RowKit
set_option maxRecDepth 100000

def tcells (k c : Int) (b : Bool) (l : Int) (A : Option Addr) (n cap : Nat) : List Value := [.int .i64 k, .int .i64 c, .bool b, .int .i64 l, .slice A n cap]

inductive TmR (B : Nat) (w : World) : List Value → Sp.T → Prop
  | nil (k c : Int) (b : Bool) (l : Int) (A : Option Addr) (n cap : Nat) : n ≤ cap → cap ≤ maxLen → k ≠ 1 → ¬ ((k = 2 ∨ k = 3) ∧ 2 ≤ n) → TmR B w (tcells k c b l A n cap) .nil
  | one (c : Int) (b : Bool) (l : Int) (A : Option Addr) (n cap : Nat) : n ≤ cap → cap ≤ maxLen → TmR B w (tcells 1 c b l A n cap) (.one c b l)
  | two (par : Bool) (c : Int) (b : Bool) (l : Int) (g o n cap : Nat) (cs0 cs1 : List Value) (t0 t1 : Sp.T) : n ≤ cap → cap ≤ maxLen → 2 ≤ n → g < B →
      (∀ j u, cs0[j]? = some u → w.cell? ⟨g, o + j, none⟩ = some u) → (∀ j u, cs1[j]? = some u → w.cell? ⟨g, o + 5 + j, none⟩ = some u) → TmR B w cs0 t0 → TmR B w cs1 t1 →
      TmR B w (tcells (if par then 3 else 2) c b l (some ⟨g, o, none⟩) n cap) (.two par t0 t1)

theorem TmR.form {B : Nat} {w : World} {cs : List Value} {t : Sp.T} (h : TmR B w cs t) : ∃ k c b l A n cap, cs = tcells k c b l A n cap ∧ n ≤ cap ∧ cap ≤ maxLen := by
  cases h with
  | nil k c b l A n cap h1 h2 => exact ⟨_, _, _, _, _, _, _, rfl, h1, h2⟩
  | one c b l A n cap h1 h2 => exact ⟨_, _, _, _, _, _, _, rfl, h1, h2⟩
  | two par c b l g o n cap cs0 cs1 t0 t1 h1 h2 => exact ⟨_, _, _, _, _, _, _, rfl, h1, h2⟩

theorem TmR.keep {B B' : Nat} {w w' : World} {cs : List Value} {t : Sp.T} (h : TmR B w cs t) (hB : B ≤ B') (hk : ∀ p : Addr, p.block < B → w'.cell? p = w.cell? p) : TmR B' w' cs t := by
  induction h with
  | nil k c b l A n cap h1 h2 h3 h4 => exact .nil k c b l A n cap h1 h2 h3 h4
  | one c b l A n cap h1 h2 => exact .one c b l A n cap h1 h2
  | two par c b l g o n cap cs0 cs1 t0 t1 h1 h2 h3 h4 h5 h6 _ _ i0 i1 =>
    exact .two par c b l g o n cap cs0 cs1 t0 t1 h1 h2 h3 (Nat.lt_of_lt_of_le h4 hB) (fun j u hu => (hk ⟨g, o + j, none⟩ h4).trans (h5 j u hu)) (fun j u hu => (hk ⟨g, o + 5 + j, none⟩ h4).trans (h6 j u hu)) i0 i1
theorem TmR.later {B : Nat} {w w' : World} {cs : List Value} {t : Sp.T} (h : TmR B w cs t) (hb : Below B w w') : TmR B w' cs t := h.keep (Nat.le_refl _) (fun _ hp => hb.cell hp)
theorem TmR.alloc {B : Nat} {w : World} {cs : List Value} {t : Sp.T} (h : TmR B w cs t) (hB : B ≤ w.heap.size) (o : Obj) : TmR B (w.alloc o) cs t := h.later ((Below.refl _ _).alloc hB o)

/-! ### an argument -/
theorem bulk_mem {H : Type} {d : DataW H} : ∀ {l : List (DataW H)}, d ∈ l → Rows.uptoBulk d ≤ Rows.uptoBulkAll l
  | x :: l, h => by
    rw [Rows.uptoBulkAll]
    rcases List.mem_cons.1 h with rfl | h
    · omega
    · have := bulk_mem h; omega
theorem bulk_two {H : Type} (x y : DataW H) (l : List (DataW H)) : Rows.uptoBulk x + Rows.uptoBulk y ≤ Rows.uptoBulkAll (x :: y :: l) := by
  rw [Rows.uptoBulkAll, Rows.uptoBulkAll]; omega


theorem open_term {H : Type} {enc : TypeId × Value → H} {w : World} : ∀ (fuel : Nat) (cs : List Value) (x : DataW H × List MemPlace), DataW.trod enc Try.prog w 0 (fun _ => true) true fuel 26 cs = some x → (∀ p ∈ x.2, p.block < w.heap.size) →
    ∃ t : Sp.T, TmR w.heap.size w cs t ∧ t.cnt ≤ Rows.uptoBulk x.1 := by
  intro fuel
  induction fuel using Nat.strongRecOn with
  | _ fuel ih =>
    intro cs x h hlt
    have hT : Try.prog.underlying 26 = some (.struct (fieldsOf Try.prog 26)) := by kernel_rfl
    have hA : Try.prog.underlying 23 = some (.struct (fieldsOf Try.prog 23)) := by kernel_rfl
    obtain ⟨xs, m, rfl, rfl, hl, hxl, hfs⟩ := DataW.trod_struct hT h
    have e0 : (fieldsOf Try.prog 26)[0]?.map (fun f => (f.type, f.offset)) = some (3, 0) := by kernel_rfl
    have e1 : (fieldsOf Try.prog 26)[1]?.map (fun f => (f.type, f.offset)) = some (23, 1) := by kernel_rfl
    have e2 : (fieldsOf Try.prog 26)[2]?.map (fun f => (f.type, f.offset)) = some (24, 4) := by kernel_rfl
    have hsz : (fieldsOf Try.prog 26).size = 3 := by kernel_rfl
    obtain ⟨f0, g0, q0⟩ := Option.map_eq_some_iff.1 e0
    obtain ⟨f1, g1, q1⟩ := Option.map_eq_some_iff.1 e1
    obtain ⟨f2, g2, q2⟩ := Option.map_eq_some_iff.1 e2
    injection q0 with q0 q0'
    injection q1 with q1 q1'
    injection q2 with q2 q2'
    have h0 := hfs 0 f0 g0
    have h1 := hfs 1 f1 g1
    have h2 := hfs 2 f2 g2
    have c0 : Try.prog.cellsOf 3 = 1 := by kernel_rfl
    have c1 : Try.prog.cellsOf 23 = 3 := by kernel_rfl
    have c2 : Try.prog.cellsOf 24 = 1 := by kernel_rfl
    have cT : Try.prog.cellsOf 26 = 5 := by kernel_rfl
    have cB : Try.prog.cellsOf 4 = 1 := by kernel_rfl
    rw [q0, q0', c0] at h0
    rw [q1, q1', c1] at h1
    rw [q2, q2', c2] at h2
    rw [cT] at hl
    rw [hsz] at hxl
    match xs, hxl, cs, hl with
    | [x0, x1, x2], _, [v0, v1, v2, v3, v4], _ =>
      simp only [List.drop_succ_cons, List.drop_zero, List.take_succ_cons, List.take_zero, List.getElem?_cons_zero, List.getElem?_cons_succ] at h0 h1 h2
      obtain ⟨k, hk, -, -⟩ := DataW.trod_int Try.underlying3 h0
      obtain ⟨ys, m1, rfl, -, hl1, hyl, hys⟩ := DataW.trod_struct hA h1
      have d0 : (fieldsOf Try.prog 23)[0]?.map (fun f => (f.type, f.offset)) = some (3, 0) := by kernel_rfl
      have d1 : (fieldsOf Try.prog 23)[1]?.map (fun f => (f.type, f.offset)) = some (4, 1) := by kernel_rfl
      have d2 : (fieldsOf Try.prog 23)[2]?.map (fun f => (f.type, f.offset)) = some (3, 2) := by kernel_rfl
      have hsy : (fieldsOf Try.prog 23).size = 3 := by kernel_rfl
      obtain ⟨u0, w0, p0⟩ := Option.map_eq_some_iff.1 d0
      obtain ⟨u1, w1, p1⟩ := Option.map_eq_some_iff.1 d1
      obtain ⟨u2, w2, p2⟩ := Option.map_eq_some_iff.1 d2
      injection p0 with p0 p0'
      injection p1 with p1 p1'
      injection p2 with p2 p2'
      have y0 := hys 0 u0 w0
      have y1 := hys 1 u1 w1
      have y2 := hys 2 u2 w2
      rw [p0, p0', c0] at y0
      rw [p1, p1', cB] at y1
      rw [p2, p2', c0] at y2
      rw [hsy] at hyl
      match ys, hyl with
      | [z0, z1, z2], _ =>
        simp only [List.drop_succ_cons, List.drop_zero, List.take_succ_cons, List.take_zero, List.getElem?_cons_zero, List.getElem?_cons_succ] at y0 y1 y2
        obtain ⟨c, hc, -, -⟩ := DataW.trod_int Try.underlying3 y0
        obtain ⟨b, hb, -⟩ := DataW.trod_bool Try.underlying4 y1
        obtain ⟨l, hl', -, -⟩ := DataW.trod_int Try.underlying3 y2
        simp only [List.cons.injEq, and_true] at hk hc hb hl'
        subst hk hc hb hl'
        have bulk1 : Rows.uptoBulk (DataW.agg (H := H) [x0.1, x1.1, x2.1]) = Rows.uptoBulk x0.1 + (Rows.uptoBulk x1.1 + Rows.uptoBulk x2.1) + 1 := by
          simp [Rows.uptoBulk, Rows.uptoBulkAll]
        have pos : ∀ d : DataW H, 1 ≤ Rows.uptoBulk d := fun d => by
          cases d with
          | lit x => cases x <;> simp [Rows.uptoBulk]
          | _ => simp [Rows.uptoBulk]
        rcases DataW.trod_slice Try.underlying24 h2 with ⟨hcs, hx⟩ | ⟨a, len, cap, el, rest, n, hn, hcs, hx, -, hle, hm, hlen, hel, hsp, -⟩
        · simp only [List.cons.injEq, and_true] at hcs
          subst hcs
          by_cases hk1 : k = 1
          · subst hk1
            exact ⟨.one c b l, .one c b l none 0 0 (Nat.le_refl _) (Nat.zero_le _), by have := pos x0.1; simp [Sp.T.cnt, bulk1]⟩
          · exact ⟨.nil, .nil k c b l none 0 0 (Nat.le_refl _) (Nat.zero_le _) hk1 (by omega), by simp [Sp.T.cnt, bulk1]⟩
        · simp only [List.cons.injEq, and_true] at hcs
          subst hcs
          by_cases hk1 : k = 1
          · subst hk1
            exact ⟨.one c b l, .one c b l _ len cap hle hm, by have := pos x0.1; simp [Sp.T.cnt, bulk1]⟩
          · by_cases hk2 : (k = 2 ∨ k = 3) ∧ 2 ≤ len
            · obtain ⟨hk2, h2l⟩ := hk2
              have kid : ∀ i, i < len → ∃ (y : DataW H × List MemPlace) (cs' : List Value) (t : Sp.T), el[i]? = some y ∧ cs'.length = 5 ∧ (∀ j u, cs'[j]? = some u → w.cell? ((a.add (i * 5)).add j) = some u) ∧ TmR w.heap.size w cs' t ∧ t.cnt ≤ Rows.uptoBulk y.1 := by
                intro i hi
                have h3 := hel i hi
                rw [cT, List.getElem?_eq_getElem (by omega)] at h3
                obtain ⟨cs', hc', htr⟩ := Option.bind_eq_some_iff.1 h3
                obtain ⟨hb0, hl5, hat⟩ := World.cells?_some hc'
                obtain ⟨t, ht1, ht2⟩ := ih n (by omega) cs' _ htr (fun p hp => hlt p (by
                  rw [hx]
                  simp only [List.flatMap_cons, List.flatMap_nil, List.mem_append, List.append_nil]
                  exact .inr (.inr (.inr (List.mem_flatMap.2 ⟨el[i], List.mem_append_left _ (List.getElem_mem _), hp⟩)))))
                refine ⟨el[i], cs', t, List.getElem?_eq_getElem (by omega), hl5, fun j u hu => ?_, ht1, ht2⟩
                have hj : j < 5 := by have := (List.getElem?_eq_some_iff.1 hu).1; omega
                rw [hat j hj, hu]
              obtain ⟨ya, csa, ta, ea, la, ca, ra, ba⟩ := kid 0 (by omega)
              obtain ⟨yb, csb, tb, eb, lb, cb, rb, bb⟩ := kid 1 (by omega)
              obtain ⟨g, o, sp⟩ := a
              have hsp0 : sp = none := by
                have := ca 0 _ (List.getElem?_eq_getElem (by omega))
                simpa [Addr.add] using World.cell?_spot this
              subst hsp0
              have ca' : ∀ j u, csa[j]? = some u → w.cell? ⟨g, o + j, none⟩ = some u := fun j u hu => by
                have := ca j u hu
                rw [Addr.add_lit, Addr.add_lit] at this
                simpa using this
              have cb' : ∀ j u, csb[j]? = some u → w.cell? ⟨g, o + 5 + j, none⟩ = some u := fun j u hu => by
                have := cb j u hu
                rw [Addr.add_lit, Addr.add_lit] at this
                simpa using this
              have hg : g < w.heap.size := World.block_lt_of_cell? w _ (ca' 0 _ (List.getElem?_eq_getElem (by omega)))
              have hbulk : ta.cnt + tb.cnt ≤ Rows.uptoBulk x2.1 := by
                rw [hx]
                match el, hlen, ea, eb with
                | e0 :: e1 :: el', _, ea, eb =>
                  simp only [List.getElem?_cons_zero, List.getElem?_cons_succ, Option.some.injEq] at ea eb
                  subst ea eb
                  have := bulk_two e0.1 e1.1 (el'.map (·.1))
                  simp only [List.map_cons, Rows.uptoBulk]
                  omega
              rcases hk2 with rfl | rfl
              · exact ⟨.two false ta tb, .two false c b l g o len cap csa csb ta tb hle hm h2l hg ca' cb' ra rb, by show _ ≤ Rows.uptoBulk (DataW.agg (H := H) [x0.1, x1.1, x2.1]); rw [Sp.T.cnt, bulk1]; omega⟩
              · exact ⟨.two true ta tb, .two true c b l g o len cap csa csb ta tb hle hm h2l hg ca' cb' ra rb, by show _ ≤ Rows.uptoBulk (DataW.agg (H := H) [x0.1, x1.1, x2.1]); rw [Sp.T.cnt, bulk1]; omega⟩
            · exact ⟨.nil, .nil k c b l _ len cap hle hm hk1 hk2, by simp [Sp.T.cnt, bulk1]⟩
end Go.Proofs.Ytcoijmnnnfogdaa


namespace Go.Proofs.Ytcoijmnnnfogdaa
set_option linter.unusedVariables false
set_option linter.unusedSimpArgs false
set_option maxRecDepth 100000
open Go.ChangeShapes Go.WideShapes Go.ChangeAt Go.RowKit

/-- 'append(v, src...)' as one operation, whatever comes behind -/
theorem step_append {P : Program} {w : World} {ops : Array Oper} {o : Oper} {a : Act} {K : Act → World → Prop} {Q : Exit → Act → World → Prop} {E : Prop} (s x : Operand)
    (base t e : TypeId) (z : Value) (size bytes : Nat) (ht : P.underlying t = some (.slice e)) (hinfo : (P.info? e).map (fun i => (i.zero, i.size, i.bytes)) = some (some z, size, bytes)) (hz : z.cells.size = size) (hsz : 0 < size)
    {v : Value} {n : Nat} {xs : List Value} (hown : w.ownsRow base e size v n xs) {B : Nat} {A : Option Addr} {m c : Nat} {news : List Value} (hcs : Cells w B A news) (hlen : news.length = m * size) (h1 : ∀ u ∈ news, u.oneCell' = true)
    (h63 : n + m ≤ maxLen) (hbytes : (n + m) * bytes ≤ 140737488355328) (hbase : base ≤ w.heap.size)
    (hgd : Region.wanted o (yielded ops a.tmps) = true) (ho : o.op = .call { callee := .builtin .append, args := #[s, x], argTypes := #[t, t] }) (hs : a.eval s = v) (hx : a.eval x = .slice A m c)
    (h : ∀ v' w', w'.ownsRow base e size v' (n + m) (xs ++ news) → w.grownBy w' v.ownBlock → (v'.ownBlock = v.ownBlock ∨ v'.ownBlock = some w.heap.size) → Below base w w' → K (a.put o.dst v') w') :
    if Region.wanted o (yielded ops a.tmps) = true then Oper.wp P o a w K Q else E := by
  rw [if_pos hgd]
  obtain ⟨v', w', hrun, h2, h3, h4⟩ := run_append (P := P) w base t o.type e z size bytes ht hinfo hz hsz v n xs hown B A m c news hlen hcs h1 h63 hbytes hbase
  unfold Oper.wp execOp
  simp only [ho, resolve, invoke, builtin, Sem.run_bind, Sem.run_pure, Result.andThen_ok, List.map_toArray, List.map_cons, List.map_nil, hs, hx, hrun]
  exact h v' w' h2 h3 h4 ((Below.refl _ _).grown h3 hbase (own_ge hown))

theorem Keeps.cell {S : Nat → Prop} {w w' : World} (k : Keeps S w w') {p : Addr} {v : Value} (h : w.cell? p = some v) (hn : ¬ S p.block) : w'.cell? p = some v := by
  have hlt : p.block < w.heap.size := by
    rcases Nat.lt_or_ge p.block w.heap.size with h' | h'
    · exact h'
    · simp [World.cell?, Array.getElem?_eq_none h'] at h
  rw [World.cell?_of_block (w := w) (k.block p.block hlt hn)]
  exact h
theorem SlV.lit (w : World) (vs : List Value) (e : TypeId) (sz n : Nat) (hv : vs.length = n * sz) (hn : n ≤ 1000) : SlV (w.alloc (.cells vs.toArray e)) sz (.slice (some ⟨w.heap.size, 0, none⟩) n n) n vs := by
  have := World.ownsRow_lit (e := e) (size := sz) (base := w.heap.size) w vs.toArray n (Nat.le_refl _) (by unfold maxLen; omega) (by simpa using hv)
  exact SlV.of_own (by simpa using this)
theorem SlV.drewN {w : World} {sz n : Nat} {v : Value} {vs : List Value} (h : SlV w sz v n vs) (k : Nat) : SlV (w.drewN k) sz v n vs := h
theorem ints_one1 (k : IntKind) (xs : List Int) : ∀ u ∈ ints k xs, u.oneCell' = true := by
  intro u hu
  obtain ⟨x, _, rfl⟩ := List.mem_map.1 hu
  rfl
/-- what was laid into a block of its own, behind a call that made memory -/
theorem cells_new_below {w w2 : World} {vs : List Value} {e : TypeId} (hb : Below (w.alloc (.cells vs.toArray e)).heap.size (w.alloc (.cells vs.toArray e)) w2) : Cells w2 (w.heap.size + 1) (some ⟨w.heap.size, 0, none⟩) vs :=
  (Cells.new w vs e).keep (Nat.le_refl _) (fun p hp => hb.cell (by simpa using hp))
theorem cells_new_drew {w w2 : World} {vs : List Value} {e : TypeId} (hb : Below (w.alloc (.cells vs.toArray e)).drew.heap.size (w.alloc (.cells vs.toArray e)).drew w2) : Cells w2 (w.heap.size + 1) (some ⟨w.heap.size, 0, none⟩) vs :=
  (Cells.new w vs e).keep (Nat.le_refl _) (fun p hp => hb.cell (by simpa using hp))
theorem below_self {w w1 w2 : World} (h : Below w.heap.size w w1) (hb : Below w1.heap.size w1 w2) : Below w.heap.size w w2 := below_next hb h
end Go.Proofs.Ytcoijmnnnfogdaa


namespace Go.Proofs.Ytcoijmnnnfogdaa
set_option linter.unusedVariables false
set_option linter.unusedSimpArgs false
set_option maxRecDepth 100000
open Go.RowKit
namespace Sp
def accc (a : Acc) : List Value := [.int .i64 a.1, .bool a.2.1, .int .i64 a.2.2]
def acccs (l : List Acc) : List Value := l.flatMap accc
theorem acccs_length (l : List Acc) : (acccs l).length = l.length * 3 := flat_length accc 3 (fun _ => rfl) l
theorem acccs_append (a b : List Acc) : acccs (a ++ b) = acccs a ++ acccs b := by simp [acccs]
theorem acc_one (a : Acc) : ∀ u ∈ accc a, u.oneCell' = true := by
  intro u hu
  simp only [accc, List.mem_cons, List.not_mem_nil, or_false] at hu
  rcases hu with rfl | rfl | rfl <;> rfl
theorem info_acc : (Try.prog.info? 23).map (fun i => (i.zero, i.size, i.bytes)) = some (some (.agg #[.int .i64 0, .bool false, .int .i64 0]), 3, 24) := by kernel_rfl
end Sp
end Go.Proofs.Ytcoijmnnnfogdaa


namespace Go.Proofs.Ytcoijmnnnfogdaa
set_option linter.unusedVariables false
set_option linter.unusedSimpArgs false
set_option maxRecDepth 100000
open Go Go.RowKit

theorem still_tail {P : Go.Program} {id : Nat} {Q : Exit → Act → World → Prop} {a : Act} {w : World} {l : List Oper} (n : Nat) (hm : P.follows .mixedOrders = true) (hB : Region.lexTailB .any l.toArray n = true)
    (h : wpStill P l.toArray (w.drewN 1) (fun a' => wpList P l.toArray Q (l.drop n) a' (w.drewN 1)) (l.take n) a) : (Code.region id l.toArray true).wp P Q a w :=
  wp_region_still_tail n hm hB h

/-- its last operation is the store -/
theorem still_last {P : Go.Program} {id : Nat} {Q : Exit → Act → World → Prop} {a : Act} {w : World} {l : List Oper} (hm : P.follows .mixedOrders = true) (hB : Region.lexTailB .any l.toArray (l.length - 1) = true)
    (h : wpStill P l.toArray (w.drewN 1) (fun a' => wpList P l.toArray Q (l.drop (l.length - 1)) a' (w.drewN 1)) (l.take (l.length - 1)) a) : (Code.region id l.toArray true).wp P Q a w :=
  still_tail (l.length - 1) hm hB h

/-- an own row and its block: the block as a whole -/
theorem own_blk {w : World} {base : Nat} {e : TypeId} {g n c : Nat} {xs : List Value} (h : w.ownsRow base e 1 (.slice (some ⟨g, 0, none⟩) n c) n xs) :
    ∃ cs, Blk w g e cs ∧ cs.length = c ∧ cs.take n = xs ∧ n ≤ c ∧ c ≤ maxLen ∧ base ≤ g := by
  rcases h.2 with ⟨h', _⟩ | ⟨g1, cap, cur, he, hb, hh, hle, hm, hs, ht⟩
  · cases h'
  · cases he
    exact ⟨cur.toList, hh, by simpa using hs, by simpa using ht, hle, hm, hb⟩
theorem own_of_blk {w : World} {base : Nat} {e : TypeId} {g n : Nat} {cs : List Value} (h : Blk w g e cs) (hb : base ≤ g) (hn : n ≤ cs.length) (hm : cs.length ≤ maxLen) : w.ownsRow base e 1 (.slice (some ⟨g, 0, none⟩) n cs.length) n (cs.take n) :=
  ⟨by simp; omega, .inr ⟨g, cs.length, cs.toArray, rfl, hb, h, hn, hm, by simp, by simp⟩⟩

theorem wpl_set_own {P : Go.Program} {w : World} {base : Nat} {e : TypeId} {g n c : Nat} {xs : List Value} {ops : Array Oper} {rest : List Oper} {o : Oper} {a : Act} {Q : Exit → Act → World → Prop} (h : w.ownsRow base e 1 (.slice (some ⟨g, 0, none⟩) n c) n xs) (i : Nat) (u : Value) {ty : TypeId} (hi : (P.info? ty).map (·.size) = some 1) (hk : i < n) (hu : u.cells = #[u]) (h1 : u.oneCell' = true)
    (hgd : Region.wanted o (yielded ops a.tmps) = true) {x y : Operand} (ho : o.op = .store ty x y) (hx : a.eval x = .pointer (some ⟨g, i, none⟩)) (hy : a.eval y = u)
    (hK : ∀ w', w'.ownsRow base e 1 (.slice (some ⟨g, 0, none⟩) n c) n (xs.set i u) → w.grownBy w' (some g) → wpList P ops Q rest (a.put o.dst undef) w') : wpList P ops Q (o :: rest) a w := by
  obtain ⟨cs, hB, rfl, rfl, hn, hm, hb⟩ := own_blk h
  refine wpl_set_blk hB i u hi (by omega) hu h1 hgd ho hx hy fun w' hB' hg => hK w' ?_ hg
  have := own_of_blk (n := n) hB' hb (by simpa using hn) (by simpa using hm)
  rw [List.length_set, List.take_set] at this
  exact this
end Go.Proofs.Ytcoijmnnnfogdaa


namespace Go.Proofs.Ytcoijmnnnfogdaa
set_option linter.unusedVariables false
set_option linter.unusedSimpArgs false
set_option maxRecDepth 100000
open Go.RowKit

/-- what gathers leaves, in block g: the row that it has so far -/
structure Lv (B : Nat) (w : World) (g : Nat) (v : Value) (n : Nat) (xs : List Value) : Prop where
  blk : Blk w g 76 [v]
  row : w.ownsRow B 23 3 v n xs
  base : B ≤ w.heap.size
  at_ : B ≤ g
  ne : v.ownBlock ≠ some g

def LvEnd (B : Nat) (w : World) (g : Nat) (v : Value) (n : Nat) (xs : List Value) : Ending → World → Prop := fun e w' =>
  e = .returned (.tuple #[]) ∧ ∃ v', Lv B w' g v' n xs ∧ Keeps (fun k => k = g ∨ v.ownBlock = some k) w w' ∧ (∀ i, v'.ownBlock = some i → v.ownBlock = some i ∨ w.heap.size ≤ i)

theorem lv_put {B : Nat} {w w0 w4 : World} {g n n' : Nat} {v v' : Value} {xs xs' : List Value} {o : Obj} (hL : Lv B w0 g v n xs) (hk0 : Keeps (fun k => k = g ∨ v.ownBlock = some k) w w0) (hg4 : (w0.alloc o).drew.grownBy w4 v.ownBlock) (hown : w4.ownsRow B 23 3 v' n' xs')
    (hv4 : v'.ownBlock = v.ownBlock ∨ v'.ownBlock = some (w0.alloc o).drew.heap.size) : ∃ v'', Lv B (w4.setCell ⟨g, 0, none⟩ v') g v'' n' xs' ∧ Keeps (fun k => k = g ∨ v.ownBlock = some k) w (w4.setCell ⟨g, 0, none⟩ v') ∧ (∀ i, v''.ownBlock = some i → v.ownBlock = some i ∨ w.heap.size ≤ i) := by
  have kk : Keeps (fun k => v.ownBlock = some k) w0 w4 := (((Keeps.refl _ w0).alloc o).drewN 1).trans ((Keeps.of_grown hg4).mono (fun i hi => hi.symm))
  have hne : v'.ownBlock ≠ some g := fun e => by
    rcases hv4 with h | h
    · exact hL.ne (h ▸ e)
    · rw [h] at e
      injection e with e
      have := hL.blk.lt
      simp at e; omega
  have hb4 := hL.blk.keeps kk hL.ne
  have ks : Keeps (fun k => k = g) w4 (w4.setCell ⟨g, 0, none⟩ v') := (Keeps.of_grown (grown_setCell w4 g 0 v')).mono (fun i hi => by injection hi)
  refine ⟨v', ⟨?_, own_keeps hown ks (fun i hi e => hne (e ▸ hi)), by have := hL.base; have := kk.size; have := ks.size; omega, hL.at_, hne⟩, (hk0.trans (kk.mono (fun i hi => .inr hi))).trans (ks.mono (fun i hi => .inl hi)), fun i hi => ?_⟩
  · have := hb4.set_ 0 v'
    simpa using this
  · rcases hv4 with h | h
    · exact .inl (h ▸ hi)
    · rw [h] at hi
      injection hi with hi
      have := hk0.size
      simp at hi
      exact .inr (by omega)

theorem lv_nothing (B : Nat) (w : World) (g : Nat) (v : Value) (n : Nat) (xs : List Value) (h : Lv B w g v n xs) :
    Calls Try.prog 97 #[.pointer (some ⟨g, 0, none⟩)] w (LvEnd B w g v n xs) := by
  go_enter Try.func97, Try.ntmps97
  go_wp2
  go_end0
  exact ⟨rfl, v, h, Keeps.refl _ _, fun i hi => .inl hi⟩

theorem lv_one (B : Nat) (w : World) (g : Nat) (v : Value) (n : Nat) (xs : List Value) (h : Lv B w g v n xs) (a : Sp.Acc) (hn : n ≤ 4194304) :
    Calls Try.prog 98 #[.pointer (some ⟨g, 0, none⟩), .agg #[.int .i64 a.1, .bool a.2.1, .int .i64 a.2.2]] w (LvEnd B w g v (n + 1) (xs ++ Sp.accc a)) := by
  obtain ⟨a1, a2, a3⟩ := a
  simp only
  go_enter Try.func98, Try.ntmps98
  go_wp2_with fail
  have hB := Blk.new w 23 (Sp.accc (a1, a2, a3))
  have hL : Lv B (w.alloc (.cells (Sp.accc (a1, a2, a3)).toArray 23)) g v n xs := ⟨h.blk.alloc _, h.row.alloc _, by have := h.base; simp; omega, h.at_, h.ne⟩
  have hk0 : Keeps (fun k => k = g ∨ v.ownBlock = some k) w (w.alloc (.cells (Sp.accc (a1, a2, a3)).toArray 23)) := (Keeps.refl _ w).alloc _
  have hvw : ∀ i, v.ownBlock = some i → i < w.heap.size := fun i hi => (h.row.lt i hi).2
  have hgw := h.blk.lt
  obtain ⟨q, hq⟩ : ∃ q, q = w.heap.size := ⟨_, rfl⟩
  have hB' : Blk (w.alloc (.cells (Sp.accc (a1, a2, a3)).toArray 23)) q 23 (Sp.accc (a1, a2, a3)) := by rw [hq]; exact hB
  have hqs : q < (w.alloc (.cells (Sp.accc (a1, a2, a3)).toArray 23)).heap.size := by rw [hq]; simp
  show Code.wp _ _ _ _ (w.alloc (.cells (Sp.accc (a1, a2, a3)).toArray 23))
  rw [← hq]
  generalize (w.alloc (.cells (Sp.accc (a1, a2, a3)).toArray 23)) = w0 at hB' hL hk0 hqs ⊢
  clear hB h hq
  have c0 := hL.blk.cell 0
  simp only [List.getElem?_cons_zero] at c0
  have d0 := hB'.cell 0
  have d1 := hB'.cell 1
  have d2 := hB'.cell 2
  simp only [Sp.accc, List.getElem?_cons_zero, List.getElem?_cons_succ] at d0 d1 d2
  have n63 : n + 1 ≤ maxLen := by unfold maxLen; omega
  have n47 : (n + 1) * 24 ≤ 140737488355328 := by omega
  have fz : ∀ w', Keeps (fun k => v.ownBlock = some k) w0 w' → w'.frozen? ⟨g, 0, none⟩ = false ∧ w'.cell? ⟨g, 0, none⟩ = some v := fun w' hk => by
    have hb := hL.blk.keeps hk hL.ne
    exact ⟨hb.frozen 0, by rw [hb.cell]; rfl⟩
  have hrow : ∀ o : Obj, (w0.alloc o).drew.ownsRow B 23 3 v n xs := fun o => (hL.row.alloc o).drew
  have hba : ∀ o : Obj, B ≤ (w0.alloc o).drew.heap.size := fun o => by have := hL.base; simp; omega
  have hgl := hL.blk.lt
  go_region_law (refine step_append _ _ _ _ _ _ _ _ Try.underlying42 Sp.info_acc rfl (by decide) (hrow _) (show Cells _ _ _ (Sp.accc (a1, a2, a3)) from Cells.new w0 _ 23) rfl (Sp.acc_one _) n63 n47 (hba _) rfl rfl rfl rfl ?_; intro v4 w4 hown4 hg4 hv4 hb4; obtain ⟨A4, k4, rfl, hle4, hm4⟩ := own_slice hown4; obtain ⟨f4, c4⟩ := fz w4 (((Keeps.refl _ w0).alloc _).drewN 1 |>.trans ((Keeps.of_grown hg4).mono (fun i hi => hi.symm))))
  all_goals
    have hend := lv_put hL hk0 hg4 hown4 hv4
    clear hb4 hg4 hown4 hv4 hrow hba fz f4 c4 c0 d0 d1 d2 hB' hL hk0
    go_end0
    exact ⟨rfl, hend⟩

/-- what tell does, whoever is told -/
theorem tell_nil {B : Nat} {w : World} {cs : List Value} (hT : TmR B w cs .nil) {ty : TypeId} {p : Value} {f : FuncId} {R : World → Prop} (hme : ∀ (k : Nat) (w : World), (method (k + 1) ty p "forkwright/sp.nothing").run Try.prog w = .ok (f, p) w) (hcf : ∀ (args : Array Value) (w : World), (callFunc f args).run Try.prog w = .ok (.enter f args) w)
    (hc : Calls Try.prog f #[p] (w.alloc (.cells cs.toArray 26)) fun e w' => e = .returned (.tuple #[]) ∧ R w') :
    Calls Try.prog 32 #[.agg cs.toArray, .iface ty p] w fun e w' => e = .returned (.tuple #[]) ∧ R w' := by
  cases hT with
  | nil k c b l A m cap hm hcap hk1 hk2 =>
  unfold tcells at hc ⊢
  unfold maxLen at hcap
  have e1 : (k == 1) = false := by simpa using hk1
  by_cases k2 : k = 2
  · subst k2
    have hm2 : ¬ 2 ≤ m := fun h => hk2 ⟨.inl rfl, h⟩
    clear hk2 hk1
    go_enter Try.func32, Try.ntmps32
    go_wp2_with fail
    refine hc.mono ?_
    rintro e w1 ⟨rfl, hR⟩
    go_wp2
    go_end0
    exact ⟨rfl, hR⟩
  · have e2 : (k == 2) = false := by simpa using k2
    by_cases k3 : k = 3
    · subst k3
      have hm2 : ¬ 2 ≤ m := fun h => hk2 ⟨.inr rfl, h⟩
      clear hk2 hk1
      go_enter Try.func32, Try.ntmps32
      go_wp2_with fail
      refine hc.mono ?_
      rintro e w1 ⟨rfl, hR⟩
      go_wp2
      go_end0
      exact ⟨rfl, hR⟩
    · have e3 : (k == 3) = false := by simpa using k3
      clear hk2 hk1
      go_enter Try.func32, Try.ntmps32
      go_wp2_with fail
      refine hc.mono ?_
      rintro e w1 ⟨rfl, hR⟩
      go_wp2
      go_end0
      exact ⟨rfl, hR⟩

theorem tell_one {B : Nat} {w : World} {cs : List Value} {c : Int} {b : Bool} {l : Int} (hT : TmR B w cs (.one c b l)) {ty : TypeId} {p : Value} {f : FuncId} {R : World → Prop} (hme : ∀ (k : Nat) (w : World), (method (k + 1) ty p "forkwright/sp.one").run Try.prog w = .ok (f, p) w) (hcf : ∀ (args : Array Value) (w : World), (callFunc f args).run Try.prog w = .ok (.enter f args) w)
    (hc : Calls Try.prog f #[p, .agg #[.int .i64 c, .bool b, .int .i64 l]] (w.alloc (.cells cs.toArray 26)) fun e w' => e = .returned (.tuple #[]) ∧ R w') :
    Calls Try.prog 32 #[.agg cs.toArray, .iface ty p] w fun e w' => e = .returned (.tuple #[]) ∧ R w' := by
  cases hT with
  | one c b l A m cap hm hcap =>
  unfold tcells at hc ⊢
  unfold maxLen at hcap
  go_enter Try.func32, Try.ntmps32
  go_wp2_with fail
  refine hc.mono ?_
  rintro e w1 ⟨rfl, hR⟩
  go_wp2
  go_end0
  exact ⟨rfl, hR⟩

set_option maxHeartbeats 2000000 in
theorem tell_two {B : Nat} {w : World} {cs : List Value} {par : Bool} {t0 t1 : Sp.T} (hT : TmR B w cs (.two par t0 t1)) {ty : TypeId} {p : Value} {f : FuncId} {R : World → Prop} (hme : ∀ (k : Nat) (w : World), (method (k + 1) ty p "forkwright/sp.two").run Try.prog w = .ok (f, p) w) (hna : ∀ (k : Nat) (w : World), (nilAhead (k + 1) ty p "forkwright/sp.two").run Try.prog w = .ok (some false) w) (hcf : ∀ (args : Array Value) (w : World), (callFunc f args).run Try.prog w = .ok (.enter f args) w)
    (hB : B ≤ w.heap.size) (hc : ∀ cs0 cs1, TmR B w cs0 t0 → TmR B w cs1 t1 → Calls Try.prog f #[p, .bool par, .agg cs0.toArray, .agg cs1.toArray] ((w.alloc (.cells cs.toArray 26)).drewN 1) fun e w' => e = .returned (.tuple #[]) ∧ R w') :
    Calls Try.prog 32 #[.agg cs.toArray, .iface ty p] w fun e w' => e = .returned (.tuple #[]) ∧ R w' := by
  cases hT with
  | two par c b l g o m cap cs0 cs1 t0 t1 hm hcap h2 hg h5 h6 r0 r1 =>
  have hcc := hc cs0 cs1 r0 r1
  have hgw : g < w.heap.size := by omega
  clear hc
  obtain ⟨a0, a1, a2, a3, A4, a5, a6, rfl, -, -⟩ := r0.form
  obtain ⟨b0, b1, b2, b3, B4, b5, b6, rfl, -, -⟩ := r1.form
  have x0 := h5 0 _ rfl
  have x1 := h5 1 _ rfl
  have x2 := h5 2 _ rfl
  have x3 := h5 3 _ rfl
  have x4 := h5 4 _ rfl
  have y0 := h6 0 _ rfl
  have y1 := h6 1 _ rfl
  have y2 := h6 2 _ rfl
  have y3 := h6 3 _ rfl
  have y4 := h6 4 _ rfl
  rw [Nat.add_zero] at x0 y0
  clear h5 h6 r0 r1
  unfold tcells at hcc ⊢
  unfold maxLen at hcap
  have m0 : (0 : Int) < (m : Int) := by omega
  have m1 : (1 : Int) < (m : Int) := by omega
  have m2 : 0 < m := by omega
  have m3 : 1 < m := by omega
  rcases par with _ | _
  · simp only [Bool.false_eq_true, if_false] at hcc
    go_enter Try.func32, Try.ntmps32
    go_wp2_with fail
    (refine still_last (by kernel_rfl) (by kernel_rfl) ?_; simp only [List.length_cons, List.length_nil, Nat.reduceAdd, Nat.reduceSub, List.take_succ_cons, List.take_zero, List.drop_succ_cons, List.drop_zero]; repeat still_step; try refine wpStill_nil ?_)
    go_wp2_with fail
    refine hcc.mono ?_
    rintro e w1 ⟨rfl, hR⟩
    go_wp2
    go_end0
    exact ⟨rfl, hR⟩
  · simp only [if_true] at hcc
    go_enter Try.func32, Try.ntmps32
    go_wp2_with fail
    (refine still_last (by kernel_rfl) (by kernel_rfl) ?_; simp only [List.length_cons, List.length_nil, Nat.reduceAdd, Nat.reduceSub, List.take_succ_cons, List.take_zero, List.drop_succ_cons, List.drop_zero]; repeat still_step; try refine wpStill_nil ?_)
    go_wp2_with fail
    refine hcc.mono ?_
    rintro e w1 ⟨rfl, hR⟩
    go_wp2
    go_end0
    exact ⟨rfl, hR⟩

end Go.Proofs.Ytcoijmnnnfogdaa


namespace Go.Proofs.Ytcoijmnnnfogdaa
set_option linter.unusedVariables false
set_option linter.unusedSimpArgs false
set_option maxRecDepth 100000
open Go.RowKit

theorem meth_lv (g fuel : Nat) (w : World) : (method (fuel + 1) 78 (.pointer (some ⟨g, 0, none⟩)) "forkwright/sp.nothing").run Try.prog w = .ok (97, .pointer (some ⟨g, 0, none⟩)) w ∧
    (method (fuel + 1) 78 (.pointer (some ⟨g, 0, none⟩)) "forkwright/sp.one").run Try.prog w = .ok (98, .pointer (some ⟨g, 0, none⟩)) w ∧
    (method (fuel + 1) 78 (.pointer (some ⟨g, 0, none⟩)) "forkwright/sp.two").run Try.prog w = .ok (99, .pointer (some ⟨g, 0, none⟩)) w ∧
    (nilAhead (fuel + 1) 78 (.pointer (some ⟨g, 0, none⟩)) "forkwright/sp.two").run Try.prog w = .ok (some false) w :=
  ⟨by kernel_rfl, by kernel_rfl, by kernel_rfl, by kernel_rfl⟩

theorem LvEnd.and {B : Nat} {w : World} {g : Nat} {v : Value} {n : Nat} {xs : List Value} (e : Ending) (w' : World) : LvEnd B w g v n xs e w' ↔ (e = .returned (.tuple #[]) ∧ ∃ v', Lv B w' g v' n xs ∧ Keeps (fun k => k = g ∨ v.ownBlock = some k) w w' ∧ (∀ i, v'.ownBlock = some i → v.ownBlock = some i ∨ w.heap.size ≤ i)) := Iff.rfl

theorem Lv.alloc {B : Nat} {w : World} {g : Nat} {v : Value} {n : Nat} {xs : List Value} (h : Lv B w g v n xs) (o : Obj) : Lv B (w.alloc o) g v n xs := ⟨h.blk.alloc _, h.row.alloc _, by have := h.base; simp; omega, h.at_, h.ne⟩
theorem Lv.drewN {B : Nat} {w : World} {g : Nat} {v : Value} {n : Nat} {xs : List Value} (h : Lv B w g v n xs) (k : Nat) : Lv B (w.drewN k) g v n xs := ⟨h.blk, ⟨h.row.1, h.row.2⟩, h.base, h.at_, h.ne⟩

theorem lv_back {B : Nat} {w w0 : World} {g : Nat} {v : Value} {n : Nat} {xs : List Value} (hk : Keeps (fun _ => False) w w0) {e : Ending} {w' : World} (h : LvEnd B w0 g v n xs e w') : LvEnd B w g v n xs e w' := by
  obtain ⟨h1, v', h2, h3, h4⟩ := h
  have := hk.size
  exact ⟨h1, v', h2, (hk.mono (fun _ h => h.elim)).trans h3, fun i hi => (h4 i hi).imp id (fun h => by omega)⟩

theorem keeps_alloc (w : World) (o : Obj) : Keeps (fun _ => False) w (w.alloc o) := (Keeps.refl _ w).alloc o

theorem tell_leaves : ∀ (t : Sp.T) (B : Nat) (w : World) (g : Nat) (v : Value) (n : Nat) (xs cs : List Value), TmR B w cs t → Lv B w g v n xs → n + t.size ≤ 4194304 →
    Calls Try.prog 32 #[.agg cs.toArray, .iface 78 (.pointer (some ⟨g, 0, none⟩))] w (LvEnd B w g v (n + t.size) (xs ++ Sp.acccs t.leaves)) := by
  intro t
  induction t with
  | nil =>
    intro B w g v n xs cs hT hL hn
    have e : xs ++ Sp.acccs Sp.T.nil.leaves = xs := by simp [Sp.T.leaves, Sp.acccs]
    rw [e]
    refine tell_nil hT (f := 97) (fun k w => (meth_lv g k w).1) (fun _ _ => by rfl) ?_
    exact (lv_nothing B _ g v n xs (hL.alloc _)).mono fun e w' h => lv_back (keeps_alloc _ _) h
  | one c b l =>
    intro B w g v n xs cs hT hL hn
    have e : xs ++ Sp.acccs (Sp.T.one c b l).leaves = xs ++ Sp.accc (c, b, l) := by simp [Sp.T.leaves, Sp.acccs]
    rw [e]
    refine tell_one hT (f := 98) (fun k w => (meth_lv g k w).2.1) (fun _ _ => by rfl) ?_
    exact (lv_one B _ g v n xs (hL.alloc _) (c, b, l) (by omega)).mono fun e w' h => lv_back (keeps_alloc _ _) h
  | two par t0 t1 ih0 ih1 =>
    intro B w g v n xs cs hT hL hn
    rw [Sp.T.size_two] at hn ⊢
    refine tell_two hT (f := 99) (fun k w => (meth_lv g k w).2.2.1) (fun k w => (meth_lv g k w).2.2.2) (fun _ _ => by rfl) hL.base ?_
    intro cs0 cs1 r0 r1
    have hk0 : Keeps (fun _ => False) w ((w.alloc (.cells cs.toArray 26)).drewN 1) := (keeps_alloc _ _).drewN 1
    have hL0 : Lv B ((w.alloc (.cells cs.toArray 26)).drewN 1) g v n xs := (hL.alloc _).drewN 1
    have q0 : TmR B ((w.alloc (.cells cs.toArray 26)).drewN 1) cs0 t0 := r0.keep (Nat.le_refl _) (fun p hp => World.cell?_alloc_lt w _ p (by have := hL.base; omega))
    have q1 : TmR B ((w.alloc (.cells cs.toArray 26)).drewN 1) cs1 t1 := r1.keep (Nat.le_refl _) (fun p hp => World.cell?_alloc_lt w _ p (by have := hL.base; omega))
    refine Calls.mono (R := LvEnd B ((w.alloc (.cells cs.toArray 26)).drewN 1) g v (n + (t0.size + t1.size)) (xs ++ Sp.acccs (Sp.T.two par t0 t1).leaves)) ?_ (fun e w' h => lv_back hk0 h)
    generalize ((w.alloc (.cells cs.toArray 26)).drewN 1) = w0 at hL0 q0 q1 ⊢
    clear hk0 hT hL r0 r1
    obtain ⟨a0, a1, a2, a3, A4, a5, a6, rfl, -, -⟩ := q0.form
    obtain ⟨b0, b1, b2, b3, B4, b5, b6, rfl, -, -⟩ := q1.form
    unfold tcells at q0 q1 ⊢
    have hbox0 := Blk.new w0 26 [.int .i64 a0, .int .i64 a1, .bool a2, .int .i64 a3, .slice A4 a5 a6]
    have hbox1 := Blk.new (w0.alloc (.cells #[.int .i64 a0, .int .i64 a1, .bool a2, .int .i64 a3, .slice A4 a5 a6] 26)) 26 [.int .i64 b0, .int .i64 b1, .bool b2, .int .i64 b3, .slice B4 b5 b6]
    have hL2 := (hL0.alloc (.cells #[.int .i64 a0, .int .i64 a1, .bool a2, .int .i64 a3, .slice A4 a5 a6] 26)).alloc (.cells #[.int .i64 b0, .int .i64 b1, .bool b2, .int .i64 b3, .slice B4 b5 b6] 26)
    have hB1 : B ≤ (w0.alloc (.cells #[.int .i64 a0, .int .i64 a1, .bool a2, .int .i64 a3, .slice A4 a5 a6] 26)).heap.size := by have := hL0.base; simp; omega
    have s0 := (q0.alloc hL0.base (.cells #[.int .i64 a0, .int .i64 a1, .bool a2, .int .i64 a3, .slice A4 a5 a6] 26)).alloc hB1 (.cells #[.int .i64 b0, .int .i64 b1, .bool b2, .int .i64 b3, .slice B4 b5 b6] 26)
    have s1 := (q1.alloc hL0.base (.cells #[.int .i64 a0, .int .i64 a1, .bool a2, .int .i64 a3, .slice A4 a5 a6] 26)).alloc hB1 (.cells #[.int .i64 b0, .int .i64 b1, .bool b2, .int .i64 b3, .slice B4 b5 b6] 26)
    have hg1 := hL0.blk.lt
    have hv1 : ∀ i, v.ownBlock = some i → i < w0.heap.size := fun i hi => (hL0.row.lt i hi).2
    have hv2 : ∀ i, v.ownBlock = some i → B ≤ i := own_ge hL0.row
    have hk2 : Keeps (fun _ => False) w0 ((w0.alloc (.cells #[.int .i64 a0, .int .i64 a1, .bool a2, .int .i64 a3, .slice A4 a5 a6] 26)).alloc (.cells #[.int .i64 b0, .int .i64 b1, .bool b2, .int .i64 b3, .slice B4 b5 b6] 26)) := (keeps_alloc _ _).alloc _
    have hsz : ((w0.alloc (.cells #[.int .i64 a0, .int .i64 a1, .bool a2, .int .i64 a3, .slice A4 a5 a6] 26)).alloc (.cells #[.int .i64 b0, .int .i64 b1, .bool b2, .int .i64 b3, .slice B4 b5 b6] 26)).heap.size = w0.heap.size + 1 + 1 := by simp
    have hq1 : (w0.alloc (.cells #[.int .i64 a0, .int .i64 a1, .bool a2, .int .i64 a3, .slice A4 a5 a6] 26)).heap.size = w0.heap.size + 1 := by simp
    rw [hq1] at hbox1
    clear hbox0 hq1 hL0 q0 q1 hB1
    go_enter Try.func99, Try.ntmps99
    go_wp2_with fail
    refine (ih0 B _ g v n xs _ s0 hL2 (by omega)).mono ?_
    rintro e w1 ⟨rfl, v1, L1, k1, o1⟩
    rw [hsz] at o1
    have hbox := hbox1.keeps k1 (fun h => h.elim (fun e => by omega) (fun e => by have := hv1 _ e; omega))
    have hbel := k1.below (B := B) hL2.base (fun i hi => hi.elim (fun e => by rw [e]; exact hL2.at_) (hv2 i))
    have s1' := s1.later hbel
    have d0 := hbox.cell 0
    have d1 := hbox.cell 1
    have d2 := hbox.cell 2
    have d3 := hbox.cell 3
    have d4 := hbox.cell 4
    simp only [List.getElem?_cons_zero, List.getElem?_cons_succ] at d0 d1 d2 d3 d4
    have kk := hk2.mono (S' := fun k => k = g ∨ v.ownBlock = some k) (fun _ h => h.elim) |>.trans k1
    clear hbox hbox1 s0 s1 hL2 k1 hk2 hbel hsz
    go_wp2_with fail
    refine (ih1 B _ g v1 (n + t0.size) _ _ s1' L1 (by omega)).mono ?_
    rintro e w2 ⟨rfl, v2, L2, k2, o2⟩
    have hw01 := kk.size
    have kf := kk.step k2 (fun i hi h => h.elim .inl (fun e => (o1 i e).elim .inr (fun h => by omega)))
    have e1 : n + (t0.size + t1.size) = n + t0.size + t1.size := by omega
    have e2 : xs ++ Sp.acccs (Sp.T.two par t0 t1).leaves = xs ++ Sp.acccs t0.leaves ++ Sp.acccs t1.leaves := by simp [Sp.T.leaves, Sp.acccs]
    have E1 := Lib.hid e1
    have E2 := Lib.hid e2
    clear e1 e2 d0 d1 d2 d3 d4 s1' L1
    go_wp2
    go_end0
    exact ⟨rfl, v2, by rw [E1.out, E2.out]; exact L2, kf, fun i hi => (o2 i hi).elim (fun h => (o1 i h).imp id (fun h => by omega)) (fun h => .inr (by omega))⟩

theorem leaves_any (w : World) (cs : List Value) (t : Sp.T) (hT : TmR w.heap.size w cs t) (hn : t.size ≤ 4194304) :
    Calls Try.prog 14 #[.agg cs.toArray] w fun e w' => ∃ v, e = .returned v ∧ SlV w' 3 v t.size (Sp.acccs t.leaves) ∧ Below w.heap.size w w' := by
  obtain ⟨a0, a1, a2, a3, A4, a5, a6, rfl, -, -⟩ := hT.form
  unfold tcells at hT ⊢
  have s1 := (hT.alloc (Nat.le_refl _) (.cells #[.int .i64 a0, .int .i64 a1, .bool a2, .int .i64 a3, .slice A4 a5 a6] 26)).alloc (by simp) (.cells #[.slice none 0 0] 76)
  have hb2 : Below w.heap.size w ((w.alloc (.cells #[.int .i64 a0, .int .i64 a1, .bool a2, .int .i64 a3, .slice A4 a5 a6] 26)).alloc (.cells #[.slice none 0 0] 76)) := below_alloc (below_alloc (Below.refl _ _) _) _
  have hL : Lv w.heap.size ((w.alloc (.cells #[.int .i64 a0, .int .i64 a1, .bool a2, .int .i64 a3, .slice A4 a5 a6] 26)).alloc (.cells #[.slice none 0 0] 76)) (w.heap.size + 1) (.slice none 0 0) 0 [] := by
    refine ⟨?_, World.ownsRow_nil _ _ _ _, by simp; omega, by omega, by simp [Value.ownBlock]⟩
    have := Blk.new (w.alloc (.cells #[.int .i64 a0, .int .i64 a1, .bool a2, .int .i64 a3, .slice A4 a5 a6] 26)) 76 [.slice none 0 0]
    simpa using this
  clear hT
  go_enter Try.func14, Try.ntmps14
  go_wp2_with fail
  refine (tell_leaves t w.heap.size _ _ _ 0 [] _ s1 hL (by omega)).mono ?_
  rintro e w1 ⟨rfl, v1, L1, k1, -⟩
  have c0 := L1.blk.cell 0
  simp only [List.getElem?_cons_zero] at c0
  have hb : Below w.heap.size w w1 := hb2.trans (k1.below hL.base (fun i hi => hi.elim (fun e => by omega) (fun e => by simp [Value.ownBlock] at e)))
  have hs := SlV.of_own L1.row
  rw [Nat.zero_add, List.nil_append] at hs
  obtain ⟨A9, c9, rfl, h1, h2, h3, h4⟩ := hs
  have H3 := Lib.hid h3
  clear h3 s1 hL L1 k1 hb2
  go_wp2
  go_ret
  exact ⟨_, rfl, ⟨A9, c9, rfl, h1, h2, H3.out, h4⟩, hb⟩
end Go.Proofs.Ytcoijmnnnfogdaa


namespace Go.Proofs.Ytcoijmnnnfogdaa
set_option linter.unusedVariables false
set_option linter.unusedSimpArgs false
set_option maxRecDepth 100000
open Go.RowKit

namespace Sp
def prc (p : Nat × Nat) : List Value := [.int .i64 p.1, .int .i64 p.2]
def prcs (l : List (Nat × Nat)) : List Value := l.flatMap prc
theorem prcs_length (l : List (Nat × Nat)) : (prcs l).length = l.length * 2 := flat_length prc 2 (fun _ => rfl) l
theorem prcs_append (a b : List (Nat × Nat)) : prcs (a ++ b) = prcs a ++ prcs b := by simp [prcs]
theorem prc_one (a : Nat × Nat) : ∀ u ∈ prc a, u.oneCell' = true := by
  intro u hu
  simp only [prc, List.mem_cons, List.not_mem_nil, or_false] at hu
  rcases hu with rfl | rfl <;> rfl
theorem prcs_zero (n : Nat) : prcs (List.replicate n (0, 0)) = List.replicate (n * 2) (.int .i64 0) := by
  induction n with
  | zero => rfl
  | succ n ih => rw [List.replicate_succ, Nat.succ_mul, Nat.add_comm (n * 2) 2]; show prc (0, 0) ++ prcs (List.replicate n (0, 0)) = _; rw [ih, ← List.replicate_append_replicate]; rfl
theorem prcs_take (l : List (Nat × Nat)) : ∀ i, (prcs l).take (i * 2) = prcs (l.take i) := by
  induction l with
  | nil => intro i; simp [prcs]
  | cons x l ih =>
    intro i
    cases i with
    | zero => simp [prcs]
    | succ i => rw [Nat.succ_mul]; show (_ :: _ :: prcs l).take (i * 2 + 2) = _ :: _ :: prcs (l.take i); rw [← ih]; rfl
theorem prcs_drop (l : List (Nat × Nat)) : ∀ i, (prcs l).drop (i * 2) = prcs (l.drop i) := by
  induction l with
  | nil => intro i; simp [prcs]
  | cons x l ih =>
    intro i
    cases i with
    | zero => simp [prcs]
    | succ i => rw [Nat.succ_mul]; show (_ :: _ :: prcs l).drop (i * 2 + 2) = prcs (l.drop i); rw [← ih]; rfl
theorem prcs_put (l : List (Nat × Nat)) (i : Nat) (p : Nat × Nat) : (prcs l).take (i * 2) ++ prc p ++ (prcs l).drop (i * 2 + 2) = prcs (put l i [p]) := by
  have e : i * 2 + 2 = (i + 1) * 2 := by omega
  rw [e, prcs_take, prcs_drop]
  simp [put, prcs]
theorem prcs_get (l : List (Nat × Nat)) (i : Nat) (p : Nat × Nat) (h : l[i]? = some p) : (prcs l)[i * 2]? = some (.int .i64 p.1) ∧ (prcs l)[i * 2 + 1]? = some (.int .i64 p.2) := by
  have h1 := prcs_drop l i
  obtain ⟨hi, rfl⟩ := List.getElem?_eq_some_iff.1 h
  rw [List.drop_eq_getElem_cons hi] at h1
  have h2 : prcs (l[i] :: l.drop (i + 1)) = .int .i64 l[i].1 :: .int .i64 l[i].2 :: prcs (l.drop (i + 1)) := rfl
  rw [h2] at h1
  constructor
  · have := congrArg (fun x => x[0]?) h1
    simpa using this
  · have := congrArg (fun x => x[1]?) h1
    simpa using this
end Sp

/-- what numbers leaves, in block g; its pairs in block h -/
structure Mk (B : Nat) (w : World) (g h : Nat) (ps : List (Nat × Nat)) (next base : Nat) : Prop where
  blk : Blk w g 90 [.int .i64 next, .slice (some ⟨h, 0, none⟩) ps.length ps.length, .int .i64 base]
  row : Blk w h 46 (Sp.prcs ps)
  base : B ≤ w.heap.size
  atg : B ≤ g
  ath : B ≤ h
  ne : g ≠ h

def MkEnd (B : Nat) (w : World) (g h : Nat) (ps : List (Nat × Nat)) (next : Nat) : Ending → World → Prop := fun e w' =>
  e = .returned (.tuple #[]) ∧ ∃ base, Mk B w' g h ps next base ∧ Keeps (fun k => k = g ∨ k = h) w w'

theorem Mk.alloc {B : Nat} {w : World} {g h : Nat} {ps : List (Nat × Nat)} {next base : Nat} (m : Mk B w g h ps next base) (o : Obj) : Mk B (w.alloc o) g h ps next base := ⟨m.blk.alloc _, m.row.alloc _, by have := m.base; simp; omega, m.atg, m.ath, m.ne⟩
theorem Mk.drewN {B : Nat} {w : World} {g h : Nat} {ps : List (Nat × Nat)} {next base : Nat} (m : Mk B w g h ps next base) (k : Nat) : Mk B (w.drewN k) g h ps next base := ⟨m.blk, m.row, m.base, m.atg, m.ath, m.ne⟩
theorem Mk.below {B : Nat} {w w' : World} {g h : Nat} {ps : List (Nat × Nat)} {next base : Nat} (m : Mk B w g h ps next base) (hb : Below w.heap.size w w') : Mk B w' g h ps next base := ⟨m.blk.below hb, m.row.below hb, by have := m.base; have := hb.size; omega, m.atg, m.ath, m.ne⟩
theorem mk_back {B : Nat} {w w0 : World} {g h : Nat} {ps : List (Nat × Nat)} {next : Nat} (hk : Keeps (fun _ => False) w w0) {e : Ending} {w' : World} (he : MkEnd B w0 g h ps next e w') : MkEnd B w g h ps next e w' := by
  obtain ⟨h1, b', h2, h3⟩ := he
  exact ⟨h1, b', h2, (hk.mono (fun _ h => h.elim)).trans h3⟩

theorem mk_nothing (B : Nat) (w : World) (g h : Nat) (ps : List (Nat × Nat)) (next base : Nat) (m : Mk B w g h ps next base) :
    Calls Try.prog 100 #[.pointer (some ⟨g, 0, none⟩)] w (MkEnd B w g h ps next) := by
  go_enter Try.func100, Try.ntmps100
  go_wp2
  go_end0
  exact ⟨rfl, base, m, Keeps.refl _ _⟩

theorem mk_one (B : Nat) (w : World) (g h : Nat) (ps : List (Nat × Nat)) (next base : Nat) (m : Mk B w g h ps next base) (a : Sp.Acc) (hb : base < ps.length) (hn : next ≤ 4194304) (hl : ps.length ≤ 4194304) :
    Calls Try.prog 101 #[.pointer (some ⟨g, 0, none⟩), .agg #[.int .i64 a.1, .bool a.2.1, .int .i64 a.2.2]] w (MkEnd B w g h (Sp.put ps base [(base, next)]) (next + 1)) := by
  obtain ⟨a1, a2, a3⟩ := a
  simp only
  have hgh := m.ne
  have hk0 : Keeps (fun k => k = g ∨ k = h) w (w.alloc (.cells (Sp.accc (a1, a2, a3)).toArray 23)) := (Keeps.refl _ w).alloc _
  have m1 := m.alloc (.cells (Sp.accc (a1, a2, a3)).toArray 23)
  have hlen := Sp.prcs_length ps
  have hps : (Sp.put ps base [(base, next)]).length = ps.length := Sp.put_length _ _ _ (by simp; omega)
  go_enter Try.func101, Try.ntmps101
  go_wp2_with fail
  show Code.wp _ _ _ _ (w.alloc (.cells (Sp.accc (a1, a2, a3)).toArray 23))
  generalize (w.alloc (.cells (Sp.accc (a1, a2, a3)).toArray 23)) = w0 at m1 hk0 ⊢
  clear m
  have c0 := m1.blk.cell 0
  have c1 := m1.blk.cell 1
  have c2 := m1.blk.cell 2
  simp only [List.getElem?_cons_zero, List.getElem?_cons_succ] at c0 c1 c2
  obtain ⟨n, hnn⟩ : ∃ n, n = ps.length := ⟨_, rfl⟩
  have HP := Lib.hid hps
  have HN := Lib.hid hnn
  have HL := Lib.hid hlen
  rw [← hnn] at c1 hb hl
  clear hps hnn hlen
  have hb2 : (base : Int) < (n : Int) := by omega
  have hw : IntKind.i64.wrap ((next : Int) + 1) = ((next + 1 : Nat) : Int) := by rw [IntWalk.i64_in _ (by omega)]; omega
  (refine still_last (by kernel_rfl) (by kernel_rfl) ?_; simp only [List.length_cons, List.length_nil, Nat.reduceAdd, Nat.reduceSub, List.take_succ_cons, List.take_zero, List.drop_succ_cons, List.drop_zero]; repeat still_step; try refine wpStill_nil ?_)
  refine wpl_store_blk (w := w0.drewN 1) m1.row 46 (base * 2) 2 (Sp.prc (base, next)) (by kernel_rfl) rfl (by rw [HL.out, ← HN.out]; omega) (Sp.prc_one _) rfl rfl rfl rfl ?_
  intro w2 hB2 hg2
  rw [Sp.prcs_put] at hB2
  have hb3 := m1.blk.grown (w := w0.drewN 1) hg2 (fun e => hgh (by injection e))
  have d0 := hb3.cell 0
  simp only [List.getElem?_cons_zero, List.getElem?_cons_succ] at d0
  have hk2 : Keeps (fun k => k = g ∨ k = h) w0 w2 := ((Keeps.of_grown hg2).undrewN).mono (fun i hi => .inr (by injection hi))
  clear c0 c1 c2
  go_wp2_with (refine wpl_set_blk hb3 0 (.int .i64 ((next + 1 : Nat) : Int)) (by kernel_rfl) (by simp) rfl rfl rfl rfl rfl rfl ?_; intro w3 hB3 hg3)
  have hk3 : Keeps (fun k => k = g ∨ k = h) w2 w3 := (Keeps.of_grown hg3).mono (fun i hi => .inl (by injection hi))
  have hfin : Mk B w3 g h (Sp.put ps base [(base, next)]) (next + 1) base := ⟨by rw [HP.out]; simpa using hB3, hB2.grown hg3 (fun e => hgh (by injection e with e; exact e.symm)), by have := m1.base; have := hk2.size; have := hk3.size; omega, m1.atg, m1.ath, hgh⟩
  have hkf := (hk0.trans hk2).trans hk3
  clear hB2 hg2 hb3 d0 hB3 hg3 m1 hk0 hk2 hk3
  go_wp2
  go_end0
  exact ⟨rfl, base, hfin, hkf⟩

theorem Mk.setbase {B : Nat} {w w' : World} {g h : Nat} {ps : List (Nat × Nat)} {next base base2 : Nat} (m : Mk B w g h ps next base) (hB : Blk w' g 90 ([.int .i64 next, .slice (some ⟨h, 0, none⟩) ps.length ps.length, .int .i64 base].set 2 (.int .i64 base2))) (hg : w.grownBy w' (some g)) :
    Mk B w' g h ps next base2 ∧ Keeps (fun k => k = g ∨ k = h) w w' := by
  have hk : Keeps (fun k => k = g ∨ k = h) w w' := (Keeps.of_grown hg).mono (fun i hi => .inl (by injection hi))
  exact ⟨⟨by simpa using hB, m.row.grown hg (fun e => m.ne (by injection e with e; exact e.symm)), by have := m.base; have := hk.size; omega, m.atg, m.ath, m.ne⟩, hk⟩

theorem meth_mk (g fuel : Nat) (w : World) : (method (fuel + 1) 91 (.pointer (some ⟨g, 0, none⟩)) "forkwright/sp.nothing").run Try.prog w = .ok (100, .pointer (some ⟨g, 0, none⟩)) w ∧
    (method (fuel + 1) 91 (.pointer (some ⟨g, 0, none⟩)) "forkwright/sp.one").run Try.prog w = .ok (101, .pointer (some ⟨g, 0, none⟩)) w ∧
    (method (fuel + 1) 91 (.pointer (some ⟨g, 0, none⟩)) "forkwright/sp.two").run Try.prog w = .ok (102, .pointer (some ⟨g, 0, none⟩)) w ∧
    (nilAhead (fuel + 1) 91 (.pointer (some ⟨g, 0, none⟩)) "forkwright/sp.two").run Try.prog w = .ok (some false) w :=
  ⟨by kernel_rfl, by kernel_rfl, by kernel_rfl, by kernel_rfl⟩

def MarkTell (t : Sp.T) : Prop := ∀ (B : Nat) (w : World) (g h : Nat) (ps : List (Nat × Nat)) (next base : Nat) (cs : List Value), TmR B w cs t → Mk B w g h ps next base → base + t.size ≤ ps.length → next + t.size ≤ 4194304 → ps.length ≤ 4194304 →
    Calls Try.prog 32 #[.agg cs.toArray, .iface 91 (.pointer (some ⟨g, 0, none⟩))] w (MkEnd B w g h (Sp.put ps base (t.marks base next)) (next + t.size))

set_option maxHeartbeats 2000000 in
theorem mk_two (par : Bool) (t0 t1 : Sp.T) (ih0 : MarkTell t0) (ih1 : MarkTell t1) (B : Nat) (w0 : World) (g h : Nat) (ps : List (Nat × Nat)) (next base : Nat) (cs0 cs1 : List Value) (q0 : TmR B w0 cs0 t0) (q1 : TmR B w0 cs1 t1) (hM : Mk B w0 g h ps next base)
    (hb : base + (t0.size + t1.size) ≤ ps.length) (hn : next + (t0.size + t1.size) ≤ 4194304) (hl : ps.length ≤ 4194304) :
    Calls Try.prog 102 #[.pointer (some ⟨g, 0, none⟩), .bool par, .agg cs0.toArray, .agg cs1.toArray] w0 (MkEnd B w0 g h (Sp.put ps base ((Sp.T.two par t0 t1).marks base next)) (next + (t0.size + t1.size))) := by
  obtain ⟨a0, a1, a2, a3, A4, a5, a6, rfl, -, -⟩ := q0.form
  obtain ⟨b0, b1, b2, b3, B4, b5, b6, rfl, -, -⟩ := q1.form
  unfold tcells at q0 q1 ⊢
  have hbox0 := (Blk.new w0 26 [.int .i64 a0, .int .i64 a1, .bool a2, .int .i64 a3, .slice A4 a5 a6]).alloc (.cells #[.int .i64 b0, .int .i64 b1, .bool b2, .int .i64 b3, .slice B4 b5 b6] 26)
  have hbox1 := Blk.new (w0.alloc (.cells #[.int .i64 a0, .int .i64 a1, .bool a2, .int .i64 a3, .slice A4 a5 a6] 26)) 26 [.int .i64 b0, .int .i64 b1, .bool b2, .int .i64 b3, .slice B4 b5 b6]
  have hM2 := (hM.alloc (.cells #[.int .i64 a0, .int .i64 a1, .bool a2, .int .i64 a3, .slice A4 a5 a6] 26)).alloc (.cells #[.int .i64 b0, .int .i64 b1, .bool b2, .int .i64 b3, .slice B4 b5 b6] 26)
  have hB1 : B ≤ (w0.alloc (.cells #[.int .i64 a0, .int .i64 a1, .bool a2, .int .i64 a3, .slice A4 a5 a6] 26)).heap.size := by have := hM.base; simp; omega
  have s0 := (q0.alloc hM.base (.cells #[.int .i64 a0, .int .i64 a1, .bool a2, .int .i64 a3, .slice A4 a5 a6] 26)).alloc hB1 (.cells #[.int .i64 b0, .int .i64 b1, .bool b2, .int .i64 b3, .slice B4 b5 b6] 26)
  have s1 := (q1.alloc hM.base (.cells #[.int .i64 a0, .int .i64 a1, .bool a2, .int .i64 a3, .slice A4 a5 a6] 26)).alloc hB1 (.cells #[.int .i64 b0, .int .i64 b1, .bool b2, .int .i64 b3, .slice B4 b5 b6] 26)
  have hg1 := hM.blk.lt
  have hh1 := hM.row.lt
  have hk2 : Keeps (fun k => k = g ∨ k = h) w0 ((w0.alloc (.cells #[.int .i64 a0, .int .i64 a1, .bool a2, .int .i64 a3, .slice A4 a5 a6] 26)).alloc (.cells #[.int .i64 b0, .int .i64 b1, .bool b2, .int .i64 b3, .slice B4 b5 b6] 26)) := ((Keeps.refl _ w0).alloc _).alloc _
  have hq1 : (w0.alloc (.cells #[.int .i64 a0, .int .i64 a1, .bool a2, .int .i64 a3, .slice A4 a5 a6] 26)).heap.size = w0.heap.size + 1 := by simp
  rw [hq1] at hbox1
  clear hq1 q0 q1 hB1 hM
  go_enter Try.func102, Try.ntmps102
  go_wp2_with fail
  try rw [show (w0.alloc (.cells #[.int .i64 a0, .int .i64 a1, .bool a2, .int .i64 a3, .slice A4 a5 a6] 26)).heap.size = w0.heap.size + 1 from by simp]
  generalize ((w0.alloc (.cells #[.int .i64 a0, .int .i64 a1, .bool a2, .int .i64 a3, .slice A4 a5 a6] 26)).alloc (.cells #[.int .i64 b0, .int .i64 b1, .bool b2, .int .i64 b3, .slice B4 b5 b6] 26)) = w2 at hbox0 hbox1 hM2 s0 s1 hk2 ⊢
  obtain ⟨q, hq⟩ : ∃ q, q = w0.heap.size := ⟨_, rfl⟩
  rw [← hq] at hbox0 hbox1 hg1 hh1 ⊢
  have look : ∀ w', Keeps (fun k => k = g ∨ k = h) w2 w' → (w'.cell? ⟨q, 0, none⟩ = some (.int .i64 a0) ∧ w'.cell? ⟨q, 1, none⟩ = some (.int .i64 a1) ∧ w'.cell? ⟨q, 2, none⟩ = some (.bool a2) ∧ w'.cell? ⟨q, 3, none⟩ = some (.int .i64 a3) ∧ w'.cell? ⟨q, 4, none⟩ = some (.slice A4 a5 a6)) ∧
      (w'.cell? ⟨q + 1, 0, none⟩ = some (.int .i64 b0) ∧ w'.cell? ⟨q + 1, 1, none⟩ = some (.int .i64 b1) ∧ w'.cell? ⟨q + 1, 2, none⟩ = some (.bool b2) ∧ w'.cell? ⟨q + 1, 3, none⟩ = some (.int .i64 b3) ∧ w'.cell? ⟨q + 1, 4, none⟩ = some (.slice B4 b5 b6)) ∧
      TmR B w' [.int .i64 a0, .int .i64 a1, .bool a2, .int .i64 a3, .slice A4 a5 a6] t0 ∧ TmR B w' [.int .i64 b0, .int .i64 b1, .bool b2, .int .i64 b3, .slice B4 b5 b6] t1 := fun w' hk => by
    have x0 := hbox0.keeps hk (fun e => by omega)
    have x1 := hbox1.keeps hk (fun e => by omega)
    have hbl := hk.below (B := B) hM2.base (fun i hi => hi.elim (fun e => e ▸ hM2.atg) (fun e => e ▸ hM2.ath))
    exact ⟨⟨by rw [x0.cell]; rfl, by rw [x0.cell]; rfl, by rw [x0.cell]; rfl, by rw [x0.cell]; rfl, by rw [x0.cell]; rfl⟩, ⟨by rw [x1.cell]; rfl, by rw [x1.cell]; rfl, by rw [x1.cell]; rfl, by rw [x1.cell]; rfl, by rw [x1.cell]; rfl⟩, s0.later hbl, s1.later hbl⟩
  have keepS : ∀ w', Below w2.heap.size w2 w' → (Below w2.heap.size w2 w' ∧ w'.cell? ⟨g, 2, none⟩ = some (.int .i64 base) ∧ w'.cell? ⟨q, 0, none⟩ = some (.int .i64 a0) ∧ w'.cell? ⟨q, 1, none⟩ = some (.int .i64 a1) ∧ w'.cell? ⟨q, 2, none⟩ = some (.bool a2) ∧ w'.cell? ⟨q, 3, none⟩ = some (.int .i64 a3) ∧ w'.cell? ⟨q, 4, none⟩ = some (.slice A4 a5 a6)) := fun w' hb =>
    ⟨hb, by rw [(hM2.blk.below hb).cell]; rfl, (look w' (Keeps.of_below hb _)).1⟩
  have hlv : ∀ w', (Below w2.heap.size w2 w' ∧ w'.cell? ⟨g, 2, none⟩ = some (.int .i64 base) ∧ w'.cell? ⟨q, 0, none⟩ = some (.int .i64 a0) ∧ w'.cell? ⟨q, 1, none⟩ = some (.int .i64 a1) ∧ w'.cell? ⟨q, 2, none⟩ = some (.bool a2) ∧ w'.cell? ⟨q, 3, none⟩ = some (.int .i64 a3) ∧ w'.cell? ⟨q, 4, none⟩ = some (.slice A4 a5 a6)) →
      Calls Try.prog 14 #[.agg #[.int .i64 a0, .int .i64 a1, .bool a2, .int .i64 a3, .slice A4 a5 a6]] w' fun e w'' => ∃ A c, e = .returned (.slice A t0.size c) ∧ (t0.size ≤ c ∧ c ≤ 9223372036854775807) ∧ Below w2.heap.size w2 w'' ∧ Below w'.heap.size w' w'' := fun w' hS =>
    (leaves_any w' _ t0 ((look w' (Keeps.of_below hS.1 _)).2.2.1.keep (by have := hS.1.size; have := hM2.base; omega) (fun _ _ => rfl)) (by omega)).mono fun e w'' hh => by
      obtain ⟨v, rfl, ⟨A, c, rfl, h1, h2, -, -⟩, h3⟩ := hh
      exact ⟨A, c, rfl, ⟨h1, h2⟩, below_next h3 hS.1, h3⟩
  have hlen0 : ∀ a j, (t0.marks a j).length = t0.size := t0.marks_length
  have hlen1 : ∀ a j, (t1.marks a j).length = t1.size := t1.marks_length
  have hE0 := fun w g h ps next base => ih0 B w g h ps next base [.int .i64 a0, .int .i64 a1, .bool a2, .int .i64 a3, .slice A4 a5 a6]
  have hE1 := fun w g h ps next base => ih1 B w g h ps next base [.int .i64 b0, .int .i64 b1, .bool b2, .int .i64 b3, .slice B4 b5 b6]
  clear hbox0 hbox1 s0 s1 hq ih0 ih1
  go_region_held3 (fun w' => (Below w2.heap.size w2 w' ∧ w'.cell? ⟨g, 2, none⟩ = some (.int .i64 base) ∧ w'.cell? ⟨q, 0, none⟩ = some (.int .i64 a0) ∧ w'.cell? ⟨q, 1, none⟩ = some (.int .i64 a1) ∧ w'.cell? ⟨q, 2, none⟩ = some (.bool a2) ∧ w'.cell? ⟨q, 3, none⟩ = some (.int .i64 a3) ∧ w'.cell? ⟨q, 4, none⟩ = some (.slice A4 a5 a6)))
    ((refine keepS _ ?_; repeat (first | exact Below.refl _ _ | assumption | apply below_alloc | apply below_drew | exact (And.left (by assumption)) | (apply below_next; assumption))))
    ((go_at_call 14; refine (hlv _ (by assumption)).mono ?_; rintro e w6 ⟨A6, c6, rfl, ⟨hle6, hm6⟩, hb5, hb6⟩))
  rename_i hHeld
  have k6 : Keeps (fun k => k = g ∨ k = h) w2 w6 := Keeps.of_below hb5 _
  have m6 := hM2.below hb5
  clear hHeld hb5 hb6 keepS hlv hM2
  have hw : IntKind.i64.wrap ((base : Int) + (t0.size : Int)) = ((base + t0.size : Nat) : Int) := by rw [IntWalk.i64_in _ (by omega)]; omega
  rcases par with _ | _
  · obtain ⟨⟨x0, x1, x2, x3, x4⟩, -, r0, -⟩ := look w6 k6
    go_wp2_with fail
    refine (hE0 w6 g h ps next base r0 m6 (by omega) (by omega) hl).mono ?_
    rintro e w7 ⟨rfl, bs7, m7, k7⟩
    have kk7 := k6.trans k7
    clear x0 x1 x2 x3 x4 r0
    go_wp2_with (refine wpl_set_blk m7.blk 2 (.int .i64 ((base + t0.size : Nat) : Int)) (by kernel_rfl) (by simp) rfl rfl rfl rfl rfl rfl ?_; intro w8 hB8 hg8; obtain ⟨m8, k8⟩ := m7.setbase hB8 hg8; have kk8 := kk7.trans k8; obtain ⟨-, ⟨x0, x1, x2, x3, x4⟩, -, r1⟩ := look w8 kk8; clear hB8 hg8)
    have hpl : (Sp.put ps base (t0.marks base next)).length = ps.length := Sp.put_length _ _ _ (by rw [hlen0]; omega)
    have hput := Sp.put_put ps (t0.marks base next) (t1.marks (base + t0.size) (next + t0.size)) base (by rw [hlen0, hlen1]; omega)
    rw [hlen0] at hput
    have hcall := hE1 w8 g h _ (next + t0.size) (base + t0.size) r1 m8 (by rw [hpl]; omega) (by omega) (by rw [hpl]; exact hl)
    rw [hput] at hcall
    clear hput hpl hE0 hE1 look m8 m7 m6
    refine hcall.mono ?_
    rintro e w9 ⟨rfl, bs9, m9, k9⟩
    clear hcall
    go_wp2
    go_end0
    exact ⟨rfl, bs9, by rw [← Nat.add_assoc]; exact m9, hk2.trans (kk8.trans k9)⟩
  · go_wp2_with (refine wpl_set_blk m6.blk 2 (.int .i64 ((base + t0.size : Nat) : Int)) (by kernel_rfl) (by simp) rfl rfl rfl rfl rfl rfl ?_; intro w7 hB7 hg7; obtain ⟨m7, k7⟩ := m6.setbase hB7 hg7; have kk7 := k6.trans k7; obtain ⟨-, ⟨x0, x1, x2, x3, x4⟩, -, r1⟩ := look w7 kk7; clear hB7 hg7)
    refine (hE1 w7 g h ps next (base + t0.size) r1 m7 (by omega) (by omega) hl).mono ?_
    rintro e w8 ⟨rfl, bs8, m8, k8⟩
    have kk8 := kk7.trans k8
    clear x0 x1 x2 x3 x4 r1
    go_wp2_with (refine wpl_set_blk m8.blk 2 (.int .i64 (base : Int)) (by kernel_rfl) (by simp) rfl rfl rfl rfl rfl rfl ?_; intro w9 hB9 hg9; obtain ⟨m9, k9⟩ := m8.setbase hB9 hg9; have kk9 := kk8.trans k9; obtain ⟨⟨x0, x1, x2, x3, x4⟩, -, r0, -⟩ := look w9 kk9; clear hB9 hg9)
    have hpl : (Sp.put ps (base + t0.size) (t1.marks (base + t0.size) next)).length = ps.length := Sp.put_length _ _ _ (by rw [hlen1]; omega)
    have hput := Sp.put_back ps (t0.marks base (next + t1.size)) (t1.marks (base + t0.size) next) base (by rw [hlen0, hlen1]; omega)
    rw [hlen0] at hput
    have hcall := hE0 w9 g h _ (next + t1.size) base r0 m9 (by rw [hpl]; omega) (by omega) (by rw [hpl]; exact hl)
    rw [hput] at hcall
    clear hput hpl hE0 hE1 look m9 m8 m7 m6
    refine hcall.mono ?_
    rintro e w10 ⟨rfl, bs10, m10, k10⟩
    clear hcall
    go_wp2
    go_end0
    exact ⟨rfl, bs10, by rw [show next + (t0.size + t1.size) = next + t1.size + t0.size from by omega]; exact m10, hk2.trans (kk9.trans k10)⟩

theorem tell_marks (t : Sp.T) : MarkTell t := by
  induction t with
  | nil =>
    intro B w g h ps next base cs hT hM hb hn hl
    have e : Sp.put ps base (Sp.T.nil.marks base next) = ps := Sp.put_nil _ _
    rw [e]
    refine tell_nil hT (f := 100) (fun k w => (meth_mk g k w).1) (fun _ _ => by rfl) ?_
    exact (mk_nothing B _ g h ps next base (hM.alloc _)).mono fun e w' h => mk_back (keeps_alloc _ _) h
  | one c b l =>
    intro B w g h ps next base cs hT hM hb hn hl
    have hb' : base + 1 ≤ ps.length := hb
    have hn' : next + 1 ≤ 4194304 := hn
    refine tell_one hT (f := 101) (fun k w => (meth_mk g k w).2.1) (fun _ _ => by rfl) ?_
    exact (mk_one B _ g h ps next base (hM.alloc _) (c, b, l) (by omega) (by omega) hl).mono fun e w' h => mk_back (keeps_alloc _ _) h
  | two par t0 t1 ih0 ih1 =>
    intro B w g h ps next base cs hT hM hb hn hl
    rw [Sp.T.size_two] at hn hb ⊢
    refine tell_two hT (f := 102) (fun k w => (meth_mk g k w).2.2.1) (fun k w => (meth_mk g k w).2.2.2) (fun _ _ => by rfl) hM.base ?_
    intro cs0 cs1 r0 r1
    have hk0 : Keeps (fun _ => False) w ((w.alloc (.cells cs.toArray 26)).drewN 1) := (keeps_alloc _ _).drewN 1
    have v0 : TmR B ((w.alloc (.cells cs.toArray 26)).drewN 1) cs0 t0 := r0.keep (Nat.le_refl _) (fun p hp => World.cell?_alloc_lt w _ p (by have := hM.base; omega))
    have v1 : TmR B ((w.alloc (.cells cs.toArray 26)).drewN 1) cs1 t1 := r1.keep (Nat.le_refl _) (fun p hp => World.cell?_alloc_lt w _ p (by have := hM.base; omega))
    have hM1 : Mk B ((w.alloc (.cells cs.toArray 26)).drewN 1) g h ps next base := (hM.alloc _).drewN 1
    exact (mk_two par t0 t1 ih0 ih1 B _ g h ps next base cs0 cs1 v0 v1 hM1 hb hn hl).mono fun e w' h => mk_back hk0 h
end Go.Proofs.Ytcoijmnnnfogdaa
