/-
  A leaf, made: forkwrightkeep's leaf, walked.
-/
import Derived.Test.YtfjmhmfkhgjnhaaDoorOrP2
import Derived.Test.YtfjmhmfkhgjnhaaDoorOrP3
import Derived.Test.YtfjmhmfkhgjnhaaDoorOrP4
import Derived.Test.YtfjmhmfkhgjnhaaDoorOrP6
import Derived.Test.YtfjmhmfkhgjnhaaDoorOrP5
import Derived.Test.YtfjmhmfkhgjnhaaDoorRows
import Derived.Test.YtfjmhmfkhgjnhaaDoorOrP1
import Derived.Test.YtfjmhmfkhgjnhaaDoorChecked
import Derived.Deep.RegionLaw

namespace Go.Proofs.YtfjmhmfkhgjnhaaDoor.Sp
set_option linter.unusedVariables false
set_option linter.unusedSimpArgs false
set_option maxRecDepth 100000

inductive T where
  | nil
  | one (c : Int) (wr : Bool) (lb : Int)
  | two (par : Bool) (l r : T)

abbrev Acc := Int × Bool × Int

def T.leaves : T → List Acc
  | .nil => []
  | .one c b l => [(c, b, l)]
  | .two _ l r => l.leaves ++ r.leaves
def T.size (t : T) : Nat := t.leaves.length
def T.span : T → Nat
  | .nil => 0
  | .one _ _ _ => 1
  | .two par l r => if par then max l.span r.span else l.span + r.span
def T.width : T → Nat
  | .nil => 0
  | .one _ _ _ => 1
  | .two par l r => if par then l.width + r.width else max l.width r.width

theorem T.size_two (p : Bool) (l r : T) : (T.two p l r).size = l.size + r.size := by simp [T.size, T.leaves]
def T.cnt : T → Nat
  | .nil => 1
  | .one _ _ _ => 1
  | .two _ l r => 1 + l.cnt + r.cnt
theorem T.size_le_cnt (t : T) : t.size ≤ t.cnt := by
  induction t with
  | nil => exact Nat.zero_le _
  | one _ _ _ => exact Nat.le_refl _
  | two p l r ihl ihr => rw [T.size_two, T.cnt]; omega
theorem T.span_le (t : T) : t.span ≤ t.size := by
  induction t with
  | nil => exact Nat.le_refl _
  | one _ _ _ => exact Nat.le_refl _
  | two p l r ihl ihr =>
    rw [T.size_two]
    cases p <;> simp only [T.span] <;> simp <;> omega
theorem T.width_le (t : T) : t.width ≤ t.size := by
  induction t with
  | nil => exact Nat.le_refl _
  | one _ _ _ => exact Nat.le_refl _
  | two p l r ihl ihr =>
    rw [T.size_two]
    cases p <;> simp only [T.width] <;> simp <;> omega
theorem T.area (t : T) : t.size ≤ t.span * t.width := by
  induction t with
  | nil => exact Nat.le_refl _
  | one _ _ _ => exact Nat.le_refl _
  | two p l r ihl ihr =>
    rw [T.size_two]
    cases p
    · simp only [T.span, T.width, Bool.false_eq_true, if_false, Nat.add_mul]
      exact Nat.add_le_add (Nat.le_trans ihl (Nat.mul_le_mul_left _ (Nat.le_max_left _ _))) (Nat.le_trans ihr (Nat.mul_le_mul_left _ (Nat.le_max_right _ _)))
    · simp only [T.span, T.width, if_true, Nat.mul_add]
      exact Nat.add_le_add (Nat.le_trans ihl (Nat.mul_le_mul_right _ (Nat.le_max_left _ _))) (Nat.le_trans ihr (Nat.mul_le_mul_right _ (Nat.le_max_right _ _)))
theorem T.zero (t : T) : (t.size = 0 ↔ t.span = 0) ∧ (t.size = 0 ↔ t.width = 0) := by
  have h1 := t.span_le
  have h2 := t.width_le
  have h3 := t.area
  refine ⟨⟨fun h => by omega, fun h => ?_⟩, ⟨fun h => by omega, fun h => ?_⟩⟩
  · rw [h, Nat.zero_mul] at h3; omega
  · rw [h, Nat.mul_zero] at h3; omega
end Go.Proofs.YtfjmhmfkhgjnhaaDoor.Sp


namespace Go.Proofs.YtfjmhmfkhgjnhaaDoor.Sp
set_option linter.unusedVariables false
set_option linter.unusedSimpArgs false
set_option maxRecDepth 100000

def put {α : Type} (ps : List α) (a : Nat) (ms : List α) : List α := ps.take a ++ ms ++ ps.drop (a + ms.length)

theorem put_get {α : Type} (ps ms : List α) (a i : Nat) (h : a + ms.length ≤ ps.length) : (put ps a ms)[i]? = if i < a then ps[i]? else if i < a + ms.length then ms[i - a]? else ps[i]? := by
  unfold put
  have h1 : (ps.take a).length = a := by simp; omega
  by_cases h2 : i < a
  · rw [if_pos h2, List.append_assoc, List.getElem?_append_left (by omega), List.getElem?_take_of_lt h2]
  · rw [if_neg h2]
    by_cases h3 : i < a + ms.length
    · rw [if_pos h3, List.append_assoc, List.getElem?_append_right (by omega), h1, List.getElem?_append_left (by omega)]
    · rw [if_neg h3, List.getElem?_append_right (by simp; omega), List.getElem?_drop]
      congr 1; simp; omega
theorem put_length {α : Type} (ps ms : List α) (a : Nat) (h : a + ms.length ≤ ps.length) : (put ps a ms).length = ps.length := by
  unfold put; simp; omega
theorem put_nil {α : Type} (ps : List α) (a : Nat) : put ps a [] = ps := by simp [put]
theorem put_put {α : Type} (ps m1 m2 : List α) (a : Nat) (h : a + m1.length + m2.length ≤ ps.length) : put (put ps a m1) (a + m1.length) m2 = put ps a (m1 ++ m2) := by
  apply List.ext_getElem?
  intro i
  rw [put_get _ _ _ _ (by rw [put_length _ _ _ (by omega)]; omega), put_get _ _ _ _ (by omega), put_get _ _ _ _ (by simp; omega)]
  simp only [List.length_append]
  by_cases h1 : i < a
  · rw [if_pos h1, if_pos h1, if_pos (by omega)]
  · rw [if_neg h1, if_neg h1]
    by_cases h2 : i < a + m1.length
    · rw [if_pos h2, if_pos h2, if_pos (by omega), List.getElem?_append_left (by omega)]
    · rw [if_neg h2, if_neg h2]
      by_cases h3 : i < a + m1.length + m2.length
      · rw [if_pos h3, if_pos (by omega), List.getElem?_append_right (by omega)]
        congr 1; omega
      · rw [if_neg h3, if_neg (by omega)]
theorem put_back {α : Type} (ps m1 m2 : List α) (a : Nat) (h : a + m1.length + m2.length ≤ ps.length) : put (put ps (a + m1.length) m2) a m1 = put ps a (m1 ++ m2) := by
  apply List.ext_getElem?
  intro i
  rw [put_get _ _ _ _ (by rw [put_length _ _ _ (by omega)]; omega), put_get _ _ _ _ (by omega), put_get _ _ _ _ (by simp; omega)]
  simp only [List.length_append]
  by_cases h1 : i < a
  · rw [if_pos h1, if_pos h1, if_pos (by omega)]
  · rw [if_neg h1, if_neg h1]
    by_cases h2 : i < a + m1.length
    · rw [if_pos h2, if_pos (by omega), List.getElem?_append_left (by omega)]
    · rw [if_neg h2, if_neg h2]
      by_cases h3 : i < a + m1.length + m2.length
      · rw [if_pos h3, if_pos (by omega), List.getElem?_append_right (by omega)]
        congr 1; omega
      · rw [if_neg h3, if_neg (by omega)]
theorem put_all {α : Type} (ps ms : List α) (h : ms.length = ps.length) : put ps 0 ms = ms := by
  unfold put
  rw [List.take_zero, List.nil_append, List.drop_of_length_le (by omega), List.append_nil]
theorem put_one {α : Type} (ps : List α) (a : Nat) (x : α) (h : a < ps.length) : put ps a [x] = ps.set a x := by
  unfold put
  rw [List.set_eq_take_append_cons_drop, if_pos h]
  simp

def T.marks : T → Nat → Nat → List (Nat × Nat)
  | .nil, _, _ => []
  | .one _ _ _, a, j => [(a, j)]
  | .two par l r, a, j => l.marks a (if par then j + r.size else j) ++ r.marks (a + l.size) (if par then j else j + l.size)
theorem T.marks_length (t : T) : ∀ a j, (t.marks a j).length = t.size := by
  induction t with
  | nil => intro a j; rfl
  | one _ _ _ => intro a j; rfl
  | two p l r ihl ihr => intro a j; rw [T.size_two, T.marks, List.length_append, ihl, ihr]

/-- the place of leaf i in the second numbering -/
def T.rk : T → Nat → Nat
  | .nil, _ => 0
  | .one _ _ _, _ => 0
  | .two par l r, i => if i < l.size then l.rk i + (if par then r.size else 0) else r.rk (i - l.size) + (if par then 0 else l.size)
theorem T.rk_lt (t : T) : ∀ i, i < t.size → t.rk i < t.size := by
  induction t with
  | nil => intro i h; exact absurd h (Nat.not_lt_zero _)
  | one _ _ _ => intro i h; exact Nat.zero_lt_one
  | two p l r ihl ihr =>
    intro i h
    rw [T.size_two] at h ⊢
    unfold T.rk
    split
    · have := ihl i ‹_›; cases p <;> simp <;> omega
    · have := ihr (i - l.size) (by omega); cases p <;> simp <;> omega
theorem T.marks_get (t : T) : ∀ a j i, i < t.size → (t.marks a j)[i]? = some (a + i, j + t.rk i) := by
  induction t with
  | nil => intro a j i h; exact absurd h (Nat.not_lt_zero _)
  | one _ _ _ =>
    intro a j i h
    have : i = 0 := by have : i < 1 := h; omega
    subst this; rfl
  | two p l r ihl ihr =>
    intro a j i h
    rw [T.size_two] at h
    rw [T.marks, T.rk]
    by_cases h1 : i < l.size
    · rw [List.getElem?_append_left (by rw [T.marks_length]; exact h1), ihl _ _ _ h1, if_pos h1]
      cases p <;> simp <;> omega
    · rw [List.getElem?_append_right (by rw [T.marks_length]; omega), T.marks_length, ihr _ _ _ (by omega), if_neg h1]
      cases p <;> simp <;> omega
theorem T.rk_side (p : Bool) (l r : T) (i : Nat) (h : i < (T.two p l r).size) :
    (i < l.size ∧ (T.two p l r).rk i = l.rk i + (if p then r.size else 0) ∧ l.rk i < l.size) ∨ (l.size ≤ i ∧ i - l.size < r.size ∧ (T.two p l r).rk i = r.rk (i - l.size) + (if p then 0 else l.size) ∧ r.rk (i - l.size) < r.size) := by
  rw [T.size_two] at h
  by_cases h1 : i < l.size
  · exact .inl ⟨h1, by rw [T.rk, if_pos h1], l.rk_lt _ h1⟩
  · exact .inr ⟨by omega, by omega, by rw [T.rk, if_neg h1], r.rk_lt _ (by omega)⟩
theorem T.rk_inj (t : T) : ∀ i k, i < t.size → k < t.size → t.rk i = t.rk k → i = k := by
  induction t with
  | nil => intro i k h; exact absurd h (Nat.not_lt_zero _)
  | one _ _ _ => intro i k h h' _; have : i < 1 := h; have : k < 1 := h'; omega
  | two p l r ihl ihr =>
    intro i k h h' e
    rcases T.rk_side p l r i h with ⟨h1, h2, h3⟩ | ⟨h1, h0, h2, h3⟩ <;> rcases T.rk_side p l r k h' with ⟨k1, k2, k3⟩ | ⟨k1, k0, k2, k3⟩
    · exact ihl i k h1 k1 (by cases p <;> simp at h2 k2 <;> omega)
    · cases p <;> simp at h2 k2 <;> omega
    · cases p <;> simp at h2 k2 <;> omega
    · have := ihr _ _ h0 k0 (by cases p <;> simp at h2 k2 <;> omega)
      omega

/-- leaf i is ahead of leaf k -/
def T.bf (t : T) (i k : Nat) : Prop := i < k ∧ t.rk i < t.rk k
instance (t : T) (i k : Nat) : Decidable (t.bf i k) := inferInstanceAs (Decidable (_ ∧ _))
def T.apart (t : T) (i k : Nat) : Prop := i ≠ k ∧ ¬ t.bf i k ∧ ¬ t.bf k i
theorem T.no_n (t : T) : ∀ a b c d, a < t.size → b < t.size → c < t.size → d < t.size → t.bf a c → t.bf a d → t.bf b d → t.apart a b → t.apart c d → ¬ t.apart b c := by
  induction t with
  | nil => intro a b c d h; exact absurd h (Nat.not_lt_zero _)
  | one _ _ _ => intro a b c d h h1 h2 h3 h4; have : a < 1 := h; have : c < 1 := h2; have := h4.1; omega
  | two p l r ihl ihr =>
    intro a b c d ha hb hc hd h1 h2 h3 h4 h5 h6
    unfold T.apart T.bf at h4 h5 h6
    unfold T.bf at h1 h2 h3
    rcases T.rk_side p l r a ha with ⟨a1, a2, a3⟩ | ⟨a1, a0, a2, a3⟩ <;> rcases T.rk_side p l r b hb with ⟨b1, b2, b3⟩ | ⟨b1, b0, b2, b3⟩ <;>
    rcases T.rk_side p l r c hc with ⟨c1, c2, c3⟩ | ⟨c1, c0, c2, c3⟩ <;> rcases T.rk_side p l r d hd with ⟨d1, d2, d3⟩ | ⟨d1, d0, d2, d3⟩
    · exact ihl a b c d a1 b1 c1 d1 (by unfold T.bf; omega) (by unfold T.bf; omega) (by unfold T.bf; omega) (by unfold T.apart T.bf; omega) (by unfold T.apart T.bf; omega) (by unfold T.apart T.bf; omega)
    all_goals first
      | (exfalso; cases p <;> simp at a2 b2 c2 d2 <;> omega)
      | exact ihr (a - l.size) (b - l.size) (c - l.size) (d - l.size) a0 b0 c0 d0 (by unfold T.bf; omega) (by unfold T.bf; omega) (by unfold T.bf; omega) (by unfold T.apart T.bf; omega) (by unfold T.apart T.bf; omega) (by unfold T.apart T.bf; omega)

def T.before (t : T) (i j : Int) : Bool := decide ((0 ≤ i ∧ 0 ≤ j ∧ i < t.size ∧ j < t.size) ∧ t.bf i.toNat j.toNat)
theorem T.before_irr (t : T) (i : Int) : t.before i i = false := by
  unfold T.before T.bf; simp
theorem T.before_lt (t : T) (i j : Int) (h : t.before i j = true) : i < j := by
  unfold T.before T.bf at h; have := of_decide_eq_true h; omega
theorem T.before_trans (t : T) (i j k : Int) (h : t.before i j = true) (h' : t.before j k = true) : t.before i k = true := by
  unfold T.before T.bf at *
  have h1 := of_decide_eq_true h
  have h2 := of_decide_eq_true h'
  exact decide_eq_true (by omega)

/-! ### brackets -/
def T.same (s t : T) : Prop := s.leaves = t.leaves ∧ ∀ a j, s.marks a j = t.marks a j
theorem T.same_size {s t : T} (h : s.same t) : s.size = t.size := by unfold T.size; rw [h.1]
theorem T.same_rk {s t : T} (h : s.same t) (i : Nat) (hi : i < s.size) : s.rk i = t.rk i := by
  have h1 := s.marks_get 0 0 i hi
  rw [h.2, t.marks_get 0 0 i (by rw [← T.same_size h]; exact hi)] at h1
  injection h1 with h1
  injection h1 with _ h1
  omega
theorem T.same_before {s t : T} (h : s.same t) (i j : Int) : s.before i j = t.before i j := by
  have e := T.same_size h
  rw [Bool.eq_iff_iff]
  unfold T.before T.bf
  rw [decide_eq_true_iff, decide_eq_true_iff]
  constructor
  · rintro ⟨hb, h1, h2⟩
    rw [T.same_rk h _ (by omega), T.same_rk h _ (by omega)] at h2
    exact ⟨by omega, h1, h2⟩
  · rintro ⟨hb, h1, h2⟩
    rw [← T.same_rk h _ (by omega), ← T.same_rk h _ (by omega)] at h2
    exact ⟨by omega, h1, h2⟩
theorem T.same_joins (p : Bool) (a b c : T) : (T.two p (.two p a b) c).same (.two p a (.two p b c)) := by
  refine ⟨by simp [T.leaves], fun x j => ?_⟩
  simp only [T.marks, T.size_two]
  cases p <;> simp [Nat.add_assoc]
  rw [Nat.add_comm b.size]
theorem T.same_none (p : Bool) (a : T) : (T.two p (.two p .nil a) .nil).same a := by
  refine ⟨by simp [T.leaves], fun x j => ?_⟩
  simp only [T.marks, T.size_two]
  cases p <;> simp [T.size, T.leaves]

/-! ### orders -/
/-- in how many ways a things and b others are mixed -/
def ch : Nat → Nat → Nat
  | 0, _ => 1
  | _ + 1, 0 => 1
  | a + 1, b + 1 => ch a (b + 1) + ch (a + 1) b
def fac : Nat → Nat
  | 0 => 1
  | n + 1 => (n + 1) * fac n
theorem fac_pos : ∀ n, 0 < fac n
  | 0 => Nat.zero_lt_one
  | n + 1 => Nat.mul_pos (Nat.succ_pos _) (fac_pos n)
theorem ch_zero (a : Nat) : ch a 0 = 1 := by cases a <;> simp [ch]
theorem ch_fac : ∀ a b, ch a b * (fac a * fac b) = fac (a + b)
  | 0, b => by simp [ch, fac]
  | a + 1, 0 => by simp [ch, fac]
  | a + 1, b + 1 => by
    have h1 := ch_fac a (b + 1)
    have h2 := ch_fac (a + 1) b
    have e1 : a + (b + 1) = a + b + 1 := by omega
    have e2 : a + 1 + b = a + b + 1 := by omega
    have e3 : a + 1 + (b + 1) = a + b + 1 + 1 := by omega
    rw [e1] at h1
    rw [e2] at h2
    rw [ch, e3, Nat.add_mul]
    have i1 : ch a (b + 1) * (fac (a + 1) * fac (b + 1)) = (a + 1) * fac (a + b + 1) := by
      rw [← h1]; show _ * ((a + 1) * fac a * _) = _; simp only [Nat.mul_assoc, Nat.mul_left_comm, Nat.mul_comm]
    have i2 : ch (a + 1) b * (fac (a + 1) * fac (b + 1)) = (b + 1) * fac (a + b + 1) := by
      rw [← h2]; show _ * (_ * ((b + 1) * fac b)) = _; ac_rfl
    rw [i1, i2, ← Nat.add_mul]
    show _ = (a + b + 1 + 1) * fac (a + b + 1)
    congr 1 <;> omega
theorem ch_three (a b c : Nat) : ch (a + b) c * ch a b = ch a (b + c) * ch b c := by
  have h1 := ch_fac (a + b) c
  have h2 := ch_fac a b
  have h3 := ch_fac a (b + c)
  have h4 := ch_fac b c
  apply Nat.eq_of_mul_eq_mul_right (Nat.mul_pos (Nat.mul_pos (fac_pos a) (fac_pos b)) (fac_pos c))
  have i1 : ch (a + b) c * ch a b * (fac a * fac b * fac c) = fac (a + b + c) := by
    rw [← h1, ← h2]; ac_rfl
  have i2 : ch a (b + c) * ch b c * (fac a * fac b * fac c) = fac (a + b + c) := by
    rw [Nat.add_assoc, ← h3, ← h4]; ac_rfl
  rw [i1, i2]

def T.ways : T → Nat
  | .nil => 1
  | .one _ _ _ => 1
  | .two p l r => l.ways * r.ways * (if p then ch l.size r.size else 1)
theorem T.ways_joins (p : Bool) (a b c : T) : (T.two p (.two p a b) c).ways = (T.two p a (.two p b c)).ways := by
  simp only [T.ways, T.size_two]
  cases p
  · simp; ac_rfl
  · have := ch_three a.size b.size c.size
    simp only [if_true]
    calc _ = a.ways * b.ways * c.ways * (ch (a.size + b.size) c.size * ch a.size b.size) := by ac_rfl
      _ = _ := by rw [this]; ac_rfl
theorem T.ways_none (p : Bool) (a : T) : (T.two p (.two p .nil a) .nil).ways = a.ways := by
  have h0 : T.nil.size = 0 := rfl
  simp only [T.ways, T.size_two, h0]
  cases p <;> simp [ch_zero, ch]
end Go.Proofs.YtfjmhmfkhgjnhaaDoor.Sp


namespace Go.Proofs.YtfjmhmfkhgjnhaaDoor.Gr
set_option linter.unusedVariables false
set_option linter.unusedSimpArgs false
set_option maxRecDepth 100000
open Bs

/-- has j: the set of j alone is within -/
theorem win_one {N : Nat} {s : List Nat} (h : Gs N s) {j : Nat} (hj : j ≤ 65535) : win (of_ [(j : Int)]) s = bit s j := by
  have ho := of_facts [(j : Int)]
  have key : win (of_ [(j : Int)]) s = true ↔ bit s j = true := by
    rw [win_iff ho.1 h.ws]
    constructor
    · intro hs
      have hb : bit (of_ [(j : Int)]) j = true := by rw [of_one hj, bit_put]; simp
      exact hs _ _ hb
    · intro hb i k hik
      by_cases hk : k < 64
      · have h1 : bit (of_ [(j : Int)]) (64 * i + k) = true := by
          unfold bit
          rw [show (64 * i + k) / 64 = i by omega, show (64 * i + k) % 64 = k by omega]
          exact hik
        rw [of_one hj, bit_put, bit_nil, Bool.false_or, beq_iff_eq] at h1
        rw [← h1] at hb
        unfold bit at hb
        rw [show (64 * i + k) / 64 = i by omega, show (64 * i + k) % 64 = k by omega] at hb
        exact hb
      · rw [Nat.testBit_lt_two_pow (Nat.lt_of_lt_of_le (show Bs.at_ (of_ [(j : Int)]) i < 2 ^ 64 from ho.1.at_ i) (Nat.pow_le_pow_right (by decide) (by omega)))] at hik
        cases hik
  cases h1 : win (of_ [(j : Int)]) s <;> cases h2 : bit s j <;> simp_all
theorem win_sub {N : Nat} {s t : List Nat} (h : Gs N s) (k : Gs N t) (e : ∀ m, bit s m = true → bit t m = true) : win s t = true := by
  rw [win_iff h.ws k.ws]
  intro i j hij
  by_cases hj : j < 64
  · have := e (64 * i + j)
    unfold bit at this
    rw [show (64 * i + j) / 64 = i by omega, show (64 * i + j) % 64 = j by omega] at this
    exact this hij
  · rw [Nat.testBit_lt_two_pow (Nat.lt_of_lt_of_le (show Bs.at_ s i < 2 ^ 64 from h.ws.at_ i) (Nat.pow_le_pow_right (by decide) (by omega)))] at hij
    cases hij
theorem behW_at {N : Nat} {es : List Ed} (hes : ∀ e ∈ es, e.2 < N) (n : Nat) : Gs N ((behW N es).getD n []) := by
  by_cases hn : n < (behW N es).length
  · rw [List.getD_eq_getElem?_getD, List.getElem?_eq_getElem hn, Option.getD_some]
    exact behW_gs hes _ (List.getElem_mem hn)
  · rw [List.getD_eq_getElem?_getD, List.getElem?_eq_none (by omega), Option.getD_none]
    exact Gs.nil N
/-- what the law says -/
theorem behind_law {N : Nat} {es : List Ed} (hN : N ≤ 200) (hl : (take N es).length = N) (hes : ∀ e ∈ es, e.2 < N) {i j : Nat} (hi : i < N) (hj : j < N) :
    win (of_ [(i : Int)]) ((behW N es).getD i []) = false ∧ (win (of_ [(j : Int)]) ((behW N es).getD i []) = true → win ((behW N es).getD j []) ((behW N es).getD i []) = true ∧ win (of_ [(i : Int)]) ((behW N es).getD j []) = false) := by
  have hr := (good_take N es).not_round hl hes
  have key : ∀ a b, a < N → b < N → (win (of_ [(b : Int)]) ((behW N es).getD a []) = true ↔ Way es a b) := fun a b ha hb => by
    rw [win_one (behW_at hes a) (by omega), behW_is hl hes a ha]
  refine ⟨?_, fun h => ⟨?_, ?_⟩⟩
  · cases hc : win (of_ [(i : Int)]) ((behW N es).getD i []) with
    | false => rfl
    | true => exact absurd ((key i i hi hi).1 hc) (hr i)
  · exact win_sub (behW_at hes j) (behW_at hes i) fun m hm => (behW_is hl hes i hi m).2 (((key i j hi hj).1 h).trans ((behW_is hl hes j hj m).1 hm))
  · cases hc : win (of_ [(i : Int)]) ((behW N es).getD j []) with
    | false => rfl
    | true => exact absurd (((key i j hi hj).1 h).trans ((key j i hj hi).1 hc)) (hr i)
end Go.Proofs.YtfjmhmfkhgjnhaaDoor.Gr


namespace Go.Proofs.YtfjmhmfkhgjnhaaDoor.Gr
set_option linter.unusedVariables false
set_option linter.unusedSimpArgs false
set_option maxRecDepth 100000
open Bs
/-- the pairs of the first k -/
def edk (L : List (List Nat)) (k : Nat) : List Ed := (List.range k).flatMap fun i => (ls 0 (L.getD i [])).map fun j => (i, j)
def edW (L : List (List Nat)) : List Ed := edk L L.length
theorem edk_zero (L : List (List Nat)) : edk L 0 = [] := rfl
theorem edk_succ (L : List (List Nat)) (k : Nat) : edk L (k + 1) = edk L k ++ (ls 0 (L.getD k [])).map fun j => (k, j) := by
  unfold edk
  rw [List.range_succ, List.flatMap_append]
  simp
theorem getD_gs {N : Nat} {L : List (List Nat)} (h : ∀ s ∈ L, Gs N s) (k : Nat) : Gs N (L.getD k []) := by
  by_cases hk : k < L.length
  · rw [List.getD_eq_getElem?_getD, List.getElem?_eq_getElem hk, Option.getD_some]
    exact h _ (List.getElem_mem hk)
  · rw [List.getD_eq_getElem?_getD, List.getElem?_eq_none (by omega), Option.getD_none]
    exact Gs.nil N
theorem edk_mem {N : Nat} {L : List (List Nat)} (h : ∀ s ∈ L, Gs N s) (k : Nat) (e : Ed) : e ∈ edk L k ↔ e.1 < k ∧ bit (L.getD e.1 []) e.2 = true := by
  unfold edk
  rw [List.mem_flatMap]
  constructor
  · rintro ⟨i, hi, he⟩
    obtain ⟨j, hj, rfl⟩ := List.mem_map.1 he
    exact ⟨List.mem_range.1 hi, (mem_list (getD_gs h i).ws j).1 hj⟩
  · rintro ⟨h1, h2⟩
    exact ⟨e.1, List.mem_range.2 h1, List.mem_map.2 ⟨e.2, (mem_list (getD_gs h e.1).ws e.2).2 h2, rfl⟩⟩
theorem edW_mem {N : Nat} {L : List (List Nat)} (h : ∀ s ∈ L, Gs N s) (e : Ed) : e ∈ edW L ↔ e.1 < L.length ∧ bit (L.getD e.1 []) e.2 = true := edk_mem h _ e
theorem edW_lt {N : Nat} {L : List (List Nat)} (h : ∀ s ∈ L, Gs N s) (hL : L.length = N) : ∀ e ∈ edW L, e.1 < N ∧ e.2 < N := fun e he => by
  obtain ⟨h1, h2⟩ := (edW_mem h e).1 he
  exact ⟨by omega, (getD_gs h e.1).lt e.2 h2⟩
theorem ls_len {N : Nat} {s : List Nat} (h : Gs N s) : (ls 0 s).length ≤ N := by
  have hn : (ls 0 s).Nodup := (ls_rise s 0 h.ws).imp fun h => by omega
  have := hn.length_le_of_subset (l₂ := List.range N) (fun m hm => List.mem_range.2 (h.lt m ((mem_list h.ws m).1 hm)))
  simpa using this
theorem edk_len {N : Nat} {L : List (List Nat)} (h : ∀ s ∈ L, Gs N s) : ∀ k, (edk L k).length ≤ k * N
  | 0 => by simp [edk]
  | k + 1 => by
    rw [edk_succ, List.length_append, List.length_map, Nat.add_mul, Nat.one_mul]
    exact Nat.add_le_add (edk_len h k) (ls_len (getD_gs h k))
end Go.Proofs.YtfjmhmfkhgjnhaaDoor.Gr


namespace Go.Proofs.YtfjmhmfkhgjnhaaDoor.Gr
set_option linter.unusedVariables false
set_option linter.unusedSimpArgs false
set_option maxRecDepth 100000
open Bs
/-- the set of one node without what is behind the first ones in it -/
def cj (B : List (List Nat)) (s : List Nat) (pre : List Nat) : List Nat := pre.foldl (fun a m => op fless a (B.getD m [])) s
theorem cj_nil (B : List (List Nat)) (s : List Nat) : cj B s [] = s := rfl
theorem cj_snoc (B : List (List Nat)) (s : List Nat) (pre : List Nat) (m : Nat) : cj B s (pre ++ [m]) = op fless (cj B s pre) (B.getD m []) := by
  unfold cj
  rw [List.foldl_append]
  rfl
def core1 (B : List (List Nat)) (i : Nat) : List Nat := cj B (B.getD i []) (ls 0 (B.getD i []))
/-- the first k are done -/
def ck (B : List (List Nat)) (N k : Nat) : List (List Nat) := (List.range N).map fun i => if i < k then core1 B i else []
def coreW (B : List (List Nat)) : List (List Nat) := (List.range B.length).map (core1 B)
theorem ck_zero (B : List (List Nat)) (N : Nat) : ck B N 0 = List.replicate N [] := by
  unfold ck
  apply List.ext_getElem
  · simp
  · intro i h h'; simp
theorem ck_all (B : List (List Nat)) : ck B B.length B.length = coreW B := by
  unfold ck coreW
  refine List.map_congr_left fun i hi => ?_
  rw [if_pos (List.mem_range.1 hi)]
theorem ck_length (B : List (List Nat)) (N k : Nat) : (ck B N k).length = N := by simp [ck]
theorem ck_step (B : List (List Nat)) (N k : Nat) : (ck B N k).set k (core1 B k) = ck B N (k + 1) := by
  unfold ck
  rw [map_set]
  refine List.map_congr_left fun i _ => ?_
  by_cases e : i = k
  · rw [if_pos e, if_pos (by omega), e]
  · rw [if_neg e]
    by_cases h : i < k
    · rw [if_pos h, if_pos (by omega)]
    · rw [if_neg h, if_neg (by omega)]
theorem coreW_length (B : List (List Nat)) : (coreW B).length = B.length := by simp [coreW]
theorem cj_gs {N : Nat} {B : List (List Nat)} (h : ∀ s ∈ B, Gs N s) {s : List Nat} (hs : Gs N s) (pre : List Nat) : Gs N (cj B s pre) := by
  unfold cj
  induction pre generalizing s with
  | nil => exact hs
  | cons m l ih => exact ih (hs.less (getD_gs h m).ws)
theorem cj_bit {N : Nat} {B : List (List Nat)} (h : ∀ s ∈ B, Gs N s) (x : Nat) : ∀ (pre : List Nat) {s : List Nat}, Gs N s → (bit (cj B s pre) x = true ↔ bit s x = true ∧ ∀ m ∈ pre, bit (B.getD m []) x = false)
  | [], s, _ => by simp [cj]
  | m :: l, s, hs => by
    show bit (cj B (op fless s (B.getD m [])) l) x = true ↔ _
    rw [cj_bit h x l (hs.less (getD_gs h m).ws), bit_less hs.ws (getD_gs h m).ws, Bool.and_eq_true, Bool.not_eq_true']
    constructor
    · rintro ⟨⟨a, b⟩, c⟩
      exact ⟨a, fun m' hm => (List.mem_cons.1 hm).elim (fun e => e ▸ b) (c m')⟩
    · rintro ⟨a, b⟩
      exact ⟨⟨a, b m List.mem_cons_self⟩, fun m' hm => b m' (List.mem_cons_of_mem _ hm)⟩
theorem core1_gs {N : Nat} {B : List (List Nat)} (h : ∀ s ∈ B, Gs N s) (i : Nat) : Gs N (core1 B i) := cj_gs h (getD_gs h i) _
theorem coreW_gs {N : Nat} {B : List (List Nat)} (h : ∀ s ∈ B, Gs N s) : ∀ s ∈ coreW B, Gs N s := fun s hs => by
  obtain ⟨i, -, rfl⟩ := List.mem_map.1 hs
  exact core1_gs h i
theorem core1_bit {N : Nat} {B : List (List Nat)} (h : ∀ s ∈ B, Gs N s) (i x : Nat) : bit (core1 B i) x = true ↔ bit (B.getD i []) x = true ∧ ∀ m, bit (B.getD i []) m = true → bit (B.getD m []) x = false := by
  unfold core1
  rw [cj_bit h x _ (getD_gs h i)]
  refine and_congr Iff.rfl ⟨fun H m hm => H m ((mem_list (getD_gs h i).ws m).2 hm), fun H m hm => H m ((mem_list (getD_gs h i).ws m).1 hm)⟩
theorem coreW_getD (B : List (List Nat)) {i : Nat} (hi : i < B.length) : (coreW B).getD i [] = core1 B i := by
  unfold coreW
  rw [List.getD_eq_getElem?_getD, List.getElem?_map, List.getElem?_range hi]
  rfl
end Go.Proofs.YtfjmhmfkhgjnhaaDoor.Gr


namespace Go.Proofs.YtfjmhmfkhgjnhaaDoor.Gr
set_option linter.unusedVariables false
set_option linter.unusedSimpArgs false
set_option maxRecDepth 100000
open Bs

/-- where every edge goes along a way of a graph without rounds, all can be taken -/
theorem full_of_sub {N : Nat} {es es' : List Ed} (hl : (take N es).length = N) (hsub : ∀ e ∈ es', Way es e.1 e.2) (hlt : ∀ e ∈ es', e.1 < N ∧ e.2 < N) : (take N es').length = N := by
  have hg := good_take N es
  have hg' := good_take N es'
  have hst := take_stop N es'
  have key : ∀ (i m : Nat), (take N es)[i]? = some m → m ∈ take N es' := by
    intro i
    induction i using Nat.strongRecOn with
    | _ i ih =>
      intro m hm
      by_cases hc : m ∈ take N es'
      · exact hc
      · exfalso
        have hmN := hg.lt m (List.mem_of_getElem? hm)
        have hr := nxt_none hst m hmN
        have : ¬ rdy es' (take N es') m = true := by rw [hr]; simp
        rw [rdy_iff] at this
        apply this
        refine ⟨hc, fun e he em => ?_⟩
        have hw := hsub e he
        rw [em] at hw
        obtain ⟨j, hj, hje⟩ := hg.up hw i hm
        exact ih j hj _ hje
  have hall : ∀ m, m < N → m ∈ take N es' := fun m hm => by
    obtain ⟨i, hi⟩ := List.getElem?_of_mem (hg.full hl m hm)
    exact key i m hi
  have h1 := (List.nodup_range (n := N)).length_le_of_subset (l₂ := take N es') (fun m hm => hall m (List.mem_range.1 hm))
  have h2 := hg'.length
  rw [List.length_range] at h1
  omega
theorem way_sub {es es' : List Ed} (h : ∀ e ∈ es', Way es e.1 e.2) {a b : Nat} (hw : Way es' a b) : Way es a b := by
  induction hw with
  | one he => exact h _ he
  | on he _ ih => exact (h _ he).trans ih

set_option linter.unusedSectionVars false
section
variable {N : Nat} {es : List Ed} (hl : (take N es).length = N) (hes : ∀ e ∈ es, e.1 < N ∧ e.2 < N)
include hl hes
theorem way_lt {a b : Nat} (h : Way es a b) : a < N ∧ b < N := by
  constructor
  · obtain ⟨m, hm, -⟩ := h.head; exact (hes _ hm).1
  · obtain ⟨m, hm⟩ := h.last; exact (hes _ hm).2
theorem beh_bit {a b : Nat} (ha : a < N) : bit ((behW N es).getD a []) b = true ↔ Way es a b := behW_is hl (fun e he => (hes e he).2) a ha b
theorem beh_gs : ∀ s ∈ behW N es, Gs N s := behW_gs fun e he => (hes e he).2
/-- an edge of the closure is a way -/
theorem clo_edge (e : Ed) : e ∈ edW (behW N es) ↔ Way es e.1 e.2 := by
  rw [edW_mem (beh_gs hl hes), behW_length]
  constructor
  · rintro ⟨h1, h2⟩
    exact (beh_bit hl hes h1).1 h2
  · intro h
    have h1 := (way_lt hl hes h).1
    exact ⟨h1, (beh_bit hl hes h1).2 h⟩
/-- an edge of the core is a way that no two ways make -/
theorem core_edge (e : Ed) : e ∈ edW (coreW (behW N es)) ↔ Way es e.1 e.2 ∧ ∀ m, Way es e.1 m → ¬ Way es m e.2 := by
  rw [edW_mem (coreW_gs (beh_gs hl hes)), coreW_length, behW_length]
  constructor
  · rintro ⟨h1, h2⟩
    rw [coreW_getD _ (by rw [behW_length]; exact h1), core1_bit (beh_gs hl hes), beh_bit hl hes h1] at h2
    refine ⟨h2.1, fun m hm hc => ?_⟩
    have := h2.2 m ((beh_bit hl hes h1).2 hm)
    rw [(beh_bit hl hes (way_lt hl hes hc).1).2 hc] at this
    cases this
  · rintro ⟨h1, h2⟩
    have h0 := (way_lt hl hes h1).1
    refine ⟨h0, ?_⟩
    rw [coreW_getD _ (by rw [behW_length]; exact h0), core1_bit (beh_gs hl hes), beh_bit hl hes h0]
    refine ⟨h1, fun m hm => ?_⟩
    have hw := (beh_bit hl hes h0).1 hm
    cases hc : bit ((behW N es).getD m []) e.2 with
    | false => rfl
    | true => exact absurd ((beh_bit hl hes (way_lt hl hes hw).2).1 hc) (h2 m hw)
theorem core_way {a b : Nat} (h : Way es a b) : Way (edW (coreW (behW N es))) a b := by
  have hg := good_take N es
  obtain ⟨j, hj⟩ := List.getElem?_of_mem (hg.full hl b (way_lt hl hes h).2)
  obtain ⟨i, hi, hia⟩ := hg.up h j hj
  have key : ∀ (d i j a b : Nat), j - i = d → (take N es)[i]? = some a → (take N es)[j]? = some b → Way es a b → Way (edW (coreW (behW N es))) a b := by
    intro d
    induction d using Nat.strongRecOn with
    | _ d ih =>
      intro i j a b hd hia hjb hw
      by_cases hc : ∀ m, Way es a m → ¬ Way es m b
      · exact .one ((core_edge hl hes (a, b)).2 ⟨hw, hc⟩)
      · have : ∃ m, Way es a m ∧ Way es m b := by
          apply Classical.byContradiction
          intro h
          exact hc fun m h1 h2 => h ⟨m, h1, h2⟩
        obtain ⟨m, h1, h2⟩ := this
        obtain ⟨k, hk, hkm⟩ := hg.up h2 j hjb
        obtain ⟨i', hi', hia'⟩ := hg.up h1 k hkm
        have := hg.inj hia hia'
        subst this
        exact (ih (k - i) (by omega) i k a m rfl hia hkm h1).trans (ih (j - k) (by omega) k j m b rfl hkm hjb h2)
  exact key _ i j a b rfl hia hj h
/-- graphs with the same ways have the same sets -/
theorem beh_same {es' : List Ed} (hl' : (take N es').length = N) (hes' : ∀ e ∈ es', e.1 < N ∧ e.2 < N) (h : ∀ a b, Way es' a b ↔ Way es a b) : behW N es' = behW N es := by
  apply List.ext_getElem
  · rw [behW_length, behW_length]
  · intro i h1 h2
    rw [behW_length] at h1
    refine (beh_gs hl' hes' _ (List.getElem_mem (by rw [behW_length]; exact h1))).ext (beh_gs hl hes _ (List.getElem_mem h2)) fun m => ?_
    have e1 : bit ((behW N es').getD i []) m = bit ((behW N es).getD i []) m := by
      rw [Bool.eq_iff_iff, beh_bit hl' hes' h1, beh_bit hl hes h1, h]
    rw [List.getD_eq_getElem?_getD, List.getD_eq_getElem?_getD, List.getElem?_eq_getElem (by rw [behW_length]; exact h1), List.getElem?_eq_getElem h2] at e1
    exact e1
theorem clo_lt : ∀ e ∈ edW (behW N es), e.1 < N ∧ e.2 < N := edW_lt (beh_gs hl hes) (behW_length _ _)
theorem core_lt : ∀ e ∈ edW (coreW (behW N es)), e.1 < N ∧ e.2 < N := edW_lt (coreW_gs (beh_gs hl hes)) (by rw [coreW_length, behW_length])
theorem clo_full : (take N (edW (behW N es))).length = N := full_of_sub hl (fun e he => (clo_edge hl hes e).1 he) (clo_lt hl hes)
theorem core_full : (take N (edW (coreW (behW N es)))).length = N := full_of_sub hl (fun e he => ((core_edge hl hes e).1 he).1) (core_lt hl hes)
theorem clo_same : behW N (edW (behW N es)) = behW N es := beh_same hl hes (clo_full hl hes) (clo_lt hl hes) fun a b => ⟨way_sub fun e he => (clo_edge hl hes e).1 he, fun h => .one ((clo_edge hl hes (a, b)).2 h)⟩
theorem core_same : behW N (edW (coreW (behW N es))) = behW N es := beh_same hl hes (core_full hl hes) (core_lt hl hes) fun a b => ⟨way_sub fun e he => ((core_edge hl hes e).1 he).1, core_way hl hes⟩
theorem clo_has : ∀ e ∈ es, e ∈ edW (behW N es) := fun e he => (clo_edge hl hes e).2 (.one he)
/-- an edge of the core is one of the graph's -/
theorem core_in (e : Ed) (h : e ∈ edW (coreW (behW N es))) : e ∈ es := by
  obtain ⟨h1, h2⟩ := (core_edge hl hes e).1 h
  obtain ⟨m, hm, rfl | hw⟩ := h1.head
  · exact hm
  · exact absurd hw (h2 m (.one hm))
end
theorem ls_nodup {N : Nat} {s : List Nat} (h : Gs N s) : (ls 0 s).Nodup := (ls_rise s 0 h.ws).imp fun h => by omega
theorem edk_nodup {N : Nat} {L : List (List Nat)} (h : ∀ s ∈ L, Gs N s) : ∀ k, (edk L k).Nodup
  | 0 => by rw [edk_zero]; exact List.nodup_nil
  | k + 1 => by
    rw [edk_succ]
    refine List.nodup_append.2 ⟨edk_nodup h k, ?_, fun e he f hf heq => ?_⟩
    · exact List.pairwise_map.2 ((ls_nodup (getD_gs h k)).imp fun hab hc => hab (by injection hc))
    · obtain ⟨j, -, rfl⟩ := List.mem_map.1 hf
      have := ((edk_mem h k e).1 he).1
      rw [heq] at this
      exact absurd this (by simp)
/-- one edge of the core is left out: what it led to is not behind any more -/
theorem least_law {N : Nat} {es : List Ed} (hl : (take N es).length = N) (hes : ∀ e ∈ es, e.1 < N ∧ e.2 < N) {k : Nat} {e : Ed} (hk : (edW (coreW (behW N es)))[k]? = some e) :
    let less := (edW (coreW (behW N es))).take k ++ (edW (coreW (behW N es))).drop (k + 1)
    (take N less).length = N ∧ (∀ x ∈ less, x.1 < N ∧ x.2 < N) ∧ e.2 ∉ ls 0 ((behW N less).getD e.1 []) ∧ e.1 < N ∧ e ∈ es := by
  intro less
  have hsub : ∀ x ∈ less, x ∈ edW (coreW (behW N es)) := fun x hx => (List.mem_append.1 hx).elim (fun h => List.mem_of_mem_take h) (fun h => List.mem_of_mem_drop h)
  have hlt : ∀ x ∈ less, x.1 < N ∧ x.2 < N := fun x hx => core_lt hl hes x (hsub x hx)
  have hw : ∀ x ∈ less, Way es x.1 x.2 := fun x hx => ((core_edge hl hes x).1 (hsub x hx)).1
  have hf := full_of_sub hl hw hlt
  have he := List.mem_of_getElem? hk
  have hnd : (edW (coreW (behW N es))).Nodup := edk_nodup (coreW_gs (beh_gs hl hes)) _
  have hno : e ∉ less := fun hc => by
    rcases List.mem_append.1 hc with h | h
    · obtain ⟨i, hi⟩ := List.getElem?_of_mem h
      rw [List.getElem?_take] at hi
      split at hi
      · have := (List.getElem_inj hnd).1 ((List.getElem?_eq_some_iff.1 hi).2.trans (List.getElem?_eq_some_iff.1 hk).2.symm)
        omega
      · cases hi
    · obtain ⟨i, hi⟩ := List.getElem?_of_mem h
      rw [List.getElem?_drop] at hi
      have := (List.getElem_inj hnd).1 ((List.getElem?_eq_some_iff.1 hi).2.trans (List.getElem?_eq_some_iff.1 hk).2.symm)
      omega
  refine ⟨hf, hlt, fun hc => ?_, (core_lt hl hes e he).1, core_in hl hes e he⟩
  have h1 := (mem_list (getD_gs (beh_gs hf hlt) e.1).ws e.2).1 hc
  have h2 := (beh_bit hf hlt (core_lt hl hes e he).1).1 h1
  have h3 := ((core_edge hl hes e).1 he).2
  obtain ⟨m, hm, rfl | hmw⟩ := h2.head
  · exact hno hm
  · exact h3 m (hw _ hm) (way_sub hw hmw)
end Go.Proofs.YtfjmhmfkhgjnhaaDoor.Gr


namespace Go.Proofs.YtfjmhmfkhgjnhaaDoor.Gr
set_option linter.unusedVariables false
set_option linter.unusedSimpArgs false
set_option maxRecDepth 100000
open Bs

/-- all that node i leads to, of the first j behind it -/
def rowJ (f : Nat → Nat) (i j : Nat) : List Ed := ((List.range j).filter fun m => decide (f i < f (i + 1 + m))).map fun m => (i, i + 1 + m)
def gEk (f : Nat → Nat) (n k : Nat) : List Ed := (List.range k).flatMap fun i => rowJ f i (n - (i + 1))
def gE (f : Nat → Nat) (n : Nat) : List Ed := gEk f n n
theorem rowJ_zero (f : Nat → Nat) (i : Nat) : rowJ f i 0 = [] := rfl
theorem rowJ_yes {f : Nat → Nat} {i j : Nat} (h : f i < f (i + 1 + j)) : rowJ f i (j + 1) = rowJ f i j ++ [(i, i + 1 + j)] := by
  unfold rowJ
  rw [List.range_succ, List.filter_append, List.map_append]
  simp [h]
theorem rowJ_no {f : Nat → Nat} {i j : Nat} (h : ¬ f i < f (i + 1 + j)) : rowJ f i (j + 1) = rowJ f i j := by
  unfold rowJ
  rw [List.range_succ, List.filter_append, List.map_append]
  simp [h]
theorem gEk_zero (f : Nat → Nat) (n : Nat) : gEk f n 0 = [] := rfl
theorem gEk_succ (f : Nat → Nat) (n k : Nat) : gEk f n (k + 1) = gEk f n k ++ rowJ f k (n - (k + 1)) := by
  unfold gEk
  rw [List.range_succ, List.flatMap_append]
  simp
theorem rowJ_len (f : Nat → Nat) (i j : Nat) : (rowJ f i j).length ≤ j := by
  unfold rowJ
  rw [List.length_map]
  exact Nat.le_trans (List.length_filter_le _ _) (by simp)
theorem gEk_len (f : Nat → Nat) (n : Nat) : ∀ k, (gEk f n k).length ≤ k * n
  | 0 => by simp [gEk]
  | k + 1 => by
    rw [gEk_succ, List.length_append, Nat.add_mul, Nat.one_mul]
    exact Nat.add_le_add (gEk_len f n k) (Nat.le_trans (rowJ_len f k _) (by omega))
theorem rowJ_mem {f : Nat → Nat} {i j : Nat} {e : Ed} : e ∈ rowJ f i j ↔ e.1 = i ∧ i < e.2 ∧ e.2 < i + 1 + j ∧ f i < f e.2 := by
  unfold rowJ
  rw [List.mem_map]
  constructor
  · rintro ⟨m, hm, rfl⟩
    rw [List.mem_filter, List.mem_range, decide_eq_true_eq] at hm
    exact ⟨rfl, by show i < i + 1 + m; omega, by show i + 1 + m < _; omega, hm.2⟩
  · rintro ⟨h1, h2, h3, h4⟩
    refine ⟨e.2 - (i + 1), ?_, ?_⟩
    · rw [List.mem_filter, List.mem_range, decide_eq_true_eq, show i + 1 + (e.2 - (i + 1)) = e.2 by omega]
      exact ⟨by omega, h4⟩
    · rw [← h1, show e.1 + 1 + (e.2 - (e.1 + 1)) = e.2 by omega]
theorem gE_mem {f : Nat → Nat} {n : Nat} {e : Ed} : e ∈ gE f n ↔ e.1 < e.2 ∧ e.2 < n ∧ f e.1 < f e.2 := by
  unfold gE gEk
  rw [List.mem_flatMap]
  constructor
  · rintro ⟨i, hi, he⟩
    have := List.mem_range.1 hi
    obtain ⟨h1, h2, h3, h4⟩ := rowJ_mem.1 he
    rw [h1]
    exact ⟨h2, by omega, h4⟩
  · rintro ⟨h1, h2, h3⟩
    exact ⟨e.1, List.mem_range.2 (by omega), rowJ_mem.2 ⟨rfl, h1, by omega, h3⟩⟩
theorem gE_lt {f : Nat → Nat} {n : Nat} : ∀ e ∈ gE f n, e.1 < n ∧ e.2 < n := fun e he => by
  obtain ⟨h1, h2, -⟩ := gE_mem.1 he
  exact ⟨by omega, h2⟩
/-- where every edge goes up, all can be taken -/
theorem full_up {N : Nat} {es : List Ed} (h : ∀ e ∈ es, e.1 < e.2 ∧ e.2 < N) : (take N es).length = N := by
  have hg := good_take N es
  have hst := take_stop N es
  have key : ∀ m, m < N → m ∈ take N es := by
    intro m
    induction m using Nat.strongRecOn with
    | _ m ih =>
      intro hm
      by_cases hc : m ∈ take N es
      · exact hc
      · exfalso
        have hr := nxt_none hst m hm
        have : ¬ rdy es (take N es) m = true := by rw [hr]; simp
        rw [rdy_iff] at this
        apply this
        refine ⟨hc, fun e he em => ?_⟩
        have := h e he
        exact ih e.1 (by omega) (by omega)
  have h1 := (List.nodup_range (n := N)).length_le_of_subset (l₂ := take N es) (fun m hm => key m (List.mem_range.1 hm))
  have h2 := hg.length
  rw [List.length_range] at h1
  omega
theorem gE_full (f : Nat → Nat) (n : Nat) : (take n (gE f n)).length = n := full_up fun e he => by
  obtain ⟨h1, h2, -⟩ := gE_mem.1 he
  exact ⟨h1, h2⟩
theorem gE_way {f : Nat → Nat} {n a b : Nat} (h : Way (gE f n) a b) : (a, b) ∈ gE f n := by
  induction h with
  | one h => exact h
  | on he _ ih =>
    obtain ⟨h1, h2, h3⟩ := gE_mem.1 he
    obtain ⟨k1, k2, k3⟩ := gE_mem.1 ih
    simp only at h1 h2 h3 k1 k2 k3
    exact gE_mem.2 ⟨by simp only; omega, k2, by simp only; omega⟩
/-- two lists that go up and have the same numbers -/
theorem rise_ext : ∀ {l m : List Nat}, l.Pairwise (· < ·) → m.Pairwise (· < ·) → (∀ x, x ∈ l ↔ x ∈ m) → l = m
  | [], [], _, _, _ => rfl
  | [], y :: m, _, _, h => by have := (h y).2 List.mem_cons_self; cases this
  | x :: l, [], _, _, h => by have := (h x).1 List.mem_cons_self; cases this
  | x :: l, y :: m, hl, hm, h => by
    have hl' := List.pairwise_cons.1 hl
    have hm' := List.pairwise_cons.1 hm
    have e : x = y := by
      rcases List.mem_cons.1 ((h x).1 List.mem_cons_self) with e | hx
      · exact e
      · rcases List.mem_cons.1 ((h y).2 List.mem_cons_self) with e | hy
        · exact e.symm
        · have := hm'.1 x hx
          have := hl'.1 y hy
          omega
    subst e
    congr 1
    refine rise_ext hl'.2 hm'.2 fun z => ⟨fun hz => ?_, fun hz => ?_⟩
    · rcases List.mem_cons.1 ((h z).1 (List.mem_cons_of_mem _ hz)) with e | h1
      · have := hl'.1 z hz; omega
      · exact h1
    · rcases List.mem_cons.1 ((h z).2 (List.mem_cons_of_mem _ hz)) with e | h1
      · have := hm'.1 z hz; omega
      · exact h1
/-- the closure has no edge more -/
theorem gE_closed (f : Nat → Nat) (n : Nat) : edW (behW n (gE f n)) = gE f n := by
  have hl := gE_full f n
  have hes := gE_lt (f := f) (n := n)
  have hbg := beh_gs hl hes
  unfold edW
  rw [behW_length]
  unfold gE gEk edk
  rw [List.flatMap_def, List.flatMap_def]
  congr 1
  refine List.map_congr_left fun i hi => ?_
  have hi := List.mem_range.1 hi
  have key : ls 0 ((behW n (gE f n)).getD i []) = ((List.range (n - (i + 1))).filter fun m => decide (f i < f (i + 1 + m))).map fun m => i + 1 + m := by
    refine rise_ext (ls_rise _ _ (getD_gs hbg i).ws) ?_ fun x => ?_
    · exact List.pairwise_map.2 (((List.pairwise_lt_range (n := n - (i + 1))).filter _).imp fun h => by omega)
    · rw [mem_list (getD_gs hbg i).ws, beh_bit hl hes hi]
      constructor
      · intro h
        obtain ⟨h1, h2, h3⟩ := gE_mem.1 (gE_way h)
        simp only at h1 h2 h3
        refine List.mem_map.2 ⟨x - (i + 1), ?_, by omega⟩
        rw [List.mem_filter, List.mem_range, decide_eq_true_eq, show i + 1 + (x - (i + 1)) = x by omega]
        exact ⟨by omega, h3⟩
      · intro h
        obtain ⟨m, hm, rfl⟩ := List.mem_map.1 h
        rw [List.mem_filter, List.mem_range, decide_eq_true_eq] at hm
        exact .one (gE_mem.2 ⟨by simp only; omega, by simp only; omega, hm.2⟩)
  have e : behW n (gEk f n n) = behW n (gE f n) := rfl
  show (ls 0 ((behW n (gE f n)).getD i [])).map _ = _
  rw [key, List.map_map]
  rfl
end Go.Proofs.YtfjmhmfkhgjnhaaDoor.Gr


namespace Go.Proofs.YtfjmhmfkhgjnhaaDoor.Sp
set_option linter.unusedVariables false
set_option linter.unusedSimpArgs false
set_option maxRecDepth 100000

def T.lvl : T → Nat → Nat
  | .nil, _ => 0
  | .one _ _ _, _ => 0
  | .two p l r, i => if i < l.size then l.lvl i else if p then r.lvl (i - l.size) else l.span + r.lvl (i - l.size)
theorem T.lvl_l {p : Bool} {l r : T} {i : Nat} (h : i < l.size) : (T.two p l r).lvl i = l.lvl i := by
  show (if i < l.size then _ else _) = _
  rw [if_pos h]
theorem T.lvl_r {p : Bool} {l r : T} {i : Nat} (h : ¬ i < l.size) : (T.two p l r).lvl i = (if p then 0 else l.span) + r.lvl (i - l.size) := by
  show (if i < l.size then _ else if p then r.lvl (i - l.size) else l.span + r.lvl (i - l.size)) = _
  rw [if_neg h]
  cases p <;> simp
theorem T.span_two (p : Bool) (l r : T) : (T.two p l r).span = if p then max l.span r.span else l.span + r.span := rfl
theorem T.bf_two (p : Bool) (l r : T) (i k : Nat) (hi : i < l.size + r.size) (hk : k < l.size + r.size) : (T.two p l r).bf i k ↔ (k < l.size ∧ l.bf i k) ∨ (l.size ≤ i ∧ r.bf (i - l.size) (k - l.size)) ∨ (p = false ∧ i < l.size ∧ l.size ≤ k) := by
  have h1 : ∀ x, x < l.size → l.rk x < l.size := fun x hx => l.rk_lt x hx
  have h2 : ∀ x, x < r.size → r.rk x < r.size := fun x hx => r.rk_lt x hx
  unfold T.bf
  rw [T.rk, T.rk]
  by_cases hil : i < l.size
  · rw [if_pos hil]
    by_cases hkl : k < l.size
    · rw [if_pos hkl]
      constructor
      · rintro ⟨a, b⟩; exact .inl ⟨hkl, a, by omega⟩
      · rintro (⟨a, b, c⟩ | ⟨a, b⟩ | ⟨a, b, c⟩)
        · exact ⟨b, by omega⟩
        · omega
        · omega
    · rw [if_neg hkl]
      have a1 := h1 i hil
      have a2 := h2 (k - l.size) (by omega)
      cases p
      · simp only [Bool.false_eq_true, if_false]
        exact ⟨fun _ => .inr (.inr ⟨by simp, hil, by omega⟩), fun _ => ⟨by omega, by omega⟩⟩
      · simp only [if_true]
        constructor
        · rintro ⟨a, b⟩; omega
        · rintro (⟨a, b, c⟩ | ⟨a, b⟩ | ⟨a, b, c⟩)
          · omega
          · omega
          · cases a
  · rw [if_neg hil]
    by_cases hkl : k < l.size
    · rw [if_pos hkl]
      constructor
      · rintro ⟨a, b⟩; omega
      · rintro (⟨a, b, c⟩ | ⟨a, b, c⟩ | ⟨a, b, c⟩)
        · omega
        · omega
        · omega
    · rw [if_neg hkl]
      constructor
      · rintro ⟨a, b⟩; exact .inr (.inl ⟨by omega, by omega, by omega⟩)
      · rintro (⟨a, b, c⟩ | ⟨a, b, c⟩ | ⟨a, b, c⟩)
        · omega
        · exact ⟨by omega, by omega⟩
        · omega
theorem T.lvl_lt (t : T) : ∀ i, i < t.size → t.lvl i < t.span := by
  induction t with
  | nil => intro i h; exact absurd h (Nat.not_lt_zero _)
  | one c b l => intro i _; show 0 < 1; omega
  | two p l r ihl ihr =>
    intro i hi
    rw [T.size_two] at hi
    rw [T.span_two]
    by_cases hil : i < l.size
    · have := ihl i hil
      rw [T.lvl_l hil]
      cases p <;> simp <;> omega
    · have := ihr (i - l.size) (by omega)
      rw [T.lvl_r hil]
      cases p <;> simp <;> omega
theorem T.lvl_up (t : T) : ∀ i k, i < t.size → k < t.size → t.bf i k → t.lvl i < t.lvl k := by
  induction t with
  | nil => intro i k h; exact absurd h (Nat.not_lt_zero _)
  | one c b l =>
    intro i k hi hk h
    have h1 : i < 1 := hi
    have h2 : k < 1 := hk
    have := h.1
    omega
  | two p l r ihl ihr =>
    intro i k hi hk h
    rw [T.size_two] at hi hk
    rcases (T.bf_two p l r i k hi hk).1 h with ⟨h1, h2⟩ | ⟨h1, h2⟩ | ⟨h1, h2, h3⟩
    · have hil : i < l.size := Nat.lt_trans h2.1 h1
      rw [T.lvl_l hil, T.lvl_l h1]
      exact ihl i k hil h1 h2
    · have hik := h.1
      rw [T.lvl_r (by omega), T.lvl_r (by omega)]
      have := ihr (i - l.size) (k - l.size) (by omega) (by omega) h2
      omega
    · rw [T.lvl_l h2, T.lvl_r (by omega), h1]
      have := l.lvl_lt i h2
      simp only [Bool.false_eq_true, if_false]
      omega
/-- one of the highest level -/
theorem T.lvl_hit (t : T) : 0 < t.span → ∃ i, i < t.size ∧ t.lvl i + 1 = t.span := by
  induction t with
  | nil => intro h; exact absurd h (Nat.not_lt_zero _)
  | one c b l => intro _; exact ⟨0, Nat.zero_lt_one, rfl⟩
  | two p l r ihl ihr =>
    intro h
    have hsz := T.size_two p l r
    have hl : 0 < l.span → ∃ i, i < (T.two p l r).size ∧ (T.two p l r).lvl i + 1 = l.span := fun h => by
      obtain ⟨i, h1, h2⟩ := ihl h
      exact ⟨i, by omega, by rw [T.lvl_l h1, h2]⟩
    have hr : 0 < r.span → ∃ i, i < (T.two p l r).size ∧ (T.two p l r).lvl i + 1 = (if p then 0 else l.span) + r.span := fun h => by
      obtain ⟨i, h1, h2⟩ := ihr h
      exact ⟨l.size + i, by omega, by rw [T.lvl_r (by omega), show l.size + i - l.size = i by omega, Nat.add_assoc, h2]⟩
    rw [T.span_two] at h ⊢
    generalize (T.two p l r).size = S at *
    generalize (T.two p l r).lvl = V at *
    cases p
    · simp only [Bool.false_eq_true, if_false] at h hr ⊢
      by_cases h0 : 0 < r.span
      · exact hr h0
      · obtain ⟨i, h1, h2⟩ := hl (by omega)
        exact ⟨i, h1, by omega⟩
    · simp only [if_true] at h hr ⊢
      by_cases hc : l.span ≤ r.span
      · rw [Nat.max_eq_right hc] at h ⊢
        obtain ⟨i, h1, h2⟩ := hr h
        exact ⟨i, h1, by rw [h2, Nat.zero_add]⟩
      · rw [Nat.max_eq_left (by omega)] at h ⊢
        exact hl h
theorem T.lvl_down (t : T) : ∀ k, k < t.size → 0 < t.lvl k → ∃ i, i < t.size ∧ t.bf i k ∧ t.lvl i + 1 = t.lvl k := by
  induction t with
  | nil => intro k h; exact absurd h (Nat.not_lt_zero _)
  | one c b l => intro k _ h; exact absurd h (Nat.not_lt_zero _)
  | two p l r ihl ihr =>
    intro k hk h0
    have hsz := T.size_two p l r
    rw [hsz] at hk
    by_cases hkl : k < l.size
    · rw [T.lvl_l hkl] at h0 ⊢
      obtain ⟨i, h1, h2, h3⟩ := ihl k hkl h0
      exact ⟨i, by omega, (T.bf_two p l r i k (by omega) hk).2 (.inl ⟨hkl, h2⟩), by rw [T.lvl_l h1, h3]⟩
    · rw [T.lvl_r hkl] at h0 ⊢
      by_cases hr0 : 0 < r.lvl (k - l.size)
      · obtain ⟨i, h1, h2, h3⟩ := ihr (k - l.size) (by omega) hr0
        refine ⟨l.size + i, by omega, (T.bf_two p l r _ k (by omega) hk).2 (.inr (.inl ⟨by omega, by rw [show l.size + i - l.size = i by omega]; exact h2⟩)), ?_⟩
        rw [T.lvl_r (by omega), show l.size + i - l.size = i by omega, Nat.add_assoc, h3]
      · cases p
        · simp only [Bool.false_eq_true, if_false] at h0 ⊢
          obtain ⟨i, h1, h2⟩ := l.lvl_hit (by omega)
          refine ⟨i, by omega, (T.bf_two false l r i k (by omega) hk).2 (.inr (.inr ⟨rfl, h1, by omega⟩)), ?_⟩
          rw [T.lvl_l h1]
          omega
        · simp only [if_true] at h0
          omega

/-- the rounds of a term's graph -/
theorem T.rounds (t : T) (v : Nat) : (v + 1) * (Gr.all t.size (Gr.gE t.rk t.size) (v + 1)).length ≤ t.size + v * t.span ∧ t.span ≤ (Gr.all t.size (Gr.gE t.rk t.size) (v + 1)).length := by
  have hes := Gr.gE_lt (f := t.rk) (n := t.size)
  have up : ∀ e ∈ Gr.gE t.rk t.size, t.lvl e.1 < t.lvl e.2 := fun e he => by
    obtain ⟨h1, h2, h3⟩ := Gr.gE_mem.1 he
    exact t.lvl_up _ _ (by omega) h2 ⟨h1, h3⟩
  refine ⟨Gr.brent (fun e he => (hes e he).1) up (fun m hm => t.lvl_lt m hm), ?_⟩
  by_cases h0 : 0 < t.span
  · refine Gr.rounds_high (lv := t.lvl) (by omega) (Gr.gE_full _ _) (fun m hm h => ?_) (fun e he => (hes e he).1) (t.lvl_hit h0)
    obtain ⟨i, h1, h2, h3⟩ := t.lvl_down m hm h
    exact ⟨(i, m), Gr.gE_mem.2 ⟨h2.1, hm, h2.2⟩, rfl, h3⟩
  · omega
theorem T.rounds_div (t : T) (v : Nat) : (Gr.all t.size (Gr.gE t.rk t.size) (v + 1)).length ≤ t.size / (v + 1) + t.span ∧ t.span ≤ (Gr.all t.size (Gr.gE t.rk t.size) (v + 1)).length := by
  obtain ⟨h1, h2⟩ := t.rounds v
  refine ⟨?_, h2⟩
  generalize (Gr.all t.size (Gr.gE t.rk t.size) (v + 1)).length = r at *
  have h3 : (v + 1) * (r - t.span) ≤ t.size := by
    rw [Nat.mul_sub]
    have : (v + 1) * t.span = v * t.span + t.span := by rw [Nat.add_mul, Nat.one_mul]
    omega
  have := (Nat.le_div_iff_mul_le (show 0 < v + 1 by omega)).2 (by rw [Nat.mul_comm]; exact h3)
  omega
end Go.Proofs.YtfjmhmfkhgjnhaaDoor.Sp


namespace Go.Proofs.YtfjmhmfkhgjnhaaDoor
set_option linter.unusedVariables false
set_option linter.unusedSimpArgs false
set_option maxRecDepth 100000

namespace Gr
theorem Lv.le {N : Nat} {es : List Ed} {lv lv' : Nat → Nat} {h h' : Nat} (hes : ∀ e ∈ es, e.1 < N) (a : Lv N es lv h) (b : Lv N es lv' h') : ∀ k m, lv m = k → m < N → lv m ≤ lv' m := by
  intro k
  induction k using Nat.strongRecOn with
  | _ k ih =>
    intro m hk hm
    by_cases h0 : 0 < lv m
    · obtain ⟨e, he, rfl, h1⟩ := a.down m hm h0
      have := ih (lv e.1) (by omega) e.1 rfl (hes e he)
      have := b.up e he
      omega
    · omega
theorem Lv.eq {N : Nat} {es : List Ed} {lv lv' : Nat → Nat} {h h' : Nat} (hes : ∀ e ∈ es, e.1 < N) (a : Lv N es lv h) (b : Lv N es lv' h') : h = h' := by
  obtain ⟨m, hm, h1⟩ := a.hit
  obtain ⟨m', hm', h1'⟩ := b.hit
  have k1 := Lv.le hes a b _ m rfl hm
  have k2 := Lv.le hes b a _ m' rfl hm'
  have := b.top m hm
  have := a.top m' hm'
  omega
end Gr
namespace Sp
theorem T.lv (t : T) (h : 0 < t.size) (hs : 0 < t.span) : Gr.Lv t.size (Gr.gE t.rk t.size) t.lvl t.span :=
  ⟨fun e he => by
    obtain ⟨h1, h2, h3⟩ := Gr.gE_mem.1 he
    exact t.lvl_up _ _ (by omega) h2 ⟨h1, h3⟩, fun m hm h0 => by
    obtain ⟨i, h1, h2, h3⟩ := t.lvl_down m hm h0
    exact ⟨(i, m), Gr.gE_mem.2 ⟨h2.1, hm, h2.2⟩, rfl, h3⟩, fun m hm => t.lvl_lt m hm, t.lvl_hit hs⟩
theorem T.height (t : T) {L : List Nat} (hL : Gr.LvL t.size (Gr.gE t.rk t.size) L) : Gr.hgt L = t.span := by
  by_cases h : 0 < t.size
  · have hs : 0 < t.span := by have := t.lvl_lt 0 h; omega
    exact Gr.Lv.eq (fun e he => (Gr.gE_lt e he).1) (hL.lv h) (t.lv h hs)
  · have : L = [] := List.eq_nil_of_length_eq_zero (by rw [hL.len]; omega)
    have h1 := t.span_le
    unfold Gr.hgt
    rw [if_pos this]
    omega
/-- leaves apart -/
structure T.Ap (t : T) (A : List Nat) : Prop where
  nd : A.Nodup
  lt : ∀ a ∈ A, a < t.size
  ap : ∀ a ∈ A, ∀ b ∈ A, ¬ t.bf a b
theorem T.ap_le (t : T) : ∀ A, t.Ap A → A.length ≤ t.width := by
  induction t with
  | nil =>
    intro A h
    have : A = [] := by
      rcases A with _ | ⟨a, A⟩
      · rfl
      · exact absurd (h.lt a List.mem_cons_self) (Nat.not_lt_zero _)
    subst this
    exact Nat.zero_le _
  | one c b l =>
    intro A h
    have h1 : ∀ a ∈ A, a = 0 := fun a ha => by have : a < 1 := h.lt a ha; omega
    have : A.length ≤ 1 := by
      have := h.nd.length_le_of_subset (l₂ := [0]) (fun a ha => by rw [h1 a ha]; exact List.mem_cons_self)
      simpa using this
    exact this
  | two p l r il ir =>
    intro A h
    have hsz := T.size_two p l r
    have hL : l.Ap (A.filter fun a => decide (a < l.size)) := by
      refine ⟨h.nd.filter _, fun a ha => of_decide_eq_true (List.mem_filter.1 ha).2, fun a ha b hb hab => ?_⟩
      have ha1 := of_decide_eq_true (List.mem_filter.1 ha).2
      have hb1 := of_decide_eq_true (List.mem_filter.1 hb).2
      exact h.ap a (List.mem_filter.1 ha).1 b (List.mem_filter.1 hb).1 ((T.bf_two p l r a b (by omega) (by omega)).2 (.inl ⟨hb1, hab⟩))
    have hR : r.Ap ((A.filter fun a => !decide (a < l.size)).map fun a => a - l.size) := by
      have hm : ∀ a ∈ A.filter (fun a => !decide (a < l.size)), a ∈ A ∧ l.size ≤ a := fun a ha => by
        obtain ⟨h1, h2⟩ := List.mem_filter.1 ha
        exact ⟨h1, by simpa using h2⟩
      refine ⟨List.pairwise_map.2 ((h.nd.filter _).imp_of_mem fun {a b} ha hb hne he => ?_), fun a ha => ?_, fun a ha b hb hab => ?_⟩
      · have := (hm a ha).2
        have := (hm b hb).2
        omega
      · obtain ⟨x, hx, rfl⟩ := List.mem_map.1 ha
        have h1 := hm x hx
        have := h.lt x h1.1
        omega
      · obtain ⟨x, hx, rfl⟩ := List.mem_map.1 ha
        obtain ⟨y, hy, rfl⟩ := List.mem_map.1 hb
        have h1 := hm x hx
        have h2 := hm y hy
        have := h.lt x h1.1
        have := h.lt y h2.1
        exact h.ap x h1.1 y h2.1 ((T.bf_two p l r x y (by omega) (by omega)).2 (.inr (.inl ⟨h1.2, hab⟩)))
    have kl := il _ hL
    have kr := ir _ hR
    rw [List.length_map] at kr
    have key : ∀ (q : Nat → Bool) (B : List Nat), (B.filter q).length + (B.filter fun y => !q y).length = B.length := by
      intro q B
      induction B with
      | nil => rfl
      | cons a B ih =>
        cases h : q a
        · rw [List.filter_cons_of_neg (by simp [h]), List.filter_cons_of_pos (by simp [h]), List.length_cons, List.length_cons]; omega
        · rw [List.filter_cons_of_pos h, List.filter_cons_of_neg (by simp [h]), List.length_cons, List.length_cons]; omega
    have hk := key (fun a => decide (a < l.size)) A
    have hw : (T.two p l r).width = if p then l.width + r.width else max l.width r.width := rfl
    rw [hw]
    rcases p with _ | _
    · simp only [Bool.false_eq_true, if_false]
      -- one of both is empty
      have : (A.filter fun a => decide (a < l.size)).length = 0 ∨ (A.filter fun a => !decide (a < l.size)).length = 0 := by
        refine Decidable.byContradiction fun hno => ?_
        rw [not_or] at hno
        obtain ⟨a, ha⟩ := List.exists_mem_of_ne_nil _ (List.ne_nil_of_length_pos (Nat.pos_of_ne_zero hno.1))
        obtain ⟨b, hb⟩ := List.exists_mem_of_ne_nil _ (List.ne_nil_of_length_pos (Nat.pos_of_ne_zero hno.2))
        obtain ⟨ha1, ha2⟩ := List.mem_filter.1 ha
        obtain ⟨hb1, hb2⟩ := List.mem_filter.1 hb
        have ha2 := of_decide_eq_true ha2
        have hb2 : l.size ≤ b := by simpa using hb2
        have := h.lt a ha1
        have := h.lt b hb1
        exact h.ap a ha1 b hb1 ((T.bf_two false l r a b (by omega) (by omega)).2 (.inr (.inr ⟨rfl, ha2, hb2⟩)))
      omega
    · simp only [if_true]
      omega
theorem T.ap_hit (t : T) : ∃ A, t.Ap A ∧ A.length = t.width := by
  induction t with
  | nil => exact ⟨[], ⟨List.nodup_nil, fun _ h => (by cases h), fun _ h => (by cases h)⟩, rfl⟩
  | one c b l => exact ⟨[0], ⟨by simp, fun a ha => by simp at ha; subst ha; exact Nat.zero_lt_one, fun a ha b hb hab => by simp at ha hb; subst ha hb; exact absurd hab.1 (Nat.lt_irrefl _)⟩, rfl⟩
  | two p l r il ir =>
    obtain ⟨A, hA, ea⟩ := il
    obtain ⟨B, hB, eb⟩ := ir
    have hsz := T.size_two p l r
    have hw : (T.two p l r).width = if p then l.width + r.width else max l.width r.width := rfl
    have hAt : ∀ a ∈ A, a < l.size := hA.lt
    have hLap : ∀ a ∈ A, ∀ b ∈ A, ¬ (T.two p l r).bf a b := fun a ha b hb hab => by
      have h1 := hAt a ha
      have h2 := hAt b hb
      rcases (T.bf_two p l r a b (by omega) (by omega)).1 hab with h | h | h
      · exact hA.ap a ha b hb h.2
      · omega
      · omega
    have hRm : ∀ x ∈ B.map (fun b => b + l.size), ∃ y ∈ B, x = y + l.size := fun x hx => by
      obtain ⟨y, hy, rfl⟩ := List.mem_map.1 hx
      exact ⟨y, hy, rfl⟩
    have hRap : ∀ a ∈ B.map (fun b => b + l.size), ∀ b ∈ B.map (fun b => b + l.size), ¬ (T.two p l r).bf a b := fun a ha b hb hab => by
      obtain ⟨x, hx, rfl⟩ := hRm a ha
      obtain ⟨y, hy, rfl⟩ := hRm b hb
      have h1 := hB.lt x hx
      have h2 := hB.lt y hy
      rcases (T.bf_two p l r _ _ (by omega) (by omega)).1 hab with h | h | h
      · omega
      · rw [Nat.add_sub_cancel, Nat.add_sub_cancel] at h
        exact hB.ap x hx y hy h.2
      · omega
    have hRnd : (B.map fun b => b + l.size).Nodup := List.pairwise_map.2 (hB.nd.imp fun {a b} hne he => hne (by omega))
    rcases p with _ | _
    · rcases Nat.le_total l.width r.width with hlr | hlr
      · refine ⟨B.map fun b => b + l.size, ⟨hRnd, fun x hx => ?_, hRap⟩, ?_⟩
        · obtain ⟨y, hy, rfl⟩ := hRm x hx
          have := hB.lt y hy
          omega
        · rw [hw, List.length_map, eb]
          simp only [Bool.false_eq_true, if_false]
          omega
      · refine ⟨A, ⟨hA.nd, fun x hx => ?_, hLap⟩, ?_⟩
        · have := hAt x hx
          omega
        · rw [hw, ea]
          simp only [Bool.false_eq_true, if_false]
          omega
    · refine ⟨A ++ B.map fun b => b + l.size, ⟨List.nodup_append.2 ⟨hA.nd, hRnd, fun a ha b hb e => ?_⟩, fun x hx => ?_, fun a ha b hb hab => ?_⟩, ?_⟩
      · obtain ⟨y, hy, rfl⟩ := hRm b hb
        have := hAt a ha
        omega
      · rcases List.mem_append.1 hx with hx | hx
        · have := hAt x hx
          omega
        · obtain ⟨y, hy, rfl⟩ := hRm x hx
          have := hB.lt y hy
          omega
      · rcases List.mem_append.1 ha with ha' | ha' <;> rcases List.mem_append.1 hb with hb' | hb'
        · exact hLap a ha' b hb' hab
        · obtain ⟨y, hy, rfl⟩ := hRm b hb'
          have h1 := hAt a ha'
          have h2 := hB.lt y hy
          rcases (T.bf_two true l r _ _ (by omega) (by omega)).1 hab with h | h | h
          · omega
          · omega
          · cases h.1
        · obtain ⟨x, hx, rfl⟩ := hRm a ha'
          have h1 := hAt b hb'
          have := hab.1
          omega
        · exact hRap a ha' b hb' hab
      · rw [hw, List.length_append, List.length_map, ea, eb]
        rfl
/-- as many of the graph's nodes are apart -/
theorem T.wide (t : T) : (Mt.wideW (Gr.behW t.size (Gr.gE t.rk t.size)) t.size).length = t.width := by
  obtain ⟨hA, hM⟩ := Mt.wide_is (Gr.gE_full t.rk t.size) Gr.gE_lt
  refine Nat.le_antisymm (t.ap_le _ ⟨hA.nd, hA.lt, fun a ha b hb hab => hA.ap a ha b hb (.one (Gr.gE_mem.2 ⟨hab.1, hA.lt b hb, hab.2⟩))⟩) ?_
  obtain ⟨A, h1, h2⟩ := t.ap_hit
  rw [← h2]
  refine hM A ⟨h1.nd, h1.lt, fun a ha b hb hw => ?_⟩
  obtain ⟨k1, -, k3⟩ := Gr.gE_mem.1 (Gr.gE_way hw)
  exact h1.ap a ha b hb ⟨k1, k3⟩
end Sp
end Go.Proofs.YtfjmhmfkhgjnhaaDoor


namespace Go.Proofs.YtfjmhmfkhgjnhaaDoor
set_option linter.unusedVariables false
set_option linter.unusedSimpArgs false
set_option maxRecDepth 100000
open Go.RowKit

namespace Gr
def zed (es : List Ed) : List Er := es.map fun e => ((e.1 : Int), (e.2 : Int))
theorem nat_zed (es : List Ed) : nat (zed es) = es := by
  unfold nat zed
  rw [List.map_map]
  conv => rhs; rw [← List.map_id es]
  refine List.map_congr_left fun e _ => ?_
  simp
theorem zed_length (es : List Ed) : (zed es).length = es.length := by simp [zed]
theorem wrong_zed {N : Nat} {es : List Ed} (hN : N ≤ 200) (hes : ∀ e ∈ es, e.1 < N ∧ e.2 < N) (hful : (take N es).length = N) : wrong (N : Int) (zed es) = 0 := by
  have hok : okG (N : Int) (zed es) = true := okG_iff.2 ⟨by omega, by omega, fun e he => by
    obtain ⟨x, hx, rfl⟩ := List.mem_map.1 he
    have := hes x hx
    exact ⟨by show 0 ≤ (x.1 : Int); omega, by show 0 ≤ (x.2 : Int); omega, by show (x.1 : Int) < N; omega, by show (x.2 : Int) < N; omega⟩⟩
  unfold wrong
  rw [if_pos hok, Int.toNat_natCast, nat_zed, hful, if_neg (Nat.lt_irrefl _)]
theorem left_full {N : Nat} {es : List Ed} {D : List Nat} (hes : ∀ e ∈ es, e.1 < N ∧ e.2 < N) (hful : (take N es).length = N) : (take N (left es D)).length = N :=
  full_of_sub hful (fun e he => .one (mem_left.1 he).1) (fun e he => hes e (mem_left.1 he).1)
theorem left_snoc (es : List Ed) (D : List Nat) (k : Nat) (e : Ed) (h : es[k]? = some e) : left (es.take (k + 1)) D = left (es.take k) D ++ (if !D.contains e.1 && !D.contains e.2 then [e] else []) := by
  unfold left
  rw [take_snoc h, List.filter_append]
  congr 1
  simp only [List.filter_cons, List.filter_nil]
end Gr
theorem ercs_zed (es : List Gr.Ed) : ercs (Gr.zed es) = edcs es := by
  unfold ercs edcs Gr.zed
  rw [List.flatMap_map, List.flatMap_def, List.flatMap_def]
  congr 1

/-- the height of a graph that is right -/
theorem height_full (N : Nat) (es : List Gr.Ed) (w : World) (A : Option Addr) (c : Nat) (hN : N ≤ 200) (hes : ∀ e ∈ es, e.1 < N ∧ e.2 < N) (hful : (Gr.take N es).length = N) (hA : SlV w 2 (.slice A es.length c) es.length (edcs es)) (hle : es.length ≤ 1099511627776) (hT : Tab w) :
    Calls Tryd.prog 12 #[.agg #[.int .i64 (N : Int), .slice A es.length c]] w fun e w' => ∃ (h : Nat) (L : List Nat), e = .returned (.tuple #[.int .i64 (h : Int), .int .i64 0]) ∧ Gr.LvL N es L ∧ h = Gr.hgt L ∧ h ≤ 201 ∧ Below w.heap.size w w' := by
  have := height_any (N : Int) (Gr.zed es) w A c (by rw [Gr.zed_length, ercs_zed]; exact hA) (by rw [Gr.zed_length]; exact hle) hT
  rw [Gr.zed_length, Gr.wrong_zed hN hes hful, Gr.nat_zed, Int.toNat_natCast] at this
  refine this.mono ?_
  rintro e w' ⟨h, he, -, hL, hh, hb⟩
  obtain ⟨L, h1, h2⟩ := hL rfl
  exact ⟨h, L, he, h1, h2, hh, hb⟩
end Go.Proofs.YtfjmhmfkhgjnhaaDoor


namespace Go.Proofs.YtfjmhmfkhgjnhaaDoor
set_option linter.unusedVariables false
set_option linter.unusedSimpArgs false
set_option maxRecDepth 100000
open Go

def fieldsOf (P : Program) (t : TypeId) : Array Field := match P.underlying t with | some (.struct fs) => fs | _ => #[]
end Go.Proofs.YtfjmhmfkhgjnhaaDoor


namespace Go.Proofs.YtfjmhmfkhgjnhaaDoor
set_option linter.unusedVariables false
set_option linter.unusedSimpArgs false
set_option maxRecDepth 100000
open Go.ChangeShapes Go.WideShapes Go.ChangeAt Go.RowKit
set_option maxRecDepth 100000

def tcells (k c : Int) (b : Bool) (l : Int) (A : Option Addr) (n cap : Nat) : List Value := [.int .i64 k, .int .i64 c, .bool b, .int .i64 l, .slice A n cap]

inductive TmR (B : Nat) (w : World) : List Value → Sp.T → Prop
  | nil (k c : Int) (b : Bool) (l : Int) (A : Option Addr) (n cap : Nat) : n ≤ cap → cap ≤ maxLen → k ≠ 1 → ¬ ((k = 2 ∨ k = 3) ∧ 2 ≤ n) → TmR B w (tcells k c b l A n cap) .nil
  | one (c : Int) (b : Bool) (l : Int) (A : Option Addr) (n cap : Nat) : n ≤ cap → cap ≤ maxLen → TmR B w (tcells 1 c b l A n cap) (.one c b l)
  | two (par : Bool) (c : Int) (b : Bool) (l : Int) (g o n cap : Nat) (cs0 cs1 : List Value) (t0 t1 : Sp.T) : n ≤ cap → cap ≤ maxLen → 2 ≤ n → g < B →
      (∀ j u, cs0[j]? = some u → w.cell? ⟨g, o + j, none⟩ = some u) → (∀ j u, cs1[j]? = some u → w.cell? ⟨g, o + 5 + j, none⟩ = some u) → TmR B w cs0 t0 → TmR B w cs1 t1 →
      TmR B w (tcells (if par then 3 else 2) c b l (some ⟨g, o, none⟩) n cap) (.two par t0 t1)

theorem TmR.form {B : Nat} {w : World} {cs : List Value} {t : Sp.T} (h : TmR B w cs t) : ∃ k c b l A n cap, cs = tcells k c b l A n cap ∧ n ≤ cap ∧ cap ≤ maxLen := by
  cases h with
  | nil k c b l A n cap h1 h2 => exact ⟨_, _, _, _, _, _, _, rfl, h1, h2⟩
  | one c b l A n cap h1 h2 => exact ⟨_, _, _, _, _, _, _, rfl, h1, h2⟩
  | two par c b l g o n cap cs0 cs1 t0 t1 h1 h2 => exact ⟨_, _, _, _, _, _, _, rfl, h1, h2⟩

theorem TmR.keep {B B' : Nat} {w w' : World} {cs : List Value} {t : Sp.T} (h : TmR B w cs t) (hB : B ≤ B') (hk : ∀ p : Addr, p.block < B → w'.cell? p = w.cell? p) : TmR B' w' cs t := by
  induction h with
  | nil k c b l A n cap h1 h2 h3 h4 => exact .nil k c b l A n cap h1 h2 h3 h4
  | one c b l A n cap h1 h2 => exact .one c b l A n cap h1 h2
  | two par c b l g o n cap cs0 cs1 t0 t1 h1 h2 h3 h4 h5 h6 _ _ i0 i1 =>
    exact .two par c b l g o n cap cs0 cs1 t0 t1 h1 h2 h3 (Nat.lt_of_lt_of_le h4 hB) (fun j u hu => (hk ⟨g, o + j, none⟩ h4).trans (h5 j u hu)) (fun j u hu => (hk ⟨g, o + 5 + j, none⟩ h4).trans (h6 j u hu)) i0 i1
theorem TmR.later {B : Nat} {w w' : World} {cs : List Value} {t : Sp.T} (h : TmR B w cs t) (hb : Below B w w') : TmR B w' cs t := h.keep (Nat.le_refl _) (fun _ hp => hb.cell hp)
theorem TmR.alloc {B : Nat} {w : World} {cs : List Value} {t : Sp.T} (h : TmR B w cs t) (hB : B ≤ w.heap.size) (o : Obj) : TmR B (w.alloc o) cs t := h.later ((Below.refl _ _).alloc hB o)

/-! ### an argument -/
theorem bulk_mem {H : Type} {d : DataW H} : ∀ {l : List (DataW H)}, d ∈ l → Rows.uptoBulk d ≤ Rows.uptoBulkAll l
  | x :: l, h => by
    rw [Rows.uptoBulkAll]
    rcases List.mem_cons.1 h with rfl | h
    · omega
    · have := bulk_mem h; omega
theorem bulk_two {H : Type} (x y : DataW H) (l : List (DataW H)) : Rows.uptoBulk x + Rows.uptoBulk y ≤ Rows.uptoBulkAll (x :: y :: l) := by
  rw [Rows.uptoBulkAll, Rows.uptoBulkAll]; omega


theorem open_term {H : Type} {enc : TypeId × Value → H} {w : World} : ∀ (fuel : Nat) (cs : List Value) (x : DataW H × List MemPlace), DataW.trod enc Tryd.prog w 0 (fun _ => true) true fuel 44 cs = some x → (∀ p ∈ x.2, p.block < w.heap.size) →
    ∃ t : Sp.T, TmR w.heap.size w cs t ∧ t.cnt ≤ Rows.uptoBulk x.1 := by
  intro fuel
  induction fuel using Nat.strongRecOn with
  | _ fuel ih =>
    intro cs x h hlt
    have hT : Tryd.prog.underlying 44 = some (.struct (fieldsOf Tryd.prog 44)) := by kernel_rfl
    have hA : Tryd.prog.underlying 41 = some (.struct (fieldsOf Tryd.prog 41)) := by kernel_rfl
    obtain ⟨xs, m, rfl, rfl, hl, hxl, hfs⟩ := DataW.trod_struct hT h
    have e0 : (fieldsOf Tryd.prog 44)[0]?.map (fun f => (f.type, f.offset)) = some (3, 0) := by kernel_rfl
    have e1 : (fieldsOf Tryd.prog 44)[1]?.map (fun f => (f.type, f.offset)) = some (41, 1) := by kernel_rfl
    have e2 : (fieldsOf Tryd.prog 44)[2]?.map (fun f => (f.type, f.offset)) = some (42, 4) := by kernel_rfl
    have hsz : (fieldsOf Tryd.prog 44).size = 3 := by kernel_rfl
    obtain ⟨f0, g0, q0⟩ := Option.map_eq_some_iff.1 e0
    obtain ⟨f1, g1, q1⟩ := Option.map_eq_some_iff.1 e1
    obtain ⟨f2, g2, q2⟩ := Option.map_eq_some_iff.1 e2
    injection q0 with q0 q0'
    injection q1 with q1 q1'
    injection q2 with q2 q2'
    have h0 := hfs 0 f0 g0
    have h1 := hfs 1 f1 g1
    have h2 := hfs 2 f2 g2
    have c0 : Tryd.prog.cellsOf 3 = 1 := by kernel_rfl
    have c1 : Tryd.prog.cellsOf 41 = 3 := by kernel_rfl
    have c2 : Tryd.prog.cellsOf 42 = 1 := by kernel_rfl
    have cT : Tryd.prog.cellsOf 44 = 5 := by kernel_rfl
    have cB : Tryd.prog.cellsOf 4 = 1 := by kernel_rfl
    rw [q0, q0', c0] at h0
    rw [q1, q1', c1] at h1
    rw [q2, q2', c2] at h2
    rw [cT] at hl
    rw [hsz] at hxl
    match xs, hxl, cs, hl with
    | [x0, x1, x2], _, [v0, v1, v2, v3, v4], _ =>
      simp only [List.drop_succ_cons, List.drop_zero, List.take_succ_cons, List.take_zero, List.getElem?_cons_zero, List.getElem?_cons_succ] at h0 h1 h2
      obtain ⟨k, hk, -, -⟩ := DataW.trod_int Tryd.underlying3 h0
      obtain ⟨ys, m1, rfl, -, hl1, hyl, hys⟩ := DataW.trod_struct hA h1
      have d0 : (fieldsOf Tryd.prog 41)[0]?.map (fun f => (f.type, f.offset)) = some (3, 0) := by kernel_rfl
      have d1 : (fieldsOf Tryd.prog 41)[1]?.map (fun f => (f.type, f.offset)) = some (4, 1) := by kernel_rfl
      have d2 : (fieldsOf Tryd.prog 41)[2]?.map (fun f => (f.type, f.offset)) = some (3, 2) := by kernel_rfl
      have hsy : (fieldsOf Tryd.prog 41).size = 3 := by kernel_rfl
      obtain ⟨u0, w0, p0⟩ := Option.map_eq_some_iff.1 d0
      obtain ⟨u1, w1, p1⟩ := Option.map_eq_some_iff.1 d1
      obtain ⟨u2, w2, p2⟩ := Option.map_eq_some_iff.1 d2
      injection p0 with p0 p0'
      injection p1 with p1 p1'
      injection p2 with p2 p2'
      have y0 := hys 0 u0 w0
      have y1 := hys 1 u1 w1
      have y2 := hys 2 u2 w2
      rw [p0, p0', c0] at y0
      rw [p1, p1', cB] at y1
      rw [p2, p2', c0] at y2
      rw [hsy] at hyl
      match ys, hyl with
      | [z0, z1, z2], _ =>
        simp only [List.drop_succ_cons, List.drop_zero, List.take_succ_cons, List.take_zero, List.getElem?_cons_zero, List.getElem?_cons_succ] at y0 y1 y2
        obtain ⟨c, hc, -, -⟩ := DataW.trod_int Tryd.underlying3 y0
        obtain ⟨b, hb, -⟩ := DataW.trod_bool Tryd.underlying4 y1
        obtain ⟨l, hl', -, -⟩ := DataW.trod_int Tryd.underlying3 y2
        simp only [List.cons.injEq, and_true] at hk hc hb hl'
        subst hk hc hb hl'
        have bulk1 : Rows.uptoBulk (DataW.agg (H := H) [x0.1, x1.1, x2.1]) = Rows.uptoBulk x0.1 + (Rows.uptoBulk x1.1 + Rows.uptoBulk x2.1) + 1 := by
          simp [Rows.uptoBulk, Rows.uptoBulkAll]
        have pos : ∀ d : DataW H, 1 ≤ Rows.uptoBulk d := fun d => by
          cases d with
          | lit x => cases x <;> simp [Rows.uptoBulk]
          | _ => simp [Rows.uptoBulk]
        rcases DataW.trod_slice Tryd.underlying42 h2 with ⟨hcs, hx⟩ | ⟨a, len, cap, el, rest, n, hn, hcs, hx, -, hle, hm, hlen, hel, hsp, -⟩
        · simp only [List.cons.injEq, and_true] at hcs
          subst hcs
          by_cases hk1 : k = 1
          · subst hk1
            exact ⟨.one c b l, .one c b l none 0 0 (Nat.le_refl _) (Nat.zero_le _), by have := pos x0.1; simp [Sp.T.cnt, bulk1]⟩
          · exact ⟨.nil, .nil k c b l none 0 0 (Nat.le_refl _) (Nat.zero_le _) hk1 (by omega), by simp [Sp.T.cnt, bulk1]⟩
        · simp only [List.cons.injEq, and_true] at hcs
          subst hcs
          by_cases hk1 : k = 1
          · subst hk1
            exact ⟨.one c b l, .one c b l _ len cap hle hm, by have := pos x0.1; simp [Sp.T.cnt, bulk1]⟩
          · by_cases hk2 : (k = 2 ∨ k = 3) ∧ 2 ≤ len
            · obtain ⟨hk2, h2l⟩ := hk2
              have kid : ∀ i, i < len → ∃ (y : DataW H × List MemPlace) (cs' : List Value) (t : Sp.T), el[i]? = some y ∧ cs'.length = 5 ∧ (∀ j u, cs'[j]? = some u → w.cell? ((a.add (i * 5)).add j) = some u) ∧ TmR w.heap.size w cs' t ∧ t.cnt ≤ Rows.uptoBulk y.1 := by
                intro i hi
                have h3 := hel i hi
                rw [cT, List.getElem?_eq_getElem (by omega)] at h3
                obtain ⟨cs', hc', htr⟩ := Option.bind_eq_some_iff.1 h3
                obtain ⟨hb0, hl5, hat⟩ := World.cells?_some hc'
                obtain ⟨t, ht1, ht2⟩ := ih n (by omega) cs' _ htr (fun p hp => hlt p (by
                  rw [hx]
                  simp only [List.flatMap_cons, List.flatMap_nil, List.mem_append, List.append_nil]
                  exact .inr (.inr (.inr (List.mem_flatMap.2 ⟨el[i], List.mem_append_left _ (List.getElem_mem _), hp⟩)))))
                refine ⟨el[i], cs', t, List.getElem?_eq_getElem (by omega), hl5, fun j u hu => ?_, ht1, ht2⟩
                have hj : j < 5 := by have := (List.getElem?_eq_some_iff.1 hu).1; omega
                rw [hat j hj, hu]
              obtain ⟨ya, csa, ta, ea, la, ca, ra, ba⟩ := kid 0 (by omega)
              obtain ⟨yb, csb, tb, eb, lb, cb, rb, bb⟩ := kid 1 (by omega)
              obtain ⟨g, o, sp⟩ := a
              have hsp0 : sp = none := by
                have := ca 0 _ (List.getElem?_eq_getElem (by omega))
                simpa [Addr.add] using World.cell?_spot this
              subst hsp0
              have ca' : ∀ j u, csa[j]? = some u → w.cell? ⟨g, o + j, none⟩ = some u := fun j u hu => by
                have := ca j u hu
                rw [Addr.add_lit, Addr.add_lit] at this
                simpa using this
              have cb' : ∀ j u, csb[j]? = some u → w.cell? ⟨g, o + 5 + j, none⟩ = some u := fun j u hu => by
                have := cb j u hu
                rw [Addr.add_lit, Addr.add_lit] at this
                simpa using this
              have hg : g < w.heap.size := World.block_lt_of_cell? w _ (ca' 0 _ (List.getElem?_eq_getElem (by omega)))
              have hbulk : ta.cnt + tb.cnt ≤ Rows.uptoBulk x2.1 := by
                rw [hx]
                match el, hlen, ea, eb with
                | e0 :: e1 :: el', _, ea, eb =>
                  simp only [List.getElem?_cons_zero, List.getElem?_cons_succ, Option.some.injEq] at ea eb
                  subst ea eb
                  have := bulk_two e0.1 e1.1 (el'.map (·.1))
                  simp only [List.map_cons, Rows.uptoBulk]
                  omega
              rcases hk2 with rfl | rfl
              · exact ⟨.two false ta tb, .two false c b l g o len cap csa csb ta tb hle hm h2l hg ca' cb' ra rb, by show _ ≤ Rows.uptoBulk (DataW.agg (H := H) [x0.1, x1.1, x2.1]); rw [Sp.T.cnt, bulk1]; omega⟩
              · exact ⟨.two true ta tb, .two true c b l g o len cap csa csb ta tb hle hm h2l hg ca' cb' ra rb, by show _ ≤ Rows.uptoBulk (DataW.agg (H := H) [x0.1, x1.1, x2.1]); rw [Sp.T.cnt, bulk1]; omega⟩
            · exact ⟨.nil, .nil k c b l _ len cap hle hm hk1 hk2, by simp [Sp.T.cnt, bulk1]⟩
end Go.Proofs.YtfjmhmfkhgjnhaaDoor


namespace Go.Proofs.YtfjmhmfkhgjnhaaDoor
set_option linter.unusedVariables false
set_option linter.unusedSimpArgs false
set_option maxRecDepth 100000
open Go.RowKit
namespace Sp
def accc (a : Acc) : List Value := [.int .i64 a.1, .bool a.2.1, .int .i64 a.2.2]
def acccs (l : List Acc) : List Value := l.flatMap accc
theorem acccs_length (l : List Acc) : (acccs l).length = l.length * 3 := flat_length accc 3 (fun _ => rfl) l
theorem acccs_append (a b : List Acc) : acccs (a ++ b) = acccs a ++ acccs b := by simp [acccs]
theorem acc_one (a : Acc) : ∀ u ∈ accc a, u.oneCell' = true := by
  intro u hu
  simp only [accc, List.mem_cons, List.not_mem_nil, or_false] at hu
  rcases hu with rfl | rfl | rfl <;> rfl
theorem info_acc : (Tryd.prog.info? 41).map (fun i => (i.zero, i.size, i.bytes)) = some (some (.agg #[.int .i64 0, .bool false, .int .i64 0]), 3, 24) := by kernel_rfl
end Sp
end Go.Proofs.YtfjmhmfkhgjnhaaDoor


namespace Go.Proofs.YtfjmhmfkhgjnhaaDoor
set_option linter.unusedVariables false
set_option linter.unusedSimpArgs false
set_option maxRecDepth 100000
open Go.RowKit

/-- what gathers leaves, in block g: the row that it has so far -/
structure Lv (B : Nat) (w : World) (g : Nat) (v : Value) (n : Nat) (xs : List Value) : Prop where
  blk : Blk w g 107 [v]
  row : w.ownsRow B 41 3 v n xs
  base : B ≤ w.heap.size
  at_ : B ≤ g
  ne : v.ownBlock ≠ some g

def LvEnd (B : Nat) (w : World) (g : Nat) (v : Value) (n : Nat) (xs : List Value) : Ending → World → Prop := fun e w' =>
  e = .returned (.tuple #[]) ∧ ∃ v', Lv B w' g v' n xs ∧ Keeps (fun k => k = g ∨ v.ownBlock = some k) w w' ∧ (∀ i, v'.ownBlock = some i → v.ownBlock = some i ∨ w.heap.size ≤ i)

theorem lv_put {B : Nat} {w w0 w4 : World} {g n n' : Nat} {v v' : Value} {xs xs' : List Value} {o : Obj} (hL : Lv B w0 g v n xs) (hk0 : Keeps (fun k => k = g ∨ v.ownBlock = some k) w w0) (hg4 : (w0.alloc o).drew.grownBy w4 v.ownBlock) (hown : w4.ownsRow B 41 3 v' n' xs')
    (hv4 : v'.ownBlock = v.ownBlock ∨ v'.ownBlock = some (w0.alloc o).drew.heap.size) : ∃ v'', Lv B (w4.setCell ⟨g, 0, none⟩ v') g v'' n' xs' ∧ Keeps (fun k => k = g ∨ v.ownBlock = some k) w (w4.setCell ⟨g, 0, none⟩ v') ∧ (∀ i, v''.ownBlock = some i → v.ownBlock = some i ∨ w.heap.size ≤ i) := by
  have kk : Keeps (fun k => v.ownBlock = some k) w0 w4 := (((Keeps.refl _ w0).alloc o).drewN 1).trans ((Keeps.of_grown hg4).mono (fun i hi => hi.symm))
  have hne : v'.ownBlock ≠ some g := fun e => by
    rcases hv4 with h | h
    · exact hL.ne (h ▸ e)
    · rw [h] at e
      injection e with e
      have := hL.blk.lt
      simp at e; omega
  have hb4 := hL.blk.keeps kk hL.ne
  have ks : Keeps (fun k => k = g) w4 (w4.setCell ⟨g, 0, none⟩ v') := (Keeps.of_grown (grown_setCell w4 g 0 v')).mono (fun i hi => by injection hi)
  refine ⟨v', ⟨?_, own_keeps hown ks (fun i hi e => hne (e ▸ hi)), by have := hL.base; have := kk.size; have := ks.size; omega, hL.at_, hne⟩, (hk0.trans (kk.mono (fun i hi => .inr hi))).trans (ks.mono (fun i hi => .inl hi)), fun i hi => ?_⟩
  · have := hb4.set_ 0 v'
    simpa using this
  · rcases hv4 with h | h
    · exact .inl (h ▸ hi)
    · rw [h] at hi
      injection hi with hi
      have := hk0.size
      simp at hi
      exact .inr (by omega)

theorem lv_nothing (B : Nat) (w : World) (g : Nat) (v : Value) (n : Nat) (xs : List Value) (h : Lv B w g v n xs) :
    Calls Tryd.prog 114 #[.pointer (some ⟨g, 0, none⟩)] w (LvEnd B w g v n xs) := by
  go_enter Tryd.func114, Tryd.ntmps114
  go_wp2
  go_end0
  exact ⟨rfl, v, h, Keeps.refl _ _, fun i hi => .inl hi⟩

theorem lv_one (B : Nat) (w : World) (g : Nat) (v : Value) (n : Nat) (xs : List Value) (h : Lv B w g v n xs) (a : Sp.Acc) (hn : n ≤ 4194304) :
    Calls Tryd.prog 115 #[.pointer (some ⟨g, 0, none⟩), .agg #[.int .i64 a.1, .bool a.2.1, .int .i64 a.2.2]] w (LvEnd B w g v (n + 1) (xs ++ Sp.accc a)) := by
  obtain ⟨a1, a2, a3⟩ := a
  simp only
  go_enter Tryd.func115, Tryd.ntmps115
  go_wp2_with fail
  have hB := Blk.new w 41 (Sp.accc (a1, a2, a3))
  have hL : Lv B (w.alloc (.cells (Sp.accc (a1, a2, a3)).toArray 41)) g v n xs := ⟨h.blk.alloc _, h.row.alloc _, by have := h.base; simp; omega, h.at_, h.ne⟩
  have hk0 : Keeps (fun k => k = g ∨ v.ownBlock = some k) w (w.alloc (.cells (Sp.accc (a1, a2, a3)).toArray 41)) := (Keeps.refl _ w).alloc _
  have hvw : ∀ i, v.ownBlock = some i → i < w.heap.size := fun i hi => (h.row.lt i hi).2
  have hgw := h.blk.lt
  obtain ⟨q, hq⟩ : ∃ q, q = w.heap.size := ⟨_, rfl⟩
  have hB' : Blk (w.alloc (.cells (Sp.accc (a1, a2, a3)).toArray 41)) q 41 (Sp.accc (a1, a2, a3)) := by rw [hq]; exact hB
  have hqs : q < (w.alloc (.cells (Sp.accc (a1, a2, a3)).toArray 41)).heap.size := by rw [hq]; simp
  show Code.wp _ _ _ _ (w.alloc (.cells (Sp.accc (a1, a2, a3)).toArray 41))
  rw [← hq]
  generalize (w.alloc (.cells (Sp.accc (a1, a2, a3)).toArray 41)) = w0 at hB' hL hk0 hqs ⊢
  clear hB h hq
  have c0 := hL.blk.cell 0
  simp only [List.getElem?_cons_zero] at c0
  have d0 := hB'.cell 0
  have d1 := hB'.cell 1
  have d2 := hB'.cell 2
  simp only [Sp.accc, List.getElem?_cons_zero, List.getElem?_cons_succ] at d0 d1 d2
  have n63 : n + 1 ≤ maxLen := by unfold maxLen; omega
  have n47 : (n + 1) * 24 ≤ 140737488355328 := by omega
  have fz : ∀ w', Keeps (fun k => v.ownBlock = some k) w0 w' → w'.frozen? ⟨g, 0, none⟩ = false ∧ w'.cell? ⟨g, 0, none⟩ = some v := fun w' hk => by
    have hb := hL.blk.keeps hk hL.ne
    exact ⟨hb.frozen 0, by rw [hb.cell]; rfl⟩
  have hrow : ∀ o : Obj, (w0.alloc o).drew.ownsRow B 41 3 v n xs := fun o => (hL.row.alloc o).drew
  have hba : ∀ o : Obj, B ≤ (w0.alloc o).drew.heap.size := fun o => by have := hL.base; simp; omega
  have hgl := hL.blk.lt
  go_region_law (refine step_append _ _ _ _ _ _ _ _ Tryd.underlying74 Sp.info_acc rfl (by decide) (hrow _) (show Cells _ _ _ (Sp.accc (a1, a2, a3)) from Cells.new w0 _ 41) rfl (Sp.acc_one _) n63 n47 (hba _) rfl rfl rfl rfl ?_; intro v4 w4 hown4 hg4 hv4 hb4; obtain ⟨A4, k4, rfl, hle4, hm4⟩ := own_slice hown4; obtain ⟨f4, c4⟩ := fz w4 (((Keeps.refl _ w0).alloc _).drewN 1 |>.trans ((Keeps.of_grown hg4).mono (fun i hi => hi.symm))))
  all_goals
    have hend := lv_put hL hk0 hg4 hown4 hv4
    clear hb4 hg4 hown4 hv4 hrow hba fz f4 c4 c0 d0 d1 d2 hB' hL hk0
    go_end0
    exact ⟨rfl, hend⟩

/-- what tell does, whoever is told -/
theorem tell_nil {B : Nat} {w : World} {cs : List Value} (hT : TmR B w cs .nil) {ty : TypeId} {p : Value} {f : FuncId} {R : World → Prop} (hme : ∀ (k : Nat) (w : World), (method (k + 1) ty p "forkwright/sp.nothing").run Tryd.prog w = .ok (f, p) w) (hcf : ∀ (args : Array Value) (w : World), (callFunc f args).run Tryd.prog w = .ok (.enter f args) w)
    (hc : Calls Tryd.prog f #[p] (w.alloc (.cells cs.toArray 44)) fun e w' => e = .returned (.tuple #[]) ∧ R w') :
    Calls Tryd.prog 62 #[.agg cs.toArray, .iface ty p] w fun e w' => e = .returned (.tuple #[]) ∧ R w' := by
  cases hT with
  | nil k c b l A m cap hm hcap hk1 hk2 =>
  unfold tcells at hc ⊢
  unfold maxLen at hcap
  have e1 : (k == 1) = false := by simpa using hk1
  by_cases k2 : k = 2
  · subst k2
    have hm2 : ¬ 2 ≤ m := fun h => hk2 ⟨.inl rfl, h⟩
    clear hk2 hk1
    go_enter Tryd.func62, Tryd.ntmps62
    go_wp2_with fail
    refine hc.mono ?_
    rintro e w1 ⟨rfl, hR⟩
    go_wp2
    go_end0
    exact ⟨rfl, hR⟩
  · have e2 : (k == 2) = false := by simpa using k2
    by_cases k3 : k = 3
    · subst k3
      have hm2 : ¬ 2 ≤ m := fun h => hk2 ⟨.inr rfl, h⟩
      clear hk2 hk1
      go_enter Tryd.func62, Tryd.ntmps62
      go_wp2_with fail
      refine hc.mono ?_
      rintro e w1 ⟨rfl, hR⟩
      go_wp2
      go_end0
      exact ⟨rfl, hR⟩
    · have e3 : (k == 3) = false := by simpa using k3
      clear hk2 hk1
      go_enter Tryd.func62, Tryd.ntmps62
      go_wp2_with fail
      refine hc.mono ?_
      rintro e w1 ⟨rfl, hR⟩
      go_wp2
      go_end0
      exact ⟨rfl, hR⟩

theorem tell_one {B : Nat} {w : World} {cs : List Value} {c : Int} {b : Bool} {l : Int} (hT : TmR B w cs (.one c b l)) {ty : TypeId} {p : Value} {f : FuncId} {R : World → Prop} (hme : ∀ (k : Nat) (w : World), (method (k + 1) ty p "forkwright/sp.one").run Tryd.prog w = .ok (f, p) w) (hcf : ∀ (args : Array Value) (w : World), (callFunc f args).run Tryd.prog w = .ok (.enter f args) w)
    (hc : Calls Tryd.prog f #[p, .agg #[.int .i64 c, .bool b, .int .i64 l]] (w.alloc (.cells cs.toArray 44)) fun e w' => e = .returned (.tuple #[]) ∧ R w') :
    Calls Tryd.prog 62 #[.agg cs.toArray, .iface ty p] w fun e w' => e = .returned (.tuple #[]) ∧ R w' := by
  cases hT with
  | one c b l A m cap hm hcap =>
  unfold tcells at hc ⊢
  unfold maxLen at hcap
  go_enter Tryd.func62, Tryd.ntmps62
  go_wp2_with fail
  refine hc.mono ?_
  rintro e w1 ⟨rfl, hR⟩
  go_wp2
  go_end0
  exact ⟨rfl, hR⟩

set_option maxHeartbeats 2000000 in
theorem tell_two {B : Nat} {w : World} {cs : List Value} {par : Bool} {t0 t1 : Sp.T} (hT : TmR B w cs (.two par t0 t1)) {ty : TypeId} {p : Value} {f : FuncId} {R : World → Prop} (hme : ∀ (k : Nat) (w : World), (method (k + 1) ty p "forkwright/sp.two").run Tryd.prog w = .ok (f, p) w) (hna : ∀ (k : Nat) (w : World), (nilAhead (k + 1) ty p "forkwright/sp.two").run Tryd.prog w = .ok (some false) w) (hcf : ∀ (args : Array Value) (w : World), (callFunc f args).run Tryd.prog w = .ok (.enter f args) w)
    (hB : B ≤ w.heap.size) (hc : ∀ cs0 cs1, TmR B w cs0 t0 → TmR B w cs1 t1 → Calls Tryd.prog f #[p, .bool par, .agg cs0.toArray, .agg cs1.toArray] ((w.alloc (.cells cs.toArray 44)).drewN 1) fun e w' => e = .returned (.tuple #[]) ∧ R w') :
    Calls Tryd.prog 62 #[.agg cs.toArray, .iface ty p] w fun e w' => e = .returned (.tuple #[]) ∧ R w' := by
  cases hT with
  | two par c b l g o m cap cs0 cs1 t0 t1 hm hcap h2 hg h5 h6 r0 r1 =>
  have hcc := hc cs0 cs1 r0 r1
  have hgw : g < w.heap.size := by omega
  clear hc
  obtain ⟨a0, a1, a2, a3, A4, a5, a6, rfl, -, -⟩ := r0.form
  obtain ⟨b0, b1, b2, b3, B4, b5, b6, rfl, -, -⟩ := r1.form
  have x0 := h5 0 _ rfl
  have x1 := h5 1 _ rfl
  have x2 := h5 2 _ rfl
  have x3 := h5 3 _ rfl
  have x4 := h5 4 _ rfl
  have y0 := h6 0 _ rfl
  have y1 := h6 1 _ rfl
  have y2 := h6 2 _ rfl
  have y3 := h6 3 _ rfl
  have y4 := h6 4 _ rfl
  rw [Nat.add_zero] at x0 y0
  clear h5 h6 r0 r1
  unfold tcells at hcc ⊢
  unfold maxLen at hcap
  have m0 : (0 : Int) < (m : Int) := by omega
  have m1 : (1 : Int) < (m : Int) := by omega
  have m2 : 0 < m := by omega
  have m3 : 1 < m := by omega
  rcases par with _ | _
  · simp only [Bool.false_eq_true, if_false] at hcc
    go_enter Tryd.func62, Tryd.ntmps62
    go_wp2_with fail
    (refine still_last (by kernel_rfl) (by kernel_rfl) ?_; simp only [List.length_cons, List.length_nil, Nat.reduceAdd, Nat.reduceSub, List.take_succ_cons, List.take_zero, List.drop_succ_cons, List.drop_zero]; repeat still_step; try refine wpStill_nil ?_)
    go_wp2_with fail
    refine hcc.mono ?_
    rintro e w1 ⟨rfl, hR⟩
    go_wp2
    go_end0
    exact ⟨rfl, hR⟩
  · simp only [if_true] at hcc
    go_enter Tryd.func62, Tryd.ntmps62
    go_wp2_with fail
    (refine still_last (by kernel_rfl) (by kernel_rfl) ?_; simp only [List.length_cons, List.length_nil, Nat.reduceAdd, Nat.reduceSub, List.take_succ_cons, List.take_zero, List.drop_succ_cons, List.drop_zero]; repeat still_step; try refine wpStill_nil ?_)
    go_wp2_with fail
    refine hcc.mono ?_
    rintro e w1 ⟨rfl, hR⟩
    go_wp2
    go_end0
    exact ⟨rfl, hR⟩

end Go.Proofs.YtfjmhmfkhgjnhaaDoor


namespace Go.Proofs.YtfjmhmfkhgjnhaaDoor
set_option linter.unusedVariables false
set_option linter.unusedSimpArgs false
set_option maxRecDepth 100000
open Go.RowKit

theorem meth_lv (g fuel : Nat) (w : World) : (method (fuel + 1) 108 (.pointer (some ⟨g, 0, none⟩)) "forkwright/sp.nothing").run Tryd.prog w = .ok (114, .pointer (some ⟨g, 0, none⟩)) w ∧
    (method (fuel + 1) 108 (.pointer (some ⟨g, 0, none⟩)) "forkwright/sp.one").run Tryd.prog w = .ok (115, .pointer (some ⟨g, 0, none⟩)) w ∧
    (method (fuel + 1) 108 (.pointer (some ⟨g, 0, none⟩)) "forkwright/sp.two").run Tryd.prog w = .ok (116, .pointer (some ⟨g, 0, none⟩)) w ∧
    (nilAhead (fuel + 1) 108 (.pointer (some ⟨g, 0, none⟩)) "forkwright/sp.two").run Tryd.prog w = .ok (some false) w :=
  ⟨by kernel_rfl, by kernel_rfl, by kernel_rfl, by kernel_rfl⟩

theorem LvEnd.and {B : Nat} {w : World} {g : Nat} {v : Value} {n : Nat} {xs : List Value} (e : Ending) (w' : World) : LvEnd B w g v n xs e w' ↔ (e = .returned (.tuple #[]) ∧ ∃ v', Lv B w' g v' n xs ∧ Keeps (fun k => k = g ∨ v.ownBlock = some k) w w' ∧ (∀ i, v'.ownBlock = some i → v.ownBlock = some i ∨ w.heap.size ≤ i)) := Iff.rfl

theorem Lv.alloc {B : Nat} {w : World} {g : Nat} {v : Value} {n : Nat} {xs : List Value} (h : Lv B w g v n xs) (o : Obj) : Lv B (w.alloc o) g v n xs := ⟨h.blk.alloc _, h.row.alloc _, by have := h.base; simp; omega, h.at_, h.ne⟩
theorem Lv.drewN {B : Nat} {w : World} {g : Nat} {v : Value} {n : Nat} {xs : List Value} (h : Lv B w g v n xs) (k : Nat) : Lv B (w.drewN k) g v n xs := ⟨h.blk, ⟨h.row.1, h.row.2⟩, h.base, h.at_, h.ne⟩

theorem lv_back {B : Nat} {w w0 : World} {g : Nat} {v : Value} {n : Nat} {xs : List Value} (hk : Keeps (fun _ => False) w w0) {e : Ending} {w' : World} (h : LvEnd B w0 g v n xs e w') : LvEnd B w g v n xs e w' := by
  obtain ⟨h1, v', h2, h3, h4⟩ := h
  have := hk.size
  exact ⟨h1, v', h2, (hk.mono (fun _ h => h.elim)).trans h3, fun i hi => (h4 i hi).imp id (fun h => by omega)⟩

theorem keeps_alloc (w : World) (o : Obj) : Keeps (fun _ => False) w (w.alloc o) := (Keeps.refl _ w).alloc o

theorem tell_leaves : ∀ (t : Sp.T) (B : Nat) (w : World) (g : Nat) (v : Value) (n : Nat) (xs cs : List Value), TmR B w cs t → Lv B w g v n xs → n + t.size ≤ 4194304 →
    Calls Tryd.prog 62 #[.agg cs.toArray, .iface 108 (.pointer (some ⟨g, 0, none⟩))] w (LvEnd B w g v (n + t.size) (xs ++ Sp.acccs t.leaves)) := by
  intro t
  induction t with
  | nil =>
    intro B w g v n xs cs hT hL hn
    have e : xs ++ Sp.acccs Sp.T.nil.leaves = xs := by simp [Sp.T.leaves, Sp.acccs]
    rw [e]
    refine tell_nil hT (f := 114) (fun k w => (meth_lv g k w).1) (fun _ _ => by rfl) ?_
    exact (lv_nothing B _ g v n xs (hL.alloc _)).mono fun e w' h => lv_back (keeps_alloc _ _) h
  | one c b l =>
    intro B w g v n xs cs hT hL hn
    have e : xs ++ Sp.acccs (Sp.T.one c b l).leaves = xs ++ Sp.accc (c, b, l) := by simp [Sp.T.leaves, Sp.acccs]
    rw [e]
    refine tell_one hT (f := 115) (fun k w => (meth_lv g k w).2.1) (fun _ _ => by rfl) ?_
    exact (lv_one B _ g v n xs (hL.alloc _) (c, b, l) (by omega)).mono fun e w' h => lv_back (keeps_alloc _ _) h
  | two par t0 t1 ih0 ih1 =>
    intro B w g v n xs cs hT hL hn
    rw [Sp.T.size_two] at hn ⊢
    refine tell_two hT (f := 116) (fun k w => (meth_lv g k w).2.2.1) (fun k w => (meth_lv g k w).2.2.2) (fun _ _ => by rfl) hL.base ?_
    intro cs0 cs1 r0 r1
    have hk0 : Keeps (fun _ => False) w ((w.alloc (.cells cs.toArray 44)).drewN 1) := (keeps_alloc _ _).drewN 1
    have hL0 : Lv B ((w.alloc (.cells cs.toArray 44)).drewN 1) g v n xs := (hL.alloc _).drewN 1
    have q0 : TmR B ((w.alloc (.cells cs.toArray 44)).drewN 1) cs0 t0 := r0.keep (Nat.le_refl _) (fun p hp => World.cell?_alloc_lt w _ p (by have := hL.base; omega))
    have q1 : TmR B ((w.alloc (.cells cs.toArray 44)).drewN 1) cs1 t1 := r1.keep (Nat.le_refl _) (fun p hp => World.cell?_alloc_lt w _ p (by have := hL.base; omega))
    refine Calls.mono (R := LvEnd B ((w.alloc (.cells cs.toArray 44)).drewN 1) g v (n + (t0.size + t1.size)) (xs ++ Sp.acccs (Sp.T.two par t0 t1).leaves)) ?_ (fun e w' h => lv_back hk0 h)
    generalize ((w.alloc (.cells cs.toArray 44)).drewN 1) = w0 at hL0 q0 q1 ⊢
    clear hk0 hT hL r0 r1
    obtain ⟨a0, a1, a2, a3, A4, a5, a6, rfl, -, -⟩ := q0.form
    obtain ⟨b0, b1, b2, b3, B4, b5, b6, rfl, -, -⟩ := q1.form
    unfold tcells at q0 q1 ⊢
    have hbox0 := Blk.new w0 44 [.int .i64 a0, .int .i64 a1, .bool a2, .int .i64 a3, .slice A4 a5 a6]
    have hbox1 := Blk.new (w0.alloc (.cells #[.int .i64 a0, .int .i64 a1, .bool a2, .int .i64 a3, .slice A4 a5 a6] 44)) 44 [.int .i64 b0, .int .i64 b1, .bool b2, .int .i64 b3, .slice B4 b5 b6]
    have hL2 := (hL0.alloc (.cells #[.int .i64 a0, .int .i64 a1, .bool a2, .int .i64 a3, .slice A4 a5 a6] 44)).alloc (.cells #[.int .i64 b0, .int .i64 b1, .bool b2, .int .i64 b3, .slice B4 b5 b6] 44)
    have hB1 : B ≤ (w0.alloc (.cells #[.int .i64 a0, .int .i64 a1, .bool a2, .int .i64 a3, .slice A4 a5 a6] 44)).heap.size := by have := hL0.base; simp; omega
    have s0 := (q0.alloc hL0.base (.cells #[.int .i64 a0, .int .i64 a1, .bool a2, .int .i64 a3, .slice A4 a5 a6] 44)).alloc hB1 (.cells #[.int .i64 b0, .int .i64 b1, .bool b2, .int .i64 b3, .slice B4 b5 b6] 44)
    have s1 := (q1.alloc hL0.base (.cells #[.int .i64 a0, .int .i64 a1, .bool a2, .int .i64 a3, .slice A4 a5 a6] 44)).alloc hB1 (.cells #[.int .i64 b0, .int .i64 b1, .bool b2, .int .i64 b3, .slice B4 b5 b6] 44)
    have hg1 := hL0.blk.lt
    have hv1 : ∀ i, v.ownBlock = some i → i < w0.heap.size := fun i hi => (hL0.row.lt i hi).2
    have hv2 : ∀ i, v.ownBlock = some i → B ≤ i := own_ge hL0.row
    have hk2 : Keeps (fun _ => False) w0 ((w0.alloc (.cells #[.int .i64 a0, .int .i64 a1, .bool a2, .int .i64 a3, .slice A4 a5 a6] 44)).alloc (.cells #[.int .i64 b0, .int .i64 b1, .bool b2, .int .i64 b3, .slice B4 b5 b6] 44)) := (keeps_alloc _ _).alloc _
    have hsz : ((w0.alloc (.cells #[.int .i64 a0, .int .i64 a1, .bool a2, .int .i64 a3, .slice A4 a5 a6] 44)).alloc (.cells #[.int .i64 b0, .int .i64 b1, .bool b2, .int .i64 b3, .slice B4 b5 b6] 44)).heap.size = w0.heap.size + 1 + 1 := by simp
    have hq1 : (w0.alloc (.cells #[.int .i64 a0, .int .i64 a1, .bool a2, .int .i64 a3, .slice A4 a5 a6] 44)).heap.size = w0.heap.size + 1 := by simp
    rw [hq1] at hbox1
    clear hbox0 hq1 hL0 q0 q1 hB1
    go_enter Tryd.func116, Tryd.ntmps116
    go_wp2_with fail
    refine (ih0 B _ g v n xs _ s0 hL2 (by omega)).mono ?_
    rintro e w1 ⟨rfl, v1, L1, k1, o1⟩
    rw [hsz] at o1
    have hbox := hbox1.keeps k1 (fun h => h.elim (fun e => by omega) (fun e => by have := hv1 _ e; omega))
    have hbel := k1.below (B := B) hL2.base (fun i hi => hi.elim (fun e => by rw [e]; exact hL2.at_) (hv2 i))
    have s1' := s1.later hbel
    have d0 := hbox.cell 0
    have d1 := hbox.cell 1
    have d2 := hbox.cell 2
    have d3 := hbox.cell 3
    have d4 := hbox.cell 4
    simp only [List.getElem?_cons_zero, List.getElem?_cons_succ] at d0 d1 d2 d3 d4
    have kk := hk2.mono (S' := fun k => k = g ∨ v.ownBlock = some k) (fun _ h => h.elim) |>.trans k1
    clear hbox hbox1 s0 s1 hL2 k1 hk2 hbel hsz
    go_wp2_with fail
    refine (ih1 B _ g v1 (n + t0.size) _ _ s1' L1 (by omega)).mono ?_
    rintro e w2 ⟨rfl, v2, L2, k2, o2⟩
    have hw01 := kk.size
    have kf := kk.step k2 (fun i hi h => h.elim .inl (fun e => (o1 i e).elim .inr (fun h => by omega)))
    have e1 : n + (t0.size + t1.size) = n + t0.size + t1.size := by omega
    have e2 : xs ++ Sp.acccs (Sp.T.two par t0 t1).leaves = xs ++ Sp.acccs t0.leaves ++ Sp.acccs t1.leaves := by simp [Sp.T.leaves, Sp.acccs]
    have E1 := Lib.hid e1
    have E2 := Lib.hid e2
    clear e1 e2 d0 d1 d2 d3 d4 s1' L1
    go_wp2
    go_end0
    exact ⟨rfl, v2, by rw [E1.out, E2.out]; exact L2, kf, fun i hi => (o2 i hi).elim (fun h => (o1 i h).imp id (fun h => by omega)) (fun h => .inr (by omega))⟩

theorem leaves_any (w : World) (cs : List Value) (t : Sp.T) (hT : TmR w.heap.size w cs t) (hn : t.size ≤ 4194304) :
    Calls Tryd.prog 42 #[.agg cs.toArray] w fun e w' => ∃ v, e = .returned v ∧ SlV w' 3 v t.size (Sp.acccs t.leaves) ∧ Below w.heap.size w w' := by
  obtain ⟨a0, a1, a2, a3, A4, a5, a6, rfl, -, -⟩ := hT.form
  unfold tcells at hT ⊢
  have s1 := (hT.alloc (Nat.le_refl _) (.cells #[.int .i64 a0, .int .i64 a1, .bool a2, .int .i64 a3, .slice A4 a5 a6] 44)).alloc (by simp) (.cells #[.slice none 0 0] 107)
  have hb2 : Below w.heap.size w ((w.alloc (.cells #[.int .i64 a0, .int .i64 a1, .bool a2, .int .i64 a3, .slice A4 a5 a6] 44)).alloc (.cells #[.slice none 0 0] 107)) := below_alloc (below_alloc (Below.refl _ _) _) _
  have hL : Lv w.heap.size ((w.alloc (.cells #[.int .i64 a0, .int .i64 a1, .bool a2, .int .i64 a3, .slice A4 a5 a6] 44)).alloc (.cells #[.slice none 0 0] 107)) (w.heap.size + 1) (.slice none 0 0) 0 [] := by
    refine ⟨?_, World.ownsRow_nil _ _ _ _, by simp; omega, by omega, by simp [Value.ownBlock]⟩
    have := Blk.new (w.alloc (.cells #[.int .i64 a0, .int .i64 a1, .bool a2, .int .i64 a3, .slice A4 a5 a6] 44)) 107 [.slice none 0 0]
    simpa using this
  clear hT
  go_enter Tryd.func42, Tryd.ntmps42
  go_wp2_with fail
  refine (tell_leaves t w.heap.size _ _ _ 0 [] _ s1 hL (by omega)).mono ?_
  rintro e w1 ⟨rfl, v1, L1, k1, -⟩
  have c0 := L1.blk.cell 0
  simp only [List.getElem?_cons_zero] at c0
  have hb : Below w.heap.size w w1 := hb2.trans (k1.below hL.base (fun i hi => hi.elim (fun e => by omega) (fun e => by simp [Value.ownBlock] at e)))
  have hs := SlV.of_own L1.row
  rw [Nat.zero_add, List.nil_append] at hs
  obtain ⟨A9, c9, rfl, h1, h2, h3, h4⟩ := hs
  have H3 := Lib.hid h3
  clear h3 s1 hL L1 k1 hb2
  go_wp2
  go_ret
  exact ⟨_, rfl, ⟨A9, c9, rfl, h1, h2, H3.out, h4⟩, hb⟩
end Go.Proofs.YtfjmhmfkhgjnhaaDoor


namespace Go.Proofs.YtfjmhmfkhgjnhaaDoor
set_option linter.unusedVariables false
set_option linter.unusedSimpArgs false
set_option maxRecDepth 100000
open Go.RowKit

namespace Sp
def prc (p : Nat × Nat) : List Value := [.int .i64 p.1, .int .i64 p.2]
def prcs (l : List (Nat × Nat)) : List Value := l.flatMap prc
theorem prcs_length (l : List (Nat × Nat)) : (prcs l).length = l.length * 2 := flat_length prc 2 (fun _ => rfl) l
theorem prcs_append (a b : List (Nat × Nat)) : prcs (a ++ b) = prcs a ++ prcs b := by simp [prcs]
theorem prc_one (a : Nat × Nat) : ∀ u ∈ prc a, u.oneCell' = true := by
  intro u hu
  simp only [prc, List.mem_cons, List.not_mem_nil, or_false] at hu
  rcases hu with rfl | rfl <;> rfl
theorem prcs_zero (n : Nat) : prcs (List.replicate n (0, 0)) = List.replicate (n * 2) (.int .i64 0) := by
  induction n with
  | zero => rfl
  | succ n ih => rw [List.replicate_succ, Nat.succ_mul, Nat.add_comm (n * 2) 2]; show prc (0, 0) ++ prcs (List.replicate n (0, 0)) = _; rw [ih, ← List.replicate_append_replicate]; rfl
theorem prcs_take (l : List (Nat × Nat)) : ∀ i, (prcs l).take (i * 2) = prcs (l.take i) := by
  induction l with
  | nil => intro i; simp [prcs]
  | cons x l ih =>
    intro i
    cases i with
    | zero => simp [prcs]
    | succ i => rw [Nat.succ_mul]; show (_ :: _ :: prcs l).take (i * 2 + 2) = _ :: _ :: prcs (l.take i); rw [← ih]; rfl
theorem prcs_drop (l : List (Nat × Nat)) : ∀ i, (prcs l).drop (i * 2) = prcs (l.drop i) := by
  induction l with
  | nil => intro i; simp [prcs]
  | cons x l ih =>
    intro i
    cases i with
    | zero => simp [prcs]
    | succ i => rw [Nat.succ_mul]; show (_ :: _ :: prcs l).drop (i * 2 + 2) = prcs (l.drop i); rw [← ih]; rfl
theorem prcs_put (l : List (Nat × Nat)) (i : Nat) (p : Nat × Nat) : (prcs l).take (i * 2) ++ prc p ++ (prcs l).drop (i * 2 + 2) = prcs (put l i [p]) := by
  have e : i * 2 + 2 = (i + 1) * 2 := by omega
  rw [e, prcs_take, prcs_drop]
  simp [put, prcs]
theorem prcs_get (l : List (Nat × Nat)) (i : Nat) (p : Nat × Nat) (h : l[i]? = some p) : (prcs l)[i * 2]? = some (.int .i64 p.1) ∧ (prcs l)[i * 2 + 1]? = some (.int .i64 p.2) := by
  have h1 := prcs_drop l i
  obtain ⟨hi, rfl⟩ := List.getElem?_eq_some_iff.1 h
  rw [List.drop_eq_getElem_cons hi] at h1
  have h2 : prcs (l[i] :: l.drop (i + 1)) = .int .i64 l[i].1 :: .int .i64 l[i].2 :: prcs (l.drop (i + 1)) := rfl
  rw [h2] at h1
  constructor
  · have := congrArg (fun x => x[0]?) h1
    simpa using this
  · have := congrArg (fun x => x[1]?) h1
    simpa using this
end Sp

/-- what numbers leaves, in block g; its pairs in block h -/
structure Mk (B : Nat) (w : World) (g h : Nat) (ps : List (Nat × Nat)) (next base : Nat) : Prop where
  blk : Blk w g 103 [.int .i64 next, .slice (some ⟨h, 0, none⟩) ps.length ps.length, .int .i64 base]
  row : Blk w h 73 (Sp.prcs ps)
  base : B ≤ w.heap.size
  atg : B ≤ g
  ath : B ≤ h
  ne : g ≠ h

def MkEnd (B : Nat) (w : World) (g h : Nat) (ps : List (Nat × Nat)) (next : Nat) : Ending → World → Prop := fun e w' =>
  e = .returned (.tuple #[]) ∧ ∃ base, Mk B w' g h ps next base ∧ Keeps (fun k => k = g ∨ k = h) w w'

theorem Mk.alloc {B : Nat} {w : World} {g h : Nat} {ps : List (Nat × Nat)} {next base : Nat} (m : Mk B w g h ps next base) (o : Obj) : Mk B (w.alloc o) g h ps next base := ⟨m.blk.alloc _, m.row.alloc _, by have := m.base; simp; omega, m.atg, m.ath, m.ne⟩
theorem Mk.drewN {B : Nat} {w : World} {g h : Nat} {ps : List (Nat × Nat)} {next base : Nat} (m : Mk B w g h ps next base) (k : Nat) : Mk B (w.drewN k) g h ps next base := ⟨m.blk, m.row, m.base, m.atg, m.ath, m.ne⟩
theorem Mk.below {B : Nat} {w w' : World} {g h : Nat} {ps : List (Nat × Nat)} {next base : Nat} (m : Mk B w g h ps next base) (hb : Below w.heap.size w w') : Mk B w' g h ps next base := ⟨m.blk.below hb, m.row.below hb, by have := m.base; have := hb.size; omega, m.atg, m.ath, m.ne⟩
theorem mk_back {B : Nat} {w w0 : World} {g h : Nat} {ps : List (Nat × Nat)} {next : Nat} (hk : Keeps (fun _ => False) w w0) {e : Ending} {w' : World} (he : MkEnd B w0 g h ps next e w') : MkEnd B w g h ps next e w' := by
  obtain ⟨h1, b', h2, h3⟩ := he
  exact ⟨h1, b', h2, (hk.mono (fun _ h => h.elim)).trans h3⟩

theorem mk_nothing (B : Nat) (w : World) (g h : Nat) (ps : List (Nat × Nat)) (next base : Nat) (m : Mk B w g h ps next base) :
    Calls Tryd.prog 111 #[.pointer (some ⟨g, 0, none⟩)] w (MkEnd B w g h ps next) := by
  go_enter Tryd.func111, Tryd.ntmps111
  go_wp2
  go_end0
  exact ⟨rfl, base, m, Keeps.refl _ _⟩

theorem mk_one (B : Nat) (w : World) (g h : Nat) (ps : List (Nat × Nat)) (next base : Nat) (m : Mk B w g h ps next base) (a : Sp.Acc) (hb : base < ps.length) (hn : next ≤ 4194304) (hl : ps.length ≤ 4194304) :
    Calls Tryd.prog 112 #[.pointer (some ⟨g, 0, none⟩), .agg #[.int .i64 a.1, .bool a.2.1, .int .i64 a.2.2]] w (MkEnd B w g h (Sp.put ps base [(base, next)]) (next + 1)) := by
  obtain ⟨a1, a2, a3⟩ := a
  simp only
  have hgh := m.ne
  have hk0 : Keeps (fun k => k = g ∨ k = h) w (w.alloc (.cells (Sp.accc (a1, a2, a3)).toArray 41)) := (Keeps.refl _ w).alloc _
  have m1 := m.alloc (.cells (Sp.accc (a1, a2, a3)).toArray 41)
  have hlen := Sp.prcs_length ps
  have hps : (Sp.put ps base [(base, next)]).length = ps.length := Sp.put_length _ _ _ (by simp; omega)
  go_enter Tryd.func112, Tryd.ntmps112
  go_wp2_with fail
  show Code.wp _ _ _ _ (w.alloc (.cells (Sp.accc (a1, a2, a3)).toArray 41))
  generalize (w.alloc (.cells (Sp.accc (a1, a2, a3)).toArray 41)) = w0 at m1 hk0 ⊢
  clear m
  have c0 := m1.blk.cell 0
  have c1 := m1.blk.cell 1
  have c2 := m1.blk.cell 2
  simp only [List.getElem?_cons_zero, List.getElem?_cons_succ] at c0 c1 c2
  obtain ⟨n, hnn⟩ : ∃ n, n = ps.length := ⟨_, rfl⟩
  have HP := Lib.hid hps
  have HN := Lib.hid hnn
  have HL := Lib.hid hlen
  rw [← hnn] at c1 hb hl
  clear hps hnn hlen
  have hb2 : (base : Int) < (n : Int) := by omega
  have hw : IntKind.i64.wrap ((next : Int) + 1) = ((next + 1 : Nat) : Int) := by rw [IntWalk.i64_in _ (by omega)]; omega
  (refine still_last (by kernel_rfl) (by kernel_rfl) ?_; simp only [List.length_cons, List.length_nil, Nat.reduceAdd, Nat.reduceSub, List.take_succ_cons, List.take_zero, List.drop_succ_cons, List.drop_zero]; repeat still_step; try refine wpStill_nil ?_)
  refine wpl_store_blk (w := w0.drewN 1) m1.row 73 (base * 2) 2 (Sp.prc (base, next)) (by kernel_rfl) rfl (by rw [HL.out, ← HN.out]; omega) (Sp.prc_one _) rfl rfl rfl rfl ?_
  intro w2 hB2 hg2
  rw [Sp.prcs_put] at hB2
  have hb3 := m1.blk.grown (w := w0.drewN 1) hg2 (fun e => hgh (by injection e))
  have d0 := hb3.cell 0
  simp only [List.getElem?_cons_zero, List.getElem?_cons_succ] at d0
  have hk2 : Keeps (fun k => k = g ∨ k = h) w0 w2 := ((Keeps.of_grown hg2).undrewN).mono (fun i hi => .inr (by injection hi))
  clear c0 c1 c2
  go_wp2_with (refine wpl_set_blk hb3 0 (.int .i64 ((next + 1 : Nat) : Int)) (by kernel_rfl) (by simp) rfl rfl rfl rfl rfl rfl ?_; intro w3 hB3 hg3)
  have hk3 : Keeps (fun k => k = g ∨ k = h) w2 w3 := (Keeps.of_grown hg3).mono (fun i hi => .inl (by injection hi))
  have hfin : Mk B w3 g h (Sp.put ps base [(base, next)]) (next + 1) base := ⟨by rw [HP.out]; simpa using hB3, hB2.grown hg3 (fun e => hgh (by injection e with e; exact e.symm)), by have := m1.base; have := hk2.size; have := hk3.size; omega, m1.atg, m1.ath, hgh⟩
  have hkf := (hk0.trans hk2).trans hk3
  clear hB2 hg2 hb3 d0 hB3 hg3 m1 hk0 hk2 hk3
  go_wp2
  go_end0
  exact ⟨rfl, base, hfin, hkf⟩

theorem Mk.setbase {B : Nat} {w w' : World} {g h : Nat} {ps : List (Nat × Nat)} {next base base2 : Nat} (m : Mk B w g h ps next base) (hB : Blk w' g 103 ([.int .i64 next, .slice (some ⟨h, 0, none⟩) ps.length ps.length, .int .i64 base].set 2 (.int .i64 base2))) (hg : w.grownBy w' (some g)) :
    Mk B w' g h ps next base2 ∧ Keeps (fun k => k = g ∨ k = h) w w' := by
  have hk : Keeps (fun k => k = g ∨ k = h) w w' := (Keeps.of_grown hg).mono (fun i hi => .inl (by injection hi))
  exact ⟨⟨by simpa using hB, m.row.grown hg (fun e => m.ne (by injection e with e; exact e.symm)), by have := m.base; have := hk.size; omega, m.atg, m.ath, m.ne⟩, hk⟩

theorem meth_mk (g fuel : Nat) (w : World) : (method (fuel + 1) 105 (.pointer (some ⟨g, 0, none⟩)) "forkwright/sp.nothing").run Tryd.prog w = .ok (111, .pointer (some ⟨g, 0, none⟩)) w ∧
    (method (fuel + 1) 105 (.pointer (some ⟨g, 0, none⟩)) "forkwright/sp.one").run Tryd.prog w = .ok (112, .pointer (some ⟨g, 0, none⟩)) w ∧
    (method (fuel + 1) 105 (.pointer (some ⟨g, 0, none⟩)) "forkwright/sp.two").run Tryd.prog w = .ok (113, .pointer (some ⟨g, 0, none⟩)) w ∧
    (nilAhead (fuel + 1) 105 (.pointer (some ⟨g, 0, none⟩)) "forkwright/sp.two").run Tryd.prog w = .ok (some false) w :=
  ⟨by kernel_rfl, by kernel_rfl, by kernel_rfl, by kernel_rfl⟩

def MarkTell (t : Sp.T) : Prop := ∀ (B : Nat) (w : World) (g h : Nat) (ps : List (Nat × Nat)) (next base : Nat) (cs : List Value), TmR B w cs t → Mk B w g h ps next base → base + t.size ≤ ps.length → next + t.size ≤ 4194304 → ps.length ≤ 4194304 →
    Calls Tryd.prog 62 #[.agg cs.toArray, .iface 105 (.pointer (some ⟨g, 0, none⟩))] w (MkEnd B w g h (Sp.put ps base (t.marks base next)) (next + t.size))

set_option maxHeartbeats 2000000 in
theorem mk_two (par : Bool) (t0 t1 : Sp.T) (ih0 : MarkTell t0) (ih1 : MarkTell t1) (B : Nat) (w0 : World) (g h : Nat) (ps : List (Nat × Nat)) (next base : Nat) (cs0 cs1 : List Value) (q0 : TmR B w0 cs0 t0) (q1 : TmR B w0 cs1 t1) (hM : Mk B w0 g h ps next base)
    (hb : base + (t0.size + t1.size) ≤ ps.length) (hn : next + (t0.size + t1.size) ≤ 4194304) (hl : ps.length ≤ 4194304) :
    Calls Tryd.prog 113 #[.pointer (some ⟨g, 0, none⟩), .bool par, .agg cs0.toArray, .agg cs1.toArray] w0 (MkEnd B w0 g h (Sp.put ps base ((Sp.T.two par t0 t1).marks base next)) (next + (t0.size + t1.size))) := by
  obtain ⟨a0, a1, a2, a3, A4, a5, a6, rfl, -, -⟩ := q0.form
  obtain ⟨b0, b1, b2, b3, B4, b5, b6, rfl, -, -⟩ := q1.form
  unfold tcells at q0 q1 ⊢
  have hbox0 := (Blk.new w0 44 [.int .i64 a0, .int .i64 a1, .bool a2, .int .i64 a3, .slice A4 a5 a6]).alloc (.cells #[.int .i64 b0, .int .i64 b1, .bool b2, .int .i64 b3, .slice B4 b5 b6] 44)
  have hbox1 := Blk.new (w0.alloc (.cells #[.int .i64 a0, .int .i64 a1, .bool a2, .int .i64 a3, .slice A4 a5 a6] 44)) 44 [.int .i64 b0, .int .i64 b1, .bool b2, .int .i64 b3, .slice B4 b5 b6]
  have hM2 := (hM.alloc (.cells #[.int .i64 a0, .int .i64 a1, .bool a2, .int .i64 a3, .slice A4 a5 a6] 44)).alloc (.cells #[.int .i64 b0, .int .i64 b1, .bool b2, .int .i64 b3, .slice B4 b5 b6] 44)
  have hB1 : B ≤ (w0.alloc (.cells #[.int .i64 a0, .int .i64 a1, .bool a2, .int .i64 a3, .slice A4 a5 a6] 44)).heap.size := by have := hM.base; simp; omega
  have s0 := (q0.alloc hM.base (.cells #[.int .i64 a0, .int .i64 a1, .bool a2, .int .i64 a3, .slice A4 a5 a6] 44)).alloc hB1 (.cells #[.int .i64 b0, .int .i64 b1, .bool b2, .int .i64 b3, .slice B4 b5 b6] 44)
  have s1 := (q1.alloc hM.base (.cells #[.int .i64 a0, .int .i64 a1, .bool a2, .int .i64 a3, .slice A4 a5 a6] 44)).alloc hB1 (.cells #[.int .i64 b0, .int .i64 b1, .bool b2, .int .i64 b3, .slice B4 b5 b6] 44)
  have hg1 := hM.blk.lt
  have hh1 := hM.row.lt
  have hk2 : Keeps (fun k => k = g ∨ k = h) w0 ((w0.alloc (.cells #[.int .i64 a0, .int .i64 a1, .bool a2, .int .i64 a3, .slice A4 a5 a6] 44)).alloc (.cells #[.int .i64 b0, .int .i64 b1, .bool b2, .int .i64 b3, .slice B4 b5 b6] 44)) := ((Keeps.refl _ w0).alloc _).alloc _
  have hq1 : (w0.alloc (.cells #[.int .i64 a0, .int .i64 a1, .bool a2, .int .i64 a3, .slice A4 a5 a6] 44)).heap.size = w0.heap.size + 1 := by simp
  rw [hq1] at hbox1
  clear hq1 q0 q1 hB1 hM
  go_enter Tryd.func113, Tryd.ntmps113
  go_wp2_with fail
  try rw [show (w0.alloc (.cells #[.int .i64 a0, .int .i64 a1, .bool a2, .int .i64 a3, .slice A4 a5 a6] 44)).heap.size = w0.heap.size + 1 from by simp]
  generalize ((w0.alloc (.cells #[.int .i64 a0, .int .i64 a1, .bool a2, .int .i64 a3, .slice A4 a5 a6] 44)).alloc (.cells #[.int .i64 b0, .int .i64 b1, .bool b2, .int .i64 b3, .slice B4 b5 b6] 44)) = w2 at hbox0 hbox1 hM2 s0 s1 hk2 ⊢
  obtain ⟨q, hq⟩ : ∃ q, q = w0.heap.size := ⟨_, rfl⟩
  rw [← hq] at hbox0 hbox1 hg1 hh1 ⊢
  have look : ∀ w', Keeps (fun k => k = g ∨ k = h) w2 w' → (w'.cell? ⟨q, 0, none⟩ = some (.int .i64 a0) ∧ w'.cell? ⟨q, 1, none⟩ = some (.int .i64 a1) ∧ w'.cell? ⟨q, 2, none⟩ = some (.bool a2) ∧ w'.cell? ⟨q, 3, none⟩ = some (.int .i64 a3) ∧ w'.cell? ⟨q, 4, none⟩ = some (.slice A4 a5 a6)) ∧
      (w'.cell? ⟨q + 1, 0, none⟩ = some (.int .i64 b0) ∧ w'.cell? ⟨q + 1, 1, none⟩ = some (.int .i64 b1) ∧ w'.cell? ⟨q + 1, 2, none⟩ = some (.bool b2) ∧ w'.cell? ⟨q + 1, 3, none⟩ = some (.int .i64 b3) ∧ w'.cell? ⟨q + 1, 4, none⟩ = some (.slice B4 b5 b6)) ∧
      TmR B w' [.int .i64 a0, .int .i64 a1, .bool a2, .int .i64 a3, .slice A4 a5 a6] t0 ∧ TmR B w' [.int .i64 b0, .int .i64 b1, .bool b2, .int .i64 b3, .slice B4 b5 b6] t1 := fun w' hk => by
    have x0 := hbox0.keeps hk (fun e => by omega)
    have x1 := hbox1.keeps hk (fun e => by omega)
    have hbl := hk.below (B := B) hM2.base (fun i hi => hi.elim (fun e => e ▸ hM2.atg) (fun e => e ▸ hM2.ath))
    exact ⟨⟨by rw [x0.cell]; rfl, by rw [x0.cell]; rfl, by rw [x0.cell]; rfl, by rw [x0.cell]; rfl, by rw [x0.cell]; rfl⟩, ⟨by rw [x1.cell]; rfl, by rw [x1.cell]; rfl, by rw [x1.cell]; rfl, by rw [x1.cell]; rfl, by rw [x1.cell]; rfl⟩, s0.later hbl, s1.later hbl⟩
  have keepS : ∀ w', Below w2.heap.size w2 w' → (Below w2.heap.size w2 w' ∧ w'.cell? ⟨g, 2, none⟩ = some (.int .i64 base) ∧ w'.cell? ⟨q, 0, none⟩ = some (.int .i64 a0) ∧ w'.cell? ⟨q, 1, none⟩ = some (.int .i64 a1) ∧ w'.cell? ⟨q, 2, none⟩ = some (.bool a2) ∧ w'.cell? ⟨q, 3, none⟩ = some (.int .i64 a3) ∧ w'.cell? ⟨q, 4, none⟩ = some (.slice A4 a5 a6)) := fun w' hb =>
    ⟨hb, by rw [(hM2.blk.below hb).cell]; rfl, (look w' (Keeps.of_below hb _)).1⟩
  have hlv : ∀ w', (Below w2.heap.size w2 w' ∧ w'.cell? ⟨g, 2, none⟩ = some (.int .i64 base) ∧ w'.cell? ⟨q, 0, none⟩ = some (.int .i64 a0) ∧ w'.cell? ⟨q, 1, none⟩ = some (.int .i64 a1) ∧ w'.cell? ⟨q, 2, none⟩ = some (.bool a2) ∧ w'.cell? ⟨q, 3, none⟩ = some (.int .i64 a3) ∧ w'.cell? ⟨q, 4, none⟩ = some (.slice A4 a5 a6)) →
      Calls Tryd.prog 42 #[.agg #[.int .i64 a0, .int .i64 a1, .bool a2, .int .i64 a3, .slice A4 a5 a6]] w' fun e w'' => ∃ A c, e = .returned (.slice A t0.size c) ∧ (t0.size ≤ c ∧ c ≤ 9223372036854775807) ∧ Below w2.heap.size w2 w'' ∧ Below w'.heap.size w' w'' := fun w' hS =>
    (leaves_any w' _ t0 ((look w' (Keeps.of_below hS.1 _)).2.2.1.keep (by have := hS.1.size; have := hM2.base; omega) (fun _ _ => rfl)) (by omega)).mono fun e w'' hh => by
      obtain ⟨v, rfl, ⟨A, c, rfl, h1, h2, -, -⟩, h3⟩ := hh
      exact ⟨A, c, rfl, ⟨h1, h2⟩, below_next h3 hS.1, h3⟩
  have hlen0 : ∀ a j, (t0.marks a j).length = t0.size := t0.marks_length
  have hlen1 : ∀ a j, (t1.marks a j).length = t1.size := t1.marks_length
  have hE0 := fun w g h ps next base => ih0 B w g h ps next base [.int .i64 a0, .int .i64 a1, .bool a2, .int .i64 a3, .slice A4 a5 a6]
  have hE1 := fun w g h ps next base => ih1 B w g h ps next base [.int .i64 b0, .int .i64 b1, .bool b2, .int .i64 b3, .slice B4 b5 b6]
  clear hbox0 hbox1 s0 s1 hq ih0 ih1
  go_region_held3 (fun w' => (Below w2.heap.size w2 w' ∧ w'.cell? ⟨g, 2, none⟩ = some (.int .i64 base) ∧ w'.cell? ⟨q, 0, none⟩ = some (.int .i64 a0) ∧ w'.cell? ⟨q, 1, none⟩ = some (.int .i64 a1) ∧ w'.cell? ⟨q, 2, none⟩ = some (.bool a2) ∧ w'.cell? ⟨q, 3, none⟩ = some (.int .i64 a3) ∧ w'.cell? ⟨q, 4, none⟩ = some (.slice A4 a5 a6)))
    ((refine keepS _ ?_; repeat (first | exact Below.refl _ _ | assumption | apply below_alloc | apply below_drew | exact (And.left (by assumption)) | (apply below_next; assumption))))
    ((go_at_call 42; refine (hlv _ (by assumption)).mono ?_; rintro e w6 ⟨A6, c6, rfl, ⟨hle6, hm6⟩, hb5, hb6⟩))
  rename_i hHeld
  have k6 : Keeps (fun k => k = g ∨ k = h) w2 w6 := Keeps.of_below hb5 _
  have m6 := hM2.below hb5
  clear hHeld hb5 hb6 keepS hlv hM2
  have hw : IntKind.i64.wrap ((base : Int) + (t0.size : Int)) = ((base + t0.size : Nat) : Int) := by rw [IntWalk.i64_in _ (by omega)]; omega
  rcases par with _ | _
  · obtain ⟨⟨x0, x1, x2, x3, x4⟩, -, r0, -⟩ := look w6 k6
    go_wp2_with fail
    refine (hE0 w6 g h ps next base r0 m6 (by omega) (by omega) hl).mono ?_
    rintro e w7 ⟨rfl, bs7, m7, k7⟩
    have kk7 := k6.trans k7
    clear x0 x1 x2 x3 x4 r0
    go_wp2_with (refine wpl_set_blk m7.blk 2 (.int .i64 ((base + t0.size : Nat) : Int)) (by kernel_rfl) (by simp) rfl rfl rfl rfl rfl rfl ?_; intro w8 hB8 hg8; obtain ⟨m8, k8⟩ := m7.setbase hB8 hg8; have kk8 := kk7.trans k8; obtain ⟨-, ⟨x0, x1, x2, x3, x4⟩, -, r1⟩ := look w8 kk8; clear hB8 hg8)
    have hpl : (Sp.put ps base (t0.marks base next)).length = ps.length := Sp.put_length _ _ _ (by rw [hlen0]; omega)
    have hput := Sp.put_put ps (t0.marks base next) (t1.marks (base + t0.size) (next + t0.size)) base (by rw [hlen0, hlen1]; omega)
    rw [hlen0] at hput
    have hcall := hE1 w8 g h _ (next + t0.size) (base + t0.size) r1 m8 (by rw [hpl]; omega) (by omega) (by rw [hpl]; exact hl)
    rw [hput] at hcall
    clear hput hpl hE0 hE1 look m8 m7 m6
    refine hcall.mono ?_
    rintro e w9 ⟨rfl, bs9, m9, k9⟩
    clear hcall
    go_wp2
    go_end0
    exact ⟨rfl, bs9, by rw [← Nat.add_assoc]; exact m9, hk2.trans (kk8.trans k9)⟩
  · go_wp2_with (refine wpl_set_blk m6.blk 2 (.int .i64 ((base + t0.size : Nat) : Int)) (by kernel_rfl) (by simp) rfl rfl rfl rfl rfl rfl ?_; intro w7 hB7 hg7; obtain ⟨m7, k7⟩ := m6.setbase hB7 hg7; have kk7 := k6.trans k7; obtain ⟨-, ⟨x0, x1, x2, x3, x4⟩, -, r1⟩ := look w7 kk7; clear hB7 hg7)
    refine (hE1 w7 g h ps next (base + t0.size) r1 m7 (by omega) (by omega) hl).mono ?_
    rintro e w8 ⟨rfl, bs8, m8, k8⟩
    have kk8 := kk7.trans k8
    clear x0 x1 x2 x3 x4 r1
    go_wp2_with (refine wpl_set_blk m8.blk 2 (.int .i64 (base : Int)) (by kernel_rfl) (by simp) rfl rfl rfl rfl rfl rfl ?_; intro w9 hB9 hg9; obtain ⟨m9, k9⟩ := m8.setbase hB9 hg9; have kk9 := kk8.trans k9; obtain ⟨⟨x0, x1, x2, x3, x4⟩, -, r0, -⟩ := look w9 kk9; clear hB9 hg9)
    have hpl : (Sp.put ps (base + t0.size) (t1.marks (base + t0.size) next)).length = ps.length := Sp.put_length _ _ _ (by rw [hlen1]; omega)
    have hput := Sp.put_back ps (t0.marks base (next + t1.size)) (t1.marks (base + t0.size) next) base (by rw [hlen0, hlen1]; omega)
    rw [hlen0] at hput
    have hcall := hE0 w9 g h _ (next + t1.size) base r0 m9 (by rw [hpl]; omega) (by omega) (by rw [hpl]; exact hl)
    rw [hput] at hcall
    clear hput hpl hE0 hE1 look m9 m8 m7 m6
    refine hcall.mono ?_
    rintro e w10 ⟨rfl, bs10, m10, k10⟩
    clear hcall
    go_wp2
    go_end0
    exact ⟨rfl, bs10, by rw [show next + (t0.size + t1.size) = next + t1.size + t0.size from by omega]; exact m10, hk2.trans (kk9.trans k10)⟩

theorem tell_marks (t : Sp.T) : MarkTell t := by
  induction t with
  | nil =>
    intro B w g h ps next base cs hT hM hb hn hl
    have e : Sp.put ps base (Sp.T.nil.marks base next) = ps := Sp.put_nil _ _
    rw [e]
    refine tell_nil hT (f := 111) (fun k w => (meth_mk g k w).1) (fun _ _ => by rfl) ?_
    exact (mk_nothing B _ g h ps next base (hM.alloc _)).mono fun e w' h => mk_back (keeps_alloc _ _) h
  | one c b l =>
    intro B w g h ps next base cs hT hM hb hn hl
    have hb' : base + 1 ≤ ps.length := hb
    have hn' : next + 1 ≤ 4194304 := hn
    refine tell_one hT (f := 112) (fun k w => (meth_mk g k w).2.1) (fun _ _ => by rfl) ?_
    exact (mk_one B _ g h ps next base (hM.alloc _) (c, b, l) (by omega) (by omega) hl).mono fun e w' h => mk_back (keeps_alloc _ _) h
  | two par t0 t1 ih0 ih1 =>
    intro B w g h ps next base cs hT hM hb hn hl
    rw [Sp.T.size_two] at hn hb ⊢
    refine tell_two hT (f := 113) (fun k w => (meth_mk g k w).2.2.1) (fun k w => (meth_mk g k w).2.2.2) (fun _ _ => by rfl) hM.base ?_
    intro cs0 cs1 r0 r1
    have hk0 : Keeps (fun _ => False) w ((w.alloc (.cells cs.toArray 44)).drewN 1) := (keeps_alloc _ _).drewN 1
    have v0 : TmR B ((w.alloc (.cells cs.toArray 44)).drewN 1) cs0 t0 := r0.keep (Nat.le_refl _) (fun p hp => World.cell?_alloc_lt w _ p (by have := hM.base; omega))
    have v1 : TmR B ((w.alloc (.cells cs.toArray 44)).drewN 1) cs1 t1 := r1.keep (Nat.le_refl _) (fun p hp => World.cell?_alloc_lt w _ p (by have := hM.base; omega))
    have hM1 : Mk B ((w.alloc (.cells cs.toArray 44)).drewN 1) g h ps next base := (hM.alloc _).drewN 1
    exact (mk_two par t0 t1 ih0 ih1 B _ g h ps next base cs0 cs1 v0 v1 hM1 hb hn hl).mono fun e w' h => mk_back hk0 h
end Go.Proofs.YtfjmhmfkhgjnhaaDoor


namespace Go.Proofs.YtfjmhmfkhgjnhaaDoor
set_option linter.unusedVariables false
set_option linter.unusedSimpArgs false
set_option maxRecDepth 100000
open Go.RowKit

theorem made_flat (z : Value) (k n : Nat) (hk : 0 < k) : (madeCells (Array.replicate k z) n).toList = List.replicate n z := by
  apply List.ext_getElem?
  intro j
  by_cases hj : j < n
  · have := Nat.mod_lt j hk
    simp [madeCells, hj, this]
  · simp [madeCells, hj]

/-- 'make([]T, n)', T of some cells that are alike -/
theorem wp_make_flat {P : Program} (w : World) {ops : Array Oper} {rest : List Oper} {o : Oper} {a : Act} {Q : Exit → Act → World → Prop}
    (t e : TypeId) (z zc : Value) (size bytes : Nat) (n : Nat) (ht : P.underlying t = some (.slice e)) (hinfo : (P.info? e).map (fun i => (i.zero, i.size, i.bytes)) = some (some z, size, bytes)) (hz : z.cells = Array.replicate size zc) (hsz : 0 < size)
    {L C : Int} (hL : L = (n : Int)) (hC : C = (n : Int)) (b2 : bytes * n ≤ 281474976710656) (b3 : n ≤ 9223372036854775807)
    {l c : Operand} {kl kc : IntKind} (hg : o.guard = none) (hop : o.op = Op.makeSlice t l c) (hl : a.eval l = .int kl L) (hc : a.eval c = .int kc C)
    (hK : ∀ w', Blk w' w.heap.size e (List.replicate (n * size) zc) → Below w.heap.size w w' → w'.heap.size = w.heap.size + 1 → wpList P ops Q rest (a.put o.dst (.slice (some ⟨w.heap.size, 0, none⟩) n n)) w') :
    wpList P ops Q (o :: rest) a w := by
  obtain ⟨i, hi, hz0, hz1, hz2⟩ := info_parts hinfo
  refine wpList_plain hg fun K hK' => ?_
  subst hL
  subst hC
  have h63' : (n : Int) ≤ 9223372036854775807 := by omega
  have hb' : (i.bytes : Int) * (n : Int) ≤ 281474976710656 := by
    have h : ((i.bytes * n : Nat) : Int) ≤ 281474976710656 := by rw [hz2]; omega
    rwa [Int.natCast_mul] at h
  have hr := run_make (P := P) w t e i z ht hi hz0 kl kc n n (by omega) (Int.le_refl _) hb' h63'
  simp only [Int.toNat_natCast, hz1, hz] at hr
  unfold Oper.wp
  simp [execOp, hop, hl, hc, hr, Result.andThen]
  refine hK' _ _ (hK _ ?_ ((Below.refl _ _).alloc (Nat.le_refl _) _) (by simp))
  have := Blk.new w e (madeCells (Array.replicate size zc) (n * size)).toList
  rw [Array.toArray_toList] at this
  rwa [made_flat zc size _ hsz] at this

theorem info_pair : (Tryd.prog.info? 73).map (fun i => (i.zero, i.size, i.bytes)) = some (some (.agg #[.int .i64 0, .int .i64 0]), 2, 16) := by kernel_rfl

theorem marks_any (w : World) (cs : List Value) (t : Sp.T) (hT : TmR w.heap.size w cs t) (hn : t.size ≤ 4194304) :
    Calls Tryd.prog 41 #[.agg cs.toArray] w fun e w' => ∃ h, e = .returned (.slice (some ⟨h, 0, none⟩) t.size t.size) ∧ Blk w' h 73 (Sp.prcs (t.marks 0 0)) ∧ w.heap.size ≤ h ∧ Below w.heap.size w w' := by
  obtain ⟨a0, a1, a2, a3, A4, a5, a6, rfl, -, -⟩ := hT.form
  have hP := Blk.new w 44 (tcells a0 a1 a2 a3 A4 a5 a6)
  have s1 := hT.alloc (Nat.le_refl _) (.cells (tcells a0 a1 a2 a3 A4 a5 a6).toArray 44)
  have hb0 : Below w.heap.size w (w.alloc (.cells (tcells a0 a1 a2 a3 A4 a5 a6).toArray 44)) := below_alloc (Below.refl _ _) _
  unfold tcells at s1 hP hb0 ⊢
  clear hT
  go_enter Tryd.func41, Tryd.ntmps41
  go_wp2_with fail
  refine (leaves_any _ _ t (s1.keep (by simp) (fun _ _ => rfl)) hn).mono ?_
  rintro e w1 ⟨v, rfl, ⟨A7, c7, rfl, hle7, hm7, -, -⟩, hb1⟩
  have hb1' := below_next hb1 hb0
  have hP1 := hP.below (by simpa using hb1)
  have s2 := s1.later (hb1.mono (by simp))
  unfold maxLen at hm7
  have hsz1 : w.heap.size < w1.heap.size := by have := hb1.size; simp at this; omega
  obtain ⟨q, hq⟩ : ∃ q, q = w.heap.size := ⟨_, rfl⟩
  rw [← hq] at hP1 s2 hsz1 hb1' ⊢
  have HQ := Lib.hid hq
  clear hP s1 hb0 hb1 hq
  go_wp2_with (refine wp_make_flat w1 _ _ _ (.int .i64 0) 2 16 t.size Tryd.underlying70 info_pair rfl (by decide) rfl rfl (by omega) (by omega) rfl rfl rfl rfl ?_; intro w2 hR2 hb2 hsz2; have hP3 := (hP1.below hb2).alloc (.cells #[.int .i64 0, .slice (some ⟨w1.heap.size, 0, none⟩) t.size t.size, .int .i64 0] 103); have c0 := hP3.cell 0; have c1 := hP3.cell 1; have c2 := hP3.cell 2; have c3 := hP3.cell 3; have c4 := hP3.cell 4; simp only [List.getElem?_cons_zero, List.getElem?_cons_succ] at c0 c1 c2 c3 c4)
  have hq1 : q ≤ w1.heap.size := by omega
  have hB := Blk.new w2 103 [.int .i64 0, .slice (some ⟨w1.heap.size, 0, none⟩) t.size t.size, .int .i64 0]
  rw [hsz2] at hB
  have hrep : (List.replicate t.size ((0, 0) : Nat × Nat)).length = t.size := List.length_replicate
  have hM : Mk q (w2.alloc (.cells #[.int .i64 0, .slice (some ⟨w1.heap.size, 0, none⟩) t.size t.size, .int .i64 0] 103)) (w1.heap.size + 1) w1.heap.size (List.replicate t.size (0, 0)) 0 0 :=
    ⟨by rw [hrep]; exact hB, by rw [Sp.prcs_zero]; exact hR2.alloc _, by simp; omega, by omega, hq1, by omega⟩
  have s3 := (s2.later (hb2.mono hq1)).alloc (by omega) (.cells #[.int .i64 0, .slice (some ⟨w1.heap.size, 0, none⟩) t.size t.size, .int .i64 0] 103)
  have hb3 : Below q w (w2.alloc (.cells #[.int .i64 0, .slice (some ⟨w1.heap.size, 0, none⟩) t.size t.size, .int .i64 0] 103)) := (hb1'.trans (hb2.mono hq1)).trans ((Below.refl _ _).alloc (by omega) _)
  refine (tell_marks t q _ (w1.heap.size + 1) w1.heap.size _ 0 0 _ s3 hM (by rw [hrep]; omega) (by omega) (by rw [hrep]; exact hn)).mono ?_
  rintro e w4 ⟨rfl, bs, m4, k4⟩
  have hall := Sp.put_all (List.replicate t.size ((0, 0) : Nat × Nat)) (t.marks 0 0) (by rw [hrep, t.marks_length])
  rw [hall] at m4
  have hb4 : Below q w w4 := hb3.trans (k4.below hM.base (fun i hi => hi.elim (fun e => by omega) (fun e => by omega)))
  have d1 := m4.blk.cell 1
  rw [t.marks_length] at d1
  simp only [List.getElem?_cons_zero, List.getElem?_cons_succ] at d1
  have hrow := m4.row
  clear c0 c1 c2 c3 c4 hP3 hB hM s3 hb3 hall m4 k4 hR2 hb1'
  go_wp2
  go_ret
  rw [HQ.out] at hq1 hb4
  exact ⟨_, rfl, hrow, hq1, hb4⟩

end Go.Proofs.YtfjmhmfkhgjnhaaDoor


namespace Go.Proofs.YtfjmhmfkhgjnhaaDoor
set_option linter.unusedVariables false
set_option linter.unusedSimpArgs false
set_option maxRecDepth 100000
open Go.RowKit

theorem kids_cells {w : World} {g : Nat} {t : TypeId} {xs ys : List Value} (h : Blk w g t (xs ++ ys)) (hx : xs.length = 5) : (∀ j u, xs[j]? = some u → w.cell? ⟨g, 0 + j, none⟩ = some u) ∧ (∀ j u, ys[j]? = some u → w.cell? ⟨g, 0 + 5 + j, none⟩ = some u) := by
  refine ⟨fun j u hu => ?_, fun j u hu => ?_⟩
  · have hj := (List.getElem?_eq_some_iff.1 hu).1
    rw [h.cell, List.getElem?_append_left (by omega), Nat.zero_add]
    exact hu
  · rw [h.cell, List.getElem?_append_right (by omega), ← hu]
    congr 1
    omega

/-- a term of two, made by the call -/
theorem TmR.made {B : Nat} {w : World} {g : Nat} {xs ys : List Value} {t0 t1 : Sp.T} {tt : TypeId} (par : Bool) (h : Blk w g tt (xs ++ ys)) (hx : xs.length = 5) (hg : g < B) (r0 : TmR B w xs t0) (r1 : TmR B w ys t1) :
    TmR B w (tcells (if par then 3 else 2) 0 false 0 (some ⟨g, 0, none⟩) 2 2) (.two par t0 t1) :=
  .two par 0 false 0 g 0 2 2 xs ys t0 t1 (Nat.le_refl _) (by unfold maxLen; omega) (Nat.le_refl _) hg (kids_cells h hx).1 (kids_cells h hx).2 r0 r1

theorem two_allocs (w : World) (c0 c1 : List Value) (t0 t1 : TypeId) : Blk ((w.alloc (.cells c0.toArray t0)).alloc (.cells c1.toArray t1)) w.heap.size t0 c0 ∧ Blk ((w.alloc (.cells c0.toArray t0)).alloc (.cells c1.toArray t1)) (w.heap.size + 1) t1 c1 ∧ ((w.alloc (.cells c0.toArray t0)).alloc (.cells c1.toArray t1)).heap.size = w.heap.size + 1 + 1 ∧ Keeps (fun _ => False) w ((w.alloc (.cells c0.toArray t0)).alloc (.cells c1.toArray t1)) := by
  have h0 := Blk.new w t0 c0
  have h1 := Blk.new (w.alloc (.cells c0.toArray t0)) t1 c1
  rw [show (w.alloc (.cells c0.toArray t0)).heap.size = w.heap.size + 1 by simp] at h1
  exact ⟨h0.alloc _, h1, by simp, ((Keeps.refl _ w).alloc _).alloc _⟩
theorem four_allocs (w : World) (c0 c1 c2 c3 : List Value) (t0 t1 t2 t3 : TypeId) : Blk ((((w.alloc (.cells c0.toArray t0)).alloc (.cells c1.toArray t1)).alloc (.cells c2.toArray t2)).alloc (.cells c3.toArray t3)) w.heap.size t0 c0 ∧ Blk ((((w.alloc (.cells c0.toArray t0)).alloc (.cells c1.toArray t1)).alloc (.cells c2.toArray t2)).alloc (.cells c3.toArray t3)) (w.heap.size + 1) t1 c1 ∧
    Blk ((((w.alloc (.cells c0.toArray t0)).alloc (.cells c1.toArray t1)).alloc (.cells c2.toArray t2)).alloc (.cells c3.toArray t3)) (w.heap.size + 1 + 1) t2 c2 ∧ Blk ((((w.alloc (.cells c0.toArray t0)).alloc (.cells c1.toArray t1)).alloc (.cells c2.toArray t2)).alloc (.cells c3.toArray t3)) (w.heap.size + 1 + 1 + 1) t3 c3 ∧
    ((((w.alloc (.cells c0.toArray t0)).alloc (.cells c1.toArray t1)).alloc (.cells c2.toArray t2)).alloc (.cells c3.toArray t3)).heap.size = w.heap.size + 1 + 1 + 1 + 1 ∧ Keeps (fun _ => False) w ((((w.alloc (.cells c0.toArray t0)).alloc (.cells c1.toArray t1)).alloc (.cells c2.toArray t2)).alloc (.cells c3.toArray t3)) := by
  obtain ⟨h0, h1, hz, hk⟩ := two_allocs w c0 c1 t0 t1
  obtain ⟨h2, h3, hz2, hk2⟩ := two_allocs ((w.alloc (.cells c0.toArray t0)).alloc (.cells c1.toArray t1)) c2 c3 t2 t3
  rw [hz] at h2 h3 hz2
  exact ⟨(h0.alloc _).alloc _, (h1.alloc _).alloc _, h2, h3, hz2, hk.trans hk2⟩

/-- what is known of a term that lies in a box, while the world goes on -/
structure Boxed (w1 : World) (q : Nat) (k c : Int) (b : Bool) (l : Int) (A : Option Addr) (n cap : Nat) (t : Sp.T) : Prop where
  look : ∀ w', Below w1.heap.size w1 w' → (w'.cell? ⟨q, 0, none⟩ = some (.int .i64 k) ∧ w'.cell? ⟨q, 1, none⟩ = some (.int .i64 c) ∧ w'.cell? ⟨q, 2, none⟩ = some (.bool b) ∧ w'.cell? ⟨q, 3, none⟩ = some (.int .i64 l) ∧ w'.cell? ⟨q, 4, none⟩ = some (.slice A n cap)) ∧
    TmR w'.heap.size w' [.int .i64 k, .int .i64 c, .bool b, .int .i64 l, .slice A n cap] t
theorem Boxed.of {w1 : World} {q : Nat} {k c : Int} {b : Bool} {l : Int} {A : Option Addr} {n cap : Nat} {t : Sp.T} {B : Nat} (hB : Blk w1 q 44 [.int .i64 k, .int .i64 c, .bool b, .int .i64 l, .slice A n cap]) (hT : TmR B w1 [.int .i64 k, .int .i64 c, .bool b, .int .i64 l, .slice A n cap] t) (hb : B ≤ w1.heap.size) : Boxed w1 q k c b l A n cap t :=
  ⟨fun w' h => ⟨⟨by rw [(hB.below h).cell]; rfl, by rw [(hB.below h).cell]; rfl, by rw [(hB.below h).cell]; rfl, by rw [(hB.below h).cell]; rfl, by rw [(hB.below h).cell]; rfl⟩, (hT.later (h.mono hb)).keep (Nat.le_trans hb h.size) (fun _ _ => rfl)⟩⟩

theorem tm_up {B B' : Nat} {w : World} {cs : List Value} {t : Sp.T} (h : TmR B w cs t) (hB : B ≤ B') : TmR B' w cs t := h.keep hB (fun _ _ => rfl)

theorem three_allocs (w : World) (c0 c1 c2 : List Value) (t0 t1 t2 : TypeId) : Blk (((w.alloc (.cells c0.toArray t0)).alloc (.cells c1.toArray t1)).alloc (.cells c2.toArray t2)) w.heap.size t0 c0 ∧ Blk (((w.alloc (.cells c0.toArray t0)).alloc (.cells c1.toArray t1)).alloc (.cells c2.toArray t2)) (w.heap.size + 1) t1 c1 ∧
    Blk (((w.alloc (.cells c0.toArray t0)).alloc (.cells c1.toArray t1)).alloc (.cells c2.toArray t2)) (w.heap.size + 1 + 1) t2 c2 ∧ (((w.alloc (.cells c0.toArray t0)).alloc (.cells c1.toArray t1)).alloc (.cells c2.toArray t2)).heap.size = w.heap.size + 1 + 1 + 1 ∧ Keeps (fun _ => False) w (((w.alloc (.cells c0.toArray t0)).alloc (.cells c1.toArray t1)).alloc (.cells c2.toArray t2)) := by
  obtain ⟨h0, h1, hz, hk⟩ := two_allocs w c0 c1 t0 t1
  have h2 := Blk.new ((w.alloc (.cells c0.toArray t0)).alloc (.cells c1.toArray t1)) t2 c2
  rw [hz] at h2
  exact ⟨h0.alloc _, h1.alloc _, h2, by simp, hk.alloc _⟩

theorem SlV.of_blk {w : World} {g sz n : Nat} {e : TypeId} {cs : List Value} (h : Blk w g e cs) (hl : cs.length = n * sz) (hn : n ≤ 1000000000) : SlV w sz (.slice (some ⟨g, 0, none⟩) n n) n cs :=
  ⟨_, _, rfl, Nat.le_refl _, by unfold maxLen; omega, hl, g, 0, fun _ => ⟨rfl, h.lt⟩, fun j u hu => by rw [Nat.zero_add, h.cell]; exact hu⟩

end Go.Proofs.YtfjmhmfkhgjnhaaDoor


namespace Go.Proofs.YtfjmhmfkhgjnhaaDoor
set_option linter.unusedVariables false
set_option linter.unusedSimpArgs false
set_option maxRecDepth 100000
open Go.RowKit

/-- a cell and a slot are the results -/
theorem results_cell_tmp {P : Go.Program} {fn : Func} {p u : Tmp} {ty : TypeId} (h : fn.results = #[.cell p ty, .tmp u]) (tmps : Array Value) (w : World) (g : Nat) (t : TypeId) (cs : Array Value) (fr : Nat × Nat) (d : TypeDesc)
    (hp : tmps.getD p undef = .pointer (some ⟨g, 0, none⟩)) (hg : w.heap[g]? = some (.cells cs t fr))
    (hu : P.underlying ty = some d) (hd : (match d with | .struct _ | .array _ _ => true | _ => false) = true) (hi : (P.info? ty).map (·.size) = some cs.size) :
    (results fn tmps).run P w = .ok (.tuple #[.agg cs, tmps.getD u undef]) w := by
  have hp' : tmps[p]?.getD undef = .pointer (some ⟨g, 0, none⟩) := by simpa using hp
  simp [results, h, hp', asAddr, run_loadVar_row w g t ty cs fr d hg hu hd hi]
theorem ret_blk2 {P : Go.Program} {fn : Func} {R : Ending → World → Prop} {a : Act} {w : World} {p u : Tmp} {ty : TypeId} {g : Nat} {t : TypeId} {cs : List Value} (hB : Blk w g t cs) (hr : fn.results = #[.cell p ty, .tmp u]) (hp : a.tmps.getD p undef = .pointer (some ⟨g, 0, none⟩)) {d : TypeDesc}
    (hu : P.underlying ty = some d) (hd : (match d with | .struct _ | .array _ _ => true | _ => false) = true) (hi : (P.info? ty).map (·.size) = some cs.length) (hdf : a.defers = []) (hR : R (.returned (.tuple #[.agg cs.toArray, a.tmps.getD u undef])) w) : bodyPost P fn R .ret a w :=
  bodyPost_ret (results_cell_tmp hr _ _ g t cs.toArray (0, 0) d hp hB hu hd (by simpa using hi)) hdf hR
/-- a graph, as it comes back -/
def IsG (N : Nat) (es : List Gr.Ed) (v : Value) (w : World) : Prop := ∃ u, v = .agg #[.int .i64 (N : Int), u] ∧ SlV w 2 u es.length (edcs es)
theorem IsG.below {N : Nat} {es : List Gr.Ed} {v : Value} {w w' : World} (h : IsG N es v w) (hb : Below w.heap.size w w') : IsG N es v w' := by
  obtain ⟨u, h1, h2⟩ := h
  exact ⟨u, h1, h2.below hb⟩
def FG (B : Nat) (N : Nat) (es : List Gr.Ed) : Fact (fun w w' => Below w.heap.size w w') := ⟨fun v w => ∃ u, v = .agg #[.int .i64 (N : Int), u] ∧ SlV w 2 u es.length (edcs es) ∧ New B u, fun _ _ _ ⟨u, h1, h2, h3⟩ k => ⟨u, h1, h2.below k, h3⟩⟩
def FSlE (B : Nat) (es : List Gr.Ed) : Fact (fun w w' => Below w.heap.size w w') := ⟨fun v w => SlV w 2 v es.length (edcs es) ∧ New B v, fun _ _ _ h k => ⟨h.1.below k, h.2⟩⟩

theorem SlV.form {w : World} {sz n : Nat} {v : Value} {xs : List Value} (h : SlV w sz v n xs) : ∃ A c, v = .slice A n c := by
  obtain ⟨A, c, e, -⟩ := h
  exact ⟨A, c, e⟩

/-- numbers are not turned when a block of no numbers is -/
theorem SlV.other {w w' : World} {sz n g : Nat} {v : Value} {xs : List Value} (h : SlV w sz v n xs) (k : Keeps (fun k => k = g) w w') (hg : ∀ p, ptr v = some p → xs ≠ [] → p.block ≠ g) : SlV w' sz v n xs := by
  obtain ⟨A, c, rfl, h1, h2, h3, b, o, h4, h5⟩ := h
  refine ⟨A, c, rfl, h1, h2, h3, b, o, fun hn => ⟨(h4 hn).1, Nat.lt_of_lt_of_le (h4 hn).2 k.size⟩, fun j u hu => ?_⟩
  have hn : xs ≠ [] := fun e => by rw [e] at hu; simp at hu
  obtain ⟨hA, hb⟩ := h4 hn
  exact (World.cell?_of_block (a := ⟨b, o + j, none⟩) (k.block b hb (hg _ (by rw [hA]; rfl) hn))).trans (h5 j u hu)
end Go.Proofs.YtfjmhmfkhgjnhaaDoor


namespace Go.Proofs.YtfjmhmfkhgjnhaaDoor
set_option linter.unusedVariables false
set_option linter.unusedSimpArgs false
set_option maxRecDepth 100000
open Go.RowKit

def gRow (v : Value) (es : List Gr.Ed) : List Rw := [⟨39, 2, v, es.length, edcs es⟩]
theorem info_edge3 : (Tryd.prog.info? 39).map (fun i => (i.zero, i.size, i.bytes)) = some (some (.agg #[.int .i64 0, .int .i64 0]), 2, 16) := by kernel_rfl

set_option maxRecDepth 100000 in
set_option maxHeartbeats 4000000 in
theorem spgraph_yes (w : World) (cs : List Value) (t : Sp.T) (hT : TmR w.heap.size w cs t) (hn : t.size ≤ 200) :
    Calls Tryd.prog 18 #[.agg cs.toArray] w fun e w' => ∃ A c, e = .returned (.tuple #[.agg #[.int .i64 (t.size : Int), .slice A (Gr.gE t.rk t.size).length c], .int .i64 0]) ∧ SlV w' 2 (.slice A (Gr.gE t.rk t.size).length c) (Gr.gE t.rk t.size).length (edcs (Gr.gE t.rk t.size)) ∧ Below w.heap.size w w' := by
  obtain ⟨a0, a1, a2, a3, A4, a5, a6, rfl, -, -⟩ := hT.form
  unfold tcells at hT ⊢
  have hba : Below w.heap.size w ((w.alloc (.cells #[.int .i64 a0, .int .i64 a1, .bool a2, .int .i64 a3, .slice A4 a5 a6] 44)).alloc (.cells #[.int .i64 0, .slice none 0 0] 24)) := below_alloc (below_alloc (Below.refl _ _) _) _
  have x0 := (Blk.new w 44 [.int .i64 a0, .int .i64 a1, .bool a2, .int .i64 a3, .slice A4 a5 a6]).alloc (.cells #[.int .i64 0, .slice none 0 0] 24)
  have y0 := Blk.new (w.alloc (.cells #[.int .i64 a0, .int .i64 a1, .bool a2, .int .i64 a3, .slice A4 a5 a6] 44)) 24 [.int .i64 0, .slice none 0 0]
  simp only [World.size_alloc] at y0
  obtain ⟨n, hnt⟩ : ∃ n, n = t.size := ⟨_, rfl⟩
  have hm := fun w' (hb : Below w.heap.size w w') => marks_any w' _ t (tm_up (hT.later hb) hb.size) (by omega)
  rw [← hnt] at hn hm ⊢
  have HN := Lib.hid hnt
  clear hT hnt
  go_enter Tryd.func18, Tryd.ntmps18
  go_upto_region 1 with (fail)
  generalize (w.alloc (.cells #[.int .i64 a0, .int .i64 a1, .bool a2, .int .i64 a3, .slice A4 a5 a6] 44)).alloc (.cells #[.int .i64 0, .slice none 0 0] 24) = W0 at x0 y0 hba ⊢
  have d0 : W0.cell? ⟨w.heap.size, 0, none⟩ = some (.int .i64 a0) := (x0.cell 0).trans rfl
  have d1 : W0.cell? ⟨w.heap.size, 1, none⟩ = some (.int .i64 a1) := (x0.cell 1).trans rfl
  have d2 : W0.cell? ⟨w.heap.size, 2, none⟩ = some (.bool a2) := (x0.cell 2).trans rfl
  have d3 : W0.cell? ⟨w.heap.size, 3, none⟩ = some (.int .i64 a3) := (x0.cell 3).trans rfl
  have d4 : W0.cell? ⟨w.heap.size, 4, none⟩ = some (.slice A4 a5 a6) := (x0.cell 4).trans rfl
  go_wp2_with fail
  refine (hm W0 hba).mono ?_
  rintro e w1 ⟨h, rfl, hB1, hh, hb1⟩
  have y1 := y0.below hb1
  have hb01 := below_next hb1 hba
  clear d0 d1 d2 d3 d4 x0 y0 hm hb1 hba
  have hg200 : decide ((200 : Int) < (n : Int)) = false := by simp; omega
  have p5 := Blk.new w1 24 [.int .i64 (n : Int), .slice none 0 0]
  have hb5 : Below w1.heap.size w1 (w1.alloc (.cells #[.int .i64 (n : Int), .slice none 0 0] 24)) := below_alloc (Below.refl _ _) _
  go_upto_region 5 with (fail)
  obtain ⟨pg, hpg⟩ : ∃ p, p = w1.heap.size := ⟨_, rfl⟩
  simp only [← hpg] at p5 ⊢
  generalize w1.alloc (.cells #[.int .i64 (n : Int), .slice none 0 0] 24) = w2 at p5 hb5 ⊢
  have y2 := y1.below hb5
  have hB2 := hB1.below hb5
  have hb02 := below_next hb5 hb01
  have hp2 := p5.lt
  have hhp : h < pg := by have := hB1.lt; omega
  have hy1 : w.heap.size + 1 < w1.heap.size := y1.lt
  have hO : Own (w.heap.size + 2) w2 pg 24 [.int .i64 (n : Int), .slice none 0 0] (gRow (.slice none 0 0) []) := by
    refine ⟨p5, fun r hr => ?_, fun i j r s hi hj hij => ?_, fun r hr => ?_, by omega, by omega⟩
    · rw [List.mem_singleton.1 hr]; exact World.ownsRow_nil _ _ _ _
    · intro k hk
      have := List.mem_of_getElem? hi
      rw [List.mem_singleton.1 this] at hk
      simp [Value.ownBlock] at hk
    · rw [List.mem_singleton.1 hr]; simp [Value.ownBlock]
  have hOT := OwnTo.start hO
  obtain ⟨T0, hT0⟩ : ∃ T, T = Tw pg (gRow (.slice none 0 0) []) := ⟨_, rfl⟩
  have hTe : Hid (∀ k, T0 k → k = pg) := Lib.hid fun k hk => by
    rw [hT0] at hk
    rcases hk with rfl | ⟨r, hr, hk⟩
    · rfl
    · rw [List.mem_singleton.1 hr] at hk; simp [Value.ownBlock] at hk
  rw [← hT0] at hOT
  have HB := Lib.hid (And.intro y2 (And.intro hB2 hb02))
  have HPG := Lib.hid (And.intro hpg (And.intro hhp hy1))
  clear hT0 hO hg200 y1 hB1 hb01 hb5 hp2 hh y2 hB2 hb02 p5 hpg hhp hy1
  go_wp2_with fail
  go_loopw [21] (fun i wr => ∃ (k : Nat) (v : Value), k ≤ n ∧ i = .int .i64 (k : Int) ∧ OwnTo (w.heap.size + 2) w2 T0 wr pg 24 [.int .i64 (n : Int), v] (gRow v (Gr.gEk t.rk n k))) (fun i _ => n - (intOf i).toNat)
  case atStart => exact ⟨0, _, Nat.zero_le _, rfl, hOT⟩
  case round =>
    obtain ⟨k, v, hk, rfl, hOk⟩ := hrel
    by_cases hlt : k < n
    · have hBr := HB.out.2.1.keeps hOk.kp (fun e => by have := hTe.out _ e; have := HPG.out.2.1; omega)
      have hgk := Sp.T.marks_get t 0 0 k (by rw [← HN.out]; exact hlt)
      rw [Nat.zero_add, Nat.zero_add] at hgk
      obtain ⟨c0, c1⟩ := Sp.prcs_get _ _ _ hgk
      have d0 : wr.cell? ⟨h, k * 2, none⟩ = some (.int .i64 (k : Int)) := (hBr.cell _).trans c0
      have d1 : wr.cell? ⟨h, k * 2 + 1, none⟩ = some (.int .i64 (t.rk k : Int)) := (hBr.cell _).trans c1
      obtain ⟨F, hF⟩ : ∃ F, F = t.rk := ⟨_, rfl⟩
      rw [← hF] at d1 hOk
      have HF := Lib.hid hF
      have pa := Blk.new wr 73 [.int .i64 (k : Int), .int .i64 (F k : Int)]
      have hO3 := hOk.later (below_alloc (Below.refl _ _) (.cells #[.int .i64 (k : Int), .int .i64 (F k : Int)] 73))
      obtain ⟨AA, hAA, hAr⟩ : ∃ a : Addr, (if n = k + 1 then (some ⟨h, 0, none⟩ : Option Addr) else some ⟨h, (k + 1) * 2, none⟩) = some a ∧ Hid (k + 1 < n → a = ⟨h, (k + 1) * 2, none⟩) := by
        by_cases e : n = k + 1
        · exact ⟨⟨h, 0, none⟩, by simp [e], Lib.hid fun h => by omega⟩
        · exact ⟨⟨h, (k + 1) * 2, none⟩, by simp [e], Lib.hid fun _ => rfl⟩
      clear hOk hgk c0 c1 hF hBr hOT
      have hk1 : k + 1 ≤ n := hlt
      go_upto_region 8 with (fail)
      obtain ⟨qa, hqa⟩ : ∃ q, q = wr.heap.size := ⟨_, rfl⟩
      rw [← hqa] at pa ⊢
      generalize wr.alloc (.cells #[.int .i64 (k : Int), .int .i64 (F k : Int)] 73) = w3 at pa hO3 ⊢
      clear d0 d1 hqa
      go_wp2_with fail
      clear hAA
      go_loopw [31] (fun i wr => ∃ (j : Nat) (v : Value), j ≤ n - (k + 1) ∧ i = .int .i64 (j : Int) ∧ OwnTo (w.heap.size + 2) w2 T0 wr pg 24 [.int .i64 (n : Int), v] (gRow v (Gr.gEk F n k ++ Gr.rowJ F k j)) ∧ Blk wr qa 73 [.int .i64 (k : Int), .int .i64 (F k : Int)]) (fun i _ => n - (intOf i).toNat)
      case atStart => exact ⟨0, v, Nat.zero_le _, rfl, by rw [Gr.rowJ_zero, List.append_nil]; exact hO3, pa⟩
      case round =>
        clear hO3 pa
        obtain ⟨j, v, hj, rfl, hOj, pa⟩ := hrel
        by_cases hjl : j < n - (k + 1)
        · obtain rfl := hAr.out (by omega)
          have hBr := HB.out.2.1.keeps hOj.kp (fun e => by have := hTe.out _ e; have := HPG.out.2.1; omega)
          obtain ⟨m, hm⟩ : ∃ m, m = k + 1 + j := ⟨_, rfl⟩
          have hgk := Sp.T.marks_get t 0 0 m (by rw [← HN.out]; omega)
          rw [Nat.zero_add, Nat.zero_add, ← HF.out] at hgk
          obtain ⟨c0, c1⟩ := Sp.prcs_get _ _ _ hgk
          have d0 : wr.cell? ⟨h, (k + 1) * 2 + j * 2, none⟩ = some (.int .i64 (m : Int)) := by rw [show (k + 1) * 2 + j * 2 = m * 2 by omega]; exact (hBr.cell _).trans c0
          have d1 : wr.cell? ⟨h, (k + 1) * 2 + j * 2 + 1, none⟩ = some (.int .i64 (F m : Int)) := by rw [show (k + 1) * 2 + j * 2 + 1 = m * 2 + 1 by omega]; exact (hBr.cell _).trans c1
          have pb := Blk.new wr 73 [.int .i64 (m : Int), .int .i64 (F m : Int)]
          have hO4 := hOj.later (below_alloc (Below.refl _ _) (.cells #[.int .i64 (m : Int), .int .i64 (F m : Int)] 73))
          have pa4 := pa.alloc (.cells #[.int .i64 (m : Int), .int .i64 (F m : Int)] 73)
          have HM := Lib.hid hm
          clear hOj hgk c0 c1 hBr pa hm
          go_upto_region 11 with (fail)
          obtain ⟨qb, hqb⟩ : ∃ q, q = wr.heap.size := ⟨_, rfl⟩
          rw [← hqb] at pb ⊢
          generalize wr.alloc (.cells #[.int .i64 (m : Int), .int .i64 (F m : Int)] 73) = w5 at pb hO4 pa4 ⊢
          clear d0 d1 hqb
          have e0 : w5.cell? ⟨qa, 1, none⟩ = some (.int .i64 (F k : Int)) := (pa4.cell 1).trans rfl
          have e1 : w5.cell? ⟨qb, 1, none⟩ = some (.int .i64 (F m : Int)) := (pb.cell 1).trans rfl
          clear pb
          by_cases hc : F k < F m
          · have hcb : decide ((F k : Int) < (F m : Int)) = true := by simpa using hc
            have hy := Gr.rowJ_yes (f := F) (i := k) (j := j) (by rw [← HM.out]; exact hc)
            have hrow : w5.ownsRow (w.heap.size + 2) 39 2 v (Gr.gEk F n k ++ Gr.rowJ F k j).length (edcs (Gr.gEk F n k ++ Gr.rowJ F k j)) := hO4.own.row 0 rfl
            obtain ⟨VA, vc, rfl, -, -⟩ := own_slice hrow
            have hbp := hO4.own.blk
            have f1 : w5.cell? ⟨pg, 1, none⟩ = some (.slice VA (Gr.gEk F n k ++ Gr.rowJ F k j).length vc) := (hbp.cell 1).trans rfl
            have hlen : (Gr.gEk F n k ++ Gr.rowJ F k j).length ≤ 80000 := by
              rw [List.length_append]
              have := Gr.gEk_len F n k
              have := Gr.rowJ_len F k j
              have := Nat.mul_le_mul (show k ≤ 200 by omega) hn
              omega
            obtain ⟨es, hes⟩ : ∃ es, es = Gr.gEk F n k ++ Gr.rowJ F k j := ⟨_, rfl⟩
            rw [← hes] at hrow hbp f1 hlen hO4
            have hy' : edcs (Gr.gEk F n k ++ Gr.rowJ F k (j + 1)) = edcs es ++ [.int .i64 (k : Int), .int .i64 ((k : Int) + 1 + (j : Int))] ∧ (Gr.gEk F n k ++ Gr.rowJ F k (j + 1)).length = es.length + 1 := by
              rw [hy, ← List.append_assoc, ← hes, List.length_append]
              refine ⟨?_, rfl⟩
              simp only [edcs, List.flatMap_append, List.flatMap_cons, List.flatMap_nil, List.append_nil, edc]
              congr 4
            have HES := Lib.hid (And.intro hes (And.intro hy' hO4))
            have n63 : es.length + 1 ≤ maxLen := by unfold maxLen; omega
            have n47 : (es.length + 1) * 16 ≤ 140737488355328 := by omega
            have hbase := hO4.own.base
            have hvne : (Value.slice VA es.length vc).ownBlock ≠ some pg := hO4.own.ng _ (List.mem_singleton.2 rfl)
            clear hes hy hy' hO4 hlen
            go_wp2_with (first | (at_builtin; (refine wp_push w5 _ _ _ _ _ _ _ _ Tryd.underlying22 info_edge3 rfl (by decide) hrow [.int .i64 (k : Int), .int .i64 ((k : Int) + 1 + (j : Int))] rfl (by simp [Value.oneCell']) n63 n47 hbase rfl rfl rfl rfl ?_); intro v' w6 hown' hgrow hnew _; have hbp6 := hbp.grown hgrow (fun e => hvne e.symm); obtain ⟨A', c', rfl, hle', hm'⟩ := own_slice hown'; have g1 := hbp6.cell 1; have fz := hbp6.frozen 1; simp only [List.getElem?_cons_zero, List.getElem?_cons_succ] at g1) | fail)
            have hput : OwnTo (w.heap.size + 2) w2 T0 (w6.setCell ⟨pg, 1, none⟩ (.slice A' (es.length + 1) c')) pg 24 [.int .i64 (n : Int), .slice A' (es.length + 1) c'] (gRow (.slice A' (es.length + 1) c') (Gr.gEk F n k ++ Gr.rowJ F k (j + 1))) := by
              have h1 : w6.ownsRow (w.heap.size + 2) 39 2 (.slice A' (es.length + 1) c') (Gr.gEk F n k ++ Gr.rowJ F k (j + 1)).length (edcs (Gr.gEk F n k ++ Gr.rowJ F k (j + 1))) := by
                rw [HES.out.2.1.1, HES.out.2.1.2]; exact hown'
              have h2 := HES.out.2.2.step (HES.out.2.2.own.put_to (i := 0) rfl (v' := .slice A' (es.length + 1) c') h1 hgrow (hnew.imp id fun e => ⟨_, by simp, e⟩) (hbp6.set_ 1 (.slice A' (es.length + 1) c')) (grown_setCell w6 pg 1 _))
              exact h2
            have hqn : Blk (w6.setCell ⟨pg, 1, none⟩ (.slice A' (es.length + 1) c')) qa 73 [.int .i64 (k : Int), .int .i64 (F k : Int)] := by
              have h1 := pa4.grown hgrow (fun e => own_blk_ne hrow pa4 (by decide) e.symm)
              refine h1.far (fun e => ?_) _
              have e' : qa = pg := e
              rw [e'] at h1
              have h2 : Blk w6 pg 24 _ := hbp6
              unfold Blk at h1 h2
              rw [h1] at h2
              injection h2 with h2
              injection h2 with _ h2
              revert h2
              decide
            have HO := Lib.hid (And.intro hput hqn)
            clear hput hqn hown' hgrow hnew hbp6 hbp hrow g1 fz
            go_roundw
            case rel => exact ⟨j + 1, _, by omega, by go_num, HO.out.1, HO.out.2⟩
            case measure => simp [intOf]; omega
          · have hcb : decide (F k < F m) = false := by simpa using hc
            have hy := Gr.rowJ_no (f := F) (i := k) (j := j) (by rw [← HM.out]; exact hc)
            rw [← hy] at hO4
            have HO := Lib.hid (And.intro hO4 pa4)
            clear hO4 pa4 hy hc
            go_wp2_with fail
            go_roundw
            case rel => exact ⟨j + 1, v, by omega, by go_num, HO.out.1, HO.out.2⟩
            case measure => simp [intOf]; omega
        · obtain rfl : j = n - (k + 1) := by omega
          rw [← Gr.gEk_succ] at hOj
          have HO := Lib.hid hOj
          clear hOj pa
          rw [HF.out] at HO
          go_wp2_with fail
          go_roundw
          case rel => exact ⟨k + 1, v, by omega, by go_num, HO.out⟩
          case measure => simp [intOf]; omega
    · obtain rfl : k = n := by omega
      have hrow : wr.ownsRow (w.heap.size + 2) 39 2 v (Gr.gEk t.rk k k).length (edcs (Gr.gEk t.rk k k)) := hOk.own.row 0 rfl
      obtain ⟨VA, vc, rfl, -, -⟩ := own_slice hrow
      have c0 : wr.cell? ⟨pg, 0, none⟩ = some (.int .i64 (k : Int)) := (hOk.own.blk.cell 0).trans rfl
      have c1 : wr.cell? ⟨pg, 1, none⟩ = some (.slice VA (Gr.gEk t.rk k k).length vc) := (hOk.own.blk.cell 1).trans rfl
      have yB := HB.out.1.keeps hOk.kp (fun e => by have := hTe.out _ e; have := HPG.out; omega)
      have hbw : Below w.heap.size w wr := HB.out.2.2.trans (hOk.kp.below HB.out.2.2.size (fun i hi => by have := hTe.out _ hi; have := HPG.out; omega))
      obtain ⟨ln, hln⟩ : ∃ l, l = (Gr.gEk t.rk k k).length := ⟨_, rfl⟩
      rw [← hln] at hrow c1
      have HX := Lib.hid (And.intro hrow (And.intro hbw hln))
      have hlq : w.heap.size + 1 < wr.heap.size := yB.lt
      clear hrow hbw hln hOk hOT
      go_wp2_with (refine wpl_put_blk yB [.int .i64 (k : Int), .slice VA ln vc] (by kernel_rfl) rfl (by intro v hv; simp at hv; rcases hv with rfl | rfl <;> rfl) rfl rfl rfl rfl ?_; intro w6 hB6 hg6)
      have hb6 := HX.out.2.1.trans (below_of_grown hg6 HX.out.2.1.size (by omega))
      have s6 := SlV.of_own (own_keeps HX.out.1 (Keeps.of_grown hg6) (fun i hi e => own_blk_ne HX.out.1 yB (by decide) (by rw [hi]; exact e)))
      have e := HX.out.2.2
      subst e
      refine ret_blk2 hB6 rfl rfl Tryd.underlying24 rfl (by kernel_rfl) rfl ?_
      exact ⟨VA, vc, rfl, s6, hb6⟩
end Go.Proofs.YtfjmhmfkhgjnhaaDoor


namespace Go.Proofs.YtfjmhmfkhgjnhaaDoor
set_option linter.unusedVariables false
set_option linter.unusedSimpArgs false
set_option maxRecDepth 100000
open Go.RowKit

set_option maxRecDepth 100000 in
set_option maxHeartbeats 4000000 in
theorem spgraph_no (w : World) (cs : List Value) (t : Sp.T) (hT : TmR w.heap.size w cs t) (hn : t.size ≤ 4194304) (hbig : 200 < t.size) :
    Calls Tryd.prog 18 #[.agg cs.toArray] w fun e w' => e = .returned (.tuple #[.agg #[.int .i64 0, .slice none 0 0], .int .i64 2]) ∧ Below w.heap.size w w' := by
  obtain ⟨a0, a1, a2, a3, A4, a5, a6, rfl, -, -⟩ := hT.form
  unfold tcells at hT ⊢
  have hba : Below w.heap.size w ((w.alloc (.cells #[.int .i64 a0, .int .i64 a1, .bool a2, .int .i64 a3, .slice A4 a5 a6] 44)).alloc (.cells #[.int .i64 0, .slice none 0 0] 24)) := below_alloc (below_alloc (Below.refl _ _) _) _
  have x0 := (Blk.new w 44 [.int .i64 a0, .int .i64 a1, .bool a2, .int .i64 a3, .slice A4 a5 a6]).alloc (.cells #[.int .i64 0, .slice none 0 0] 24)
  have y0 := Blk.new (w.alloc (.cells #[.int .i64 a0, .int .i64 a1, .bool a2, .int .i64 a3, .slice A4 a5 a6] 44)) 24 [.int .i64 0, .slice none 0 0]
  simp only [World.size_alloc] at y0
  have hm := fun w' (hb : Below w.heap.size w w') => marks_any w' _ t (tm_up (hT.later hb) hb.size) hn
  obtain ⟨n, hnt⟩ : ∃ n, n = t.size := ⟨_, rfl⟩
  rw [← hnt] at hm hbig
  clear hT hnt
  go_enter Tryd.func18, Tryd.ntmps18
  go_upto_region 1 with (fail)
  generalize (w.alloc (.cells #[.int .i64 a0, .int .i64 a1, .bool a2, .int .i64 a3, .slice A4 a5 a6] 44)).alloc (.cells #[.int .i64 0, .slice none 0 0] 24) = W0 at x0 y0 hba ⊢
  have d0 : W0.cell? ⟨w.heap.size, 0, none⟩ = some (.int .i64 a0) := (x0.cell 0).trans rfl
  have d1 : W0.cell? ⟨w.heap.size, 1, none⟩ = some (.int .i64 a1) := (x0.cell 1).trans rfl
  have d2 : W0.cell? ⟨w.heap.size, 2, none⟩ = some (.bool a2) := (x0.cell 2).trans rfl
  have d3 : W0.cell? ⟨w.heap.size, 3, none⟩ = some (.int .i64 a3) := (x0.cell 3).trans rfl
  have d4 : W0.cell? ⟨w.heap.size, 4, none⟩ = some (.slice A4 a5 a6) := (x0.cell 4).trans rfl
  go_wp2_with fail
  refine (hm W0 hba).mono ?_
  rintro e w1 ⟨h, rfl, hB1, hh, hb1⟩
  have y1 := y0.below hb1
  have hb01 := below_next hb1 hba
  clear d0 d1 d2 d3 d4 x0 y0 hm hb1 hba hB1 hh
  have hg200 : decide ((200 : Int) < (n : Int)) = true := by simp; omega
  go_wp2_with (refine wpl_put_blk y1 [.int .i64 0, .slice none 0 0] (by kernel_rfl) rfl (by intro v hv; simp at hv; rcases hv with rfl | rfl <;> rfl) rfl rfl rfl rfl ?_; intro w6 hB6 hg6)
  have hb6 : Below w.heap.size w w6 := hb01.trans (below_of_grown hg6 hb01.size (by omega))
  refine ret_blk2 hB6 rfl rfl Tryd.underlying24 rfl (by kernel_rfl) rfl ?_
  exact ⟨rfl, hb6⟩
end Go.Proofs.YtfjmhmfkhgjnhaaDoor


namespace Go.Proofs.YtfjmhmfkhgjnhaaDoor
set_option linter.unusedVariables false
set_option linter.unusedSimpArgs false
set_option maxRecDepth 100000
open Go.RowKit

theorem plus_any (a b : Nat) (w : World) (h : a + b ≤ 8388608) : Calls Tryd.prog 49 #[.int .i64 a, .int .i64 b] w fun e w' => e = .returned (.int .i64 ((a + b : Nat) : Int)) ∧ w = w' := by
  go_enter Tryd.func49, Tryd.ntmps49
  go_wp2
  go_ret
  exact ⟨ret_int (by omega), rfl⟩
theorem most_any (a b : Nat) (w : World) : Calls Tryd.prog 50 #[.int .i64 a, .int .i64 b] w fun e w' => e = .returned (.int .i64 ((max a b : Nat) : Int)) ∧ w = w' := by
  go_enter Tryd.func50, Tryd.ntmps50
  go_wp2
  go_ret
  exact ⟨ret_int (by omega), rfl⟩

def Sp.val (m : Bool) (t : Sp.T) : Nat := if m then t.span else t.width
theorem Sp.val_le (m : Bool) (t : Sp.T) : Sp.val m t ≤ t.size := by cases m; exact t.width_le; exact t.span_le
def seqF (m : Bool) : Value := .func (Fn.func (if m then 49 else 50)) #[] #[]
def parF (m : Bool) : Value := .func (Fn.func (if m then 50 else 49)) #[] #[]

set_option maxHeartbeats 4000000 in
theorem sum_any (m : Bool) : ∀ (t : Sp.T) (B : Nat) (w : World) (cs : List Value), TmR B w cs t → B ≤ w.heap.size → t.size ≤ 4194304 →
    Calls Tryd.prog 48 #[.agg cs.toArray, seqF m, parF m] w fun e w' => e = .returned (.int .i64 (Sp.val m t : Nat)) ∧ Below w.heap.size w w' := by
  intro t
  induction t with
  | nil =>
    intro B w cs hT hB hn
    have hv : Sp.val m .nil = 0 := by cases m <;> rfl
    rw [hv]
    clear hv hn
    cases hT with
    | nil k c b l A n cap hm hcap hk1 hk2 =>
    unfold tcells
    generalize seqF m = F1
    generalize parF m = F2
    unfold maxLen at hcap
    have e1 : (k == 1) = false := by simpa using hk1
    have hb : Below w.heap.size w (w.alloc (.cells #[.int .i64 k, .int .i64 c, .bool b, .int .i64 l, .slice A n cap] 44)) := below_alloc (Below.refl _ _) _
    by_cases k2 : k = 2
    · subst k2
      have hm2 : ¬ 2 ≤ n := fun h => hk2 ⟨.inl rfl, h⟩
      clear hk2 hk1
      go_enter Tryd.func48, Tryd.ntmps48
      go_wp2
      go_ret
      exact ⟨rfl, hb⟩
    · by_cases k3 : k = 3
      · subst k3
        have hm2 : ¬ 2 ≤ n := fun h => hk2 ⟨.inr rfl, h⟩
        clear hk2 hk1
        go_enter Tryd.func48, Tryd.ntmps48
        go_wp2
        go_ret
        exact ⟨rfl, hb⟩
      · have e2 : (k != 2) = true := by simpa using k2
        have e3 : (k != 3) = true := by simpa using k3
        clear hk2 hk1
        go_enter Tryd.func48, Tryd.ntmps48
        go_wp2
        go_ret
        exact ⟨rfl, hb⟩
  | one c b l =>
    intro B w cs hT hB hn
    have hv : Sp.val m (.one c b l) = 1 := by cases m <;> rfl
    rw [hv]
    clear hv hn
    cases hT with
    | one c b l A n cap hm hcap =>
    unfold tcells
    generalize seqF m = F1
    generalize parF m = F2
    unfold maxLen at hcap
    have hb : Below w.heap.size w (w.alloc (.cells #[.int .i64 1, .int .i64 c, .bool b, .int .i64 l, .slice A n cap] 44)) := below_alloc (Below.refl _ _) _
    go_enter Tryd.func48, Tryd.ntmps48
    go_wp2
    go_ret
    exact ⟨rfl, hb⟩
  | two par t0 t1 ih0 ih1 =>
    intro B w cs hT hB hn
    rw [Sp.T.size_two] at hn
    cases hT with
    | two par c b l g o n cap cs0 cs1 t0 t1 hm hcap h2 hg h5 h6 r0 r1 =>
    have hwB : w.heap.size ≤ (w.alloc (.cells (tcells (if par then 3 else 2) c b l (some ⟨g, o, none⟩) n cap).toArray 44)).heap.size := by simp
    have hP := Blk.new w 44 (tcells (if par then 3 else 2) c b l (some ⟨g, o, none⟩) n cap)
    have hbw : Below w.heap.size w (w.alloc (.cells (tcells (if par then 3 else 2) c b l (some ⟨g, o, none⟩) n cap).toArray 44)) := below_alloc (Below.refl _ _) _
    have q0 := r0.alloc hB (.cells (tcells (if par then 3 else 2) c b l (some ⟨g, o, none⟩) n cap).toArray 44)
    have q1 := r1.alloc hB (.cells (tcells (if par then 3 else 2) c b l (some ⟨g, o, none⟩) n cap).toArray 44)
    have hgw : g < w.heap.size := by omega
    have hc5 := fun j u hu => (World.cell?_alloc_lt w (.cells (tcells (if par then 3 else 2) c b l (some ⟨g, o, none⟩) n cap).toArray 44) ⟨g, o + j, none⟩ hgw).trans (h5 j u hu)
    have hc6 := fun j u hu => (World.cell?_alloc_lt w (.cells (tcells (if par then 3 else 2) c b l (some ⟨g, o, none⟩) n cap).toArray 44) ⟨g, o + 5 + j, none⟩ hgw).trans (h6 j u hu)
    obtain ⟨a0, a1, a2, a3, A4, a5, a6, rfl, -, -⟩ := r0.form
    obtain ⟨b0, b1, b2, b3, B4, b5, b6, rfl, -, -⟩ := r1.form
    clear h5 h6 r0 r1
    have v0 := Sp.val_le m t0
    have v1 := Sp.val_le m t1
    have hval : Sp.val m (.two par t0 t1) = if par = m then max (Sp.val m t0) (Sp.val m t1) else Sp.val m t0 + Sp.val m t1 := by
      cases m <;> cases par <;> simp [Sp.val, Sp.T.span, Sp.T.width]
    have HV := Lib.hid hval
    have hr0 := fun w' (h : TmR B w' (tcells a0 a1 a2 a3 A4 a5 a6) t0) (hb : B ≤ w'.heap.size) => ih0 B w' _ h hb (by omega)
    have hr1 := fun w' (h : TmR B w' (tcells b0 b1 b2 b3 B4 b5 b6) t1) (hb : B ≤ w'.heap.size) => ih1 B w' _ h hb (by omega)
    obtain ⟨z0, hz0⟩ : ∃ z, z = Sp.val m t0 := ⟨_, rfl⟩
    obtain ⟨z1, hz1⟩ : ∃ z, z = Sp.val m t1 := ⟨_, rfl⟩
    rw [← hz0] at hr0 v0 HV
    rw [← hz1] at hr1 v1 HV
    clear hval hz0 hz1 ih0 ih1
    have x0 := hc5 0 _ rfl
    have x1 := hc5 1 _ rfl
    have x2 := hc5 2 _ rfl
    have x3 := hc5 3 _ rfl
    have x4 := hc5 4 _ rfl
    have y0 := hc6 0 _ rfl
    have y1 := hc6 1 _ rfl
    have y2 := hc6 2 _ rfl
    have y3 := hc6 3 _ rfl
    have y4 := hc6 4 _ rfl
    rw [Nat.add_zero] at x0 y0
    clear hc5 hc6
    unfold maxLen at hcap
    have m0 : (0 : Int) < (n : Int) := by omega
    have m1 : (1 : Int) < (n : Int) := by omega
    have m2 : 0 < n := by omega
    have m3 : 1 < n := by omega
    have hgq : g < (w.alloc (.cells (tcells (if par then 3 else 2) c b l (some ⟨g, o, none⟩) n cap).toArray 44)).heap.size := by simp; omega
    have hB1 : B ≤ (w.alloc (.cells (tcells (if par then 3 else 2) c b l (some ⟨g, o, none⟩) n cap).toArray 44)).heap.size := by simp; omega
    have hfin : ∀ (p m : Bool) (z0 z1 : Nat) (w : World), z0 + z1 ≤ 8388608 → p = m → Calls Tryd.prog 50 #[.int .i64 z0, .int .i64 z1] w fun e w' => e = .returned (.int .i64 ((if p = m then max z0 z1 else z0 + z1 : Nat) : Int)) ∧ w = w' := fun p m z0 z1 w hz h => by
      rw [if_pos h]; exact most_any z0 z1 w
    have hfin2 : ∀ (p m : Bool) (z0 z1 : Nat) (w : World), z0 + z1 ≤ 8388608 → ¬ p = m → Calls Tryd.prog 49 #[.int .i64 z0, .int .i64 z1] w fun e w' => e = .returned (.int .i64 ((if p = m then max z0 z1 else z0 + z1 : Nat) : Int)) ∧ w = w' := fun p m z0 z1 w hz h => by
      rw [if_neg h]; exact plus_any z0 z1 w hz
    obtain ⟨F1, hF1⟩ : ∃ F, F = seqF m := ⟨_, rfl⟩
    obtain ⟨F2, hF2⟩ : ∃ F, F = parF m := ⟨_, rfl⟩
    rw [← hF1, ← hF2] at hr0 hr1 ⊢
    rw [HV.out]
    obtain ⟨Z, hZ⟩ : ∃ Z, Z = (if par = m then max z0 z1 else z0 + z1) := ⟨_, rfl⟩
    rw [← hZ]
    have HZ := Lib.hid hZ
    have HF1 := Lib.hid hF1
    have HF2 := Lib.hid hF2
    unfold tcells at hr0 hr1 hP hbw q0 q1 x0 x1 x2 x3 x4 y0 y1 y2 y3 y4 hgq hB1 ⊢
    clear hZ hF1 hF2 HV hwB hB
    rcases par with _ | _
    · simp only [Bool.false_eq_true, if_false] at *
      go_enter Tryd.func48, Tryd.ntmps48
      go_wp2_with fail
      have c4 := hP.cell 4
      have hql := hP.lt
      simp only [List.getElem?_cons_zero, List.getElem?_cons_succ] at c4
      have c4' : (w.alloc (.cells #[.int .i64 2, .int .i64 c, .bool b, .int .i64 l, .slice (some ⟨g, o, none⟩) n cap] 44)).cell? ⟨w.heap.size, 4, none⟩ = some (.slice (some ⟨g, o, none⟩) n cap) := c4
      have hql' : w.heap.size < (w.alloc (.cells #[.int .i64 2, .int .i64 c, .bool b, .int .i64 l, .slice (some ⟨g, o, none⟩) n cap] 44)).heap.size := hql
      clear c4 hP hql
      generalize (w.alloc (.cells #[.int .i64 2, .int .i64 c, .bool b, .int .i64 l, .slice (some ⟨g, o, none⟩) n cap] 44)) = w1 at hbw q0 q1 x0 x1 x2 x3 x4 y0 y1 y2 y3 y4 hgq hB1 c4' hql' ⊢
      obtain ⟨q, hq⟩ : ∃ q, q = w.heap.size := ⟨_, rfl⟩
      rw [← hq] at c4' hql' ⊢
      clear hq
      have keepS : ∀ w', Below w1.heap.size w1 w' → (Below w1.heap.size w1 w' ∧ w'.cell? ⟨q, 4, none⟩ = some (.slice (some ⟨g, o, none⟩) n cap) ∧ w'.cell? ⟨g, o, none⟩ = some (.int .i64 a0) ∧ w'.cell? ⟨g, o + 1, none⟩ = some (.int .i64 a1) ∧ w'.cell? ⟨g, o + 2, none⟩ = some (.bool a2) ∧ w'.cell? ⟨g, o + 3, none⟩ = some (.int .i64 a3) ∧ w'.cell? ⟨g, o + 4, none⟩ = some (.slice A4 a5 a6) ∧ w'.cell? ⟨g, o + 5, none⟩ = some (.int .i64 b0) ∧ w'.cell? ⟨g, o + 5 + 1, none⟩ = some (.int .i64 b1) ∧ w'.cell? ⟨g, o + 5 + 2, none⟩ = some (.bool b2) ∧ w'.cell? ⟨g, o + 5 + 3, none⟩ = some (.int .i64 b3) ∧ w'.cell? ⟨g, o + 5 + 4, none⟩ = some (.slice B4 b5 b6)) := fun w' hb =>
        ⟨hb, (hb.cell hql').trans c4', (hb.cell hgq).trans x0, (hb.cell hgq).trans x1, (hb.cell hgq).trans x2, (hb.cell hgq).trans x3, (hb.cell hgq).trans x4, (hb.cell hgq).trans y0, (hb.cell hgq).trans y1, (hb.cell hgq).trans y2, (hb.cell hgq).trans y3, (hb.cell hgq).trans y4⟩
      have hrec : ∀ w' (x : List Value) (z : Nat), Below w1.heap.size w1 w' → (x = [.int .i64 a0, .int .i64 a1, .bool a2, .int .i64 a3, .slice A4 a5 a6] ∧ z = z0) ∨ (x = [.int .i64 b0, .int .i64 b1, .bool b2, .int .i64 b3, .slice B4 b5 b6] ∧ z = z1) → Calls Tryd.prog 48 #[.agg x.toArray, F1, F2] w' fun e w'' => e = .returned (.int .i64 (z : Nat)) ∧ (Below w1.heap.size w1 w'' ∧ w''.cell? ⟨q, 4, none⟩ = some (.slice (some ⟨g, o, none⟩) n cap) ∧ w''.cell? ⟨g, o, none⟩ = some (.int .i64 a0) ∧ w''.cell? ⟨g, o + 1, none⟩ = some (.int .i64 a1) ∧ w''.cell? ⟨g, o + 2, none⟩ = some (.bool a2) ∧ w''.cell? ⟨g, o + 3, none⟩ = some (.int .i64 a3) ∧ w''.cell? ⟨g, o + 4, none⟩ = some (.slice A4 a5 a6) ∧ w''.cell? ⟨g, o + 5, none⟩ = some (.int .i64 b0) ∧ w''.cell? ⟨g, o + 5 + 1, none⟩ = some (.int .i64 b1) ∧ w''.cell? ⟨g, o + 5 + 2, none⟩ = some (.bool b2) ∧ w''.cell? ⟨g, o + 5 + 3, none⟩ = some (.int .i64 b3) ∧ w''.cell? ⟨g, o + 5 + 4, none⟩ = some (.slice B4 b5 b6)) := fun w' x z hb hx => by
        rcases hx with ⟨rfl, rfl⟩ | ⟨rfl, rfl⟩
        · exact (hr0 w' (q0.later (hb.mono hB1)) (Nat.le_trans hB1 hb.size)).mono fun e w'' ⟨h1, h2⟩ => ⟨h1, keepS _ (below_next h2 hb)⟩
        · exact (hr1 w' (q1.later (hb.mono hB1)) (Nat.le_trans hB1 hb.size)).mono fun e w'' ⟨h1, h2⟩ => ⟨h1, keepS _ (below_next h2 hb)⟩
      have hd := keepS _ (below_drew (Below.refl _ _))
      clear x0 x1 x2 x3 x4 y0 y1 y2 y3 y4 c4' hr0 hr1 q0 q1
      refine wp_walk (by kernel_rfl) (by kernel_rfl) (fun _ _ => True) (fun w' => Below w1.heap.size w1 w' ∧ w'.cell? ⟨q, 4, none⟩ = some (.slice (some ⟨g, o, none⟩) n cap) ∧ w'.cell? ⟨g, o, none⟩ = some (.int .i64 a0) ∧ w'.cell? ⟨g, o + 1, none⟩ = some (.int .i64 a1) ∧ w'.cell? ⟨g, o + 2, none⟩ = some (.bool a2) ∧ w'.cell? ⟨g, o + 3, none⟩ = some (.int .i64 a3) ∧ w'.cell? ⟨g, o + 4, none⟩ = some (.slice A4 a5 a6) ∧ w'.cell? ⟨g, o + 5, none⟩ = some (.int .i64 b0) ∧ w'.cell? ⟨g, o + 5 + 1, none⟩ = some (.int .i64 b1) ∧ w'.cell? ⟨g, o + 5 + 2, none⟩ = some (.bool b2) ∧ w'.cell? ⟨g, o + 5 + 3, none⟩ = some (.int .i64 b3) ∧ w'.cell? ⟨g, o + 5 + 4, none⟩ = some (.slice B4 b5 b6)) hd ?_
      repeat (first | (refine settle_skip (fun _ => by rfl) ?_; (simp only [Act.put, List.setIfInBounds_toArray, List.set_cons_zero, List.set_cons_succ])) | (refine' settle_run (fun _ _ => trivial) (fun _ => by rfl) ?_ ?_; rotate_left; (focus (intro ρ w hS hF; (try dsimp only at hS); go_split_ands; go_simp; try with_reducible rfl)); (simp only [Act.put, List.setIfInBounds_toArray, List.set_cons_zero, List.set_cons_succ])) | (refine' settle_step (fun _ => by rfl) ?_ ?_; rotate_left; (focus (intro ρ w hS hF K hK; (simp only [Act.put, List.setIfInBounds_toArray, List.set_cons_zero, List.set_cons_succ] at hK); go_simp; first | (go_at_call 48; refine (hrec _ _ _ hS.1 (by first | exact .inl ⟨rfl, rfl⟩ | exact .inr ⟨rfl, rfl⟩)).mono ?_; rintro e w' ⟨rfl, hS'⟩; have hE' := True.intro; exact hK _ hS' hE'))); (simp only [Act.put, List.setIfInBounds_toArray, List.set_cons_zero, List.set_cons_succ])))
      refine settle_nil ?_
      intro ρ wS hS _
      have hbS := hS.1
      clear hrec keepS hd hS
      obtain rfl := HF1.out
      obtain rfl := HF2.out
      unfold seqF parF
      rcases m with _ | _
      · simp only [Bool.false_eq_true, if_false]
        go_wp2_with fail
        refine (hfin false false z0 z1 _ (by omega) rfl).mono ?_
        rintro e w2 ⟨rfl, rfl⟩
        go_wp2
        go_ret
        exact ⟨by rw [HZ.out]; rfl, below_self hbw hbS⟩
      · simp only [if_true]
        go_wp2_with fail
        refine (hfin2 false true z0 z1 _ (by omega) (by decide)).mono ?_
        rintro e w2 ⟨rfl, rfl⟩
        go_wp2
        go_ret
        exact ⟨by rw [HZ.out]; rfl, below_self hbw hbS⟩
    · simp only [if_true] at *
      go_enter Tryd.func48, Tryd.ntmps48
      go_wp2_with fail
      have c4 := hP.cell 4
      have hql := hP.lt
      simp only [List.getElem?_cons_zero, List.getElem?_cons_succ] at c4
      have c4' : (w.alloc (.cells #[.int .i64 3, .int .i64 c, .bool b, .int .i64 l, .slice (some ⟨g, o, none⟩) n cap] 44)).cell? ⟨w.heap.size, 4, none⟩ = some (.slice (some ⟨g, o, none⟩) n cap) := c4
      have hql' : w.heap.size < (w.alloc (.cells #[.int .i64 3, .int .i64 c, .bool b, .int .i64 l, .slice (some ⟨g, o, none⟩) n cap] 44)).heap.size := hql
      clear c4 hP hql
      generalize (w.alloc (.cells #[.int .i64 3, .int .i64 c, .bool b, .int .i64 l, .slice (some ⟨g, o, none⟩) n cap] 44)) = w1 at hbw q0 q1 x0 x1 x2 x3 x4 y0 y1 y2 y3 y4 hgq hB1 c4' hql' ⊢
      obtain ⟨q, hq⟩ : ∃ q, q = w.heap.size := ⟨_, rfl⟩
      rw [← hq] at c4' hql' ⊢
      clear hq
      have keepS : ∀ w', Below w1.heap.size w1 w' → (Below w1.heap.size w1 w' ∧ w'.cell? ⟨q, 4, none⟩ = some (.slice (some ⟨g, o, none⟩) n cap) ∧ w'.cell? ⟨g, o, none⟩ = some (.int .i64 a0) ∧ w'.cell? ⟨g, o + 1, none⟩ = some (.int .i64 a1) ∧ w'.cell? ⟨g, o + 2, none⟩ = some (.bool a2) ∧ w'.cell? ⟨g, o + 3, none⟩ = some (.int .i64 a3) ∧ w'.cell? ⟨g, o + 4, none⟩ = some (.slice A4 a5 a6) ∧ w'.cell? ⟨g, o + 5, none⟩ = some (.int .i64 b0) ∧ w'.cell? ⟨g, o + 5 + 1, none⟩ = some (.int .i64 b1) ∧ w'.cell? ⟨g, o + 5 + 2, none⟩ = some (.bool b2) ∧ w'.cell? ⟨g, o + 5 + 3, none⟩ = some (.int .i64 b3) ∧ w'.cell? ⟨g, o + 5 + 4, none⟩ = some (.slice B4 b5 b6)) := fun w' hb =>
        ⟨hb, (hb.cell hql').trans c4', (hb.cell hgq).trans x0, (hb.cell hgq).trans x1, (hb.cell hgq).trans x2, (hb.cell hgq).trans x3, (hb.cell hgq).trans x4, (hb.cell hgq).trans y0, (hb.cell hgq).trans y1, (hb.cell hgq).trans y2, (hb.cell hgq).trans y3, (hb.cell hgq).trans y4⟩
      have hrec : ∀ w' (x : List Value) (z : Nat), Below w1.heap.size w1 w' → (x = [.int .i64 a0, .int .i64 a1, .bool a2, .int .i64 a3, .slice A4 a5 a6] ∧ z = z0) ∨ (x = [.int .i64 b0, .int .i64 b1, .bool b2, .int .i64 b3, .slice B4 b5 b6] ∧ z = z1) → Calls Tryd.prog 48 #[.agg x.toArray, F1, F2] w' fun e w'' => e = .returned (.int .i64 (z : Nat)) ∧ (Below w1.heap.size w1 w'' ∧ w''.cell? ⟨q, 4, none⟩ = some (.slice (some ⟨g, o, none⟩) n cap) ∧ w''.cell? ⟨g, o, none⟩ = some (.int .i64 a0) ∧ w''.cell? ⟨g, o + 1, none⟩ = some (.int .i64 a1) ∧ w''.cell? ⟨g, o + 2, none⟩ = some (.bool a2) ∧ w''.cell? ⟨g, o + 3, none⟩ = some (.int .i64 a3) ∧ w''.cell? ⟨g, o + 4, none⟩ = some (.slice A4 a5 a6) ∧ w''.cell? ⟨g, o + 5, none⟩ = some (.int .i64 b0) ∧ w''.cell? ⟨g, o + 5 + 1, none⟩ = some (.int .i64 b1) ∧ w''.cell? ⟨g, o + 5 + 2, none⟩ = some (.bool b2) ∧ w''.cell? ⟨g, o + 5 + 3, none⟩ = some (.int .i64 b3) ∧ w''.cell? ⟨g, o + 5 + 4, none⟩ = some (.slice B4 b5 b6)) := fun w' x z hb hx => by
        rcases hx with ⟨rfl, rfl⟩ | ⟨rfl, rfl⟩
        · exact (hr0 w' (q0.later (hb.mono hB1)) (Nat.le_trans hB1 hb.size)).mono fun e w'' ⟨h1, h2⟩ => ⟨h1, keepS _ (below_next h2 hb)⟩
        · exact (hr1 w' (q1.later (hb.mono hB1)) (Nat.le_trans hB1 hb.size)).mono fun e w'' ⟨h1, h2⟩ => ⟨h1, keepS _ (below_next h2 hb)⟩
      have hd := keepS _ (below_drew (Below.refl _ _))
      clear x0 x1 x2 x3 x4 y0 y1 y2 y3 y4 c4' hr0 hr1 q0 q1
      refine wp_walk (by kernel_rfl) (by kernel_rfl) (fun _ _ => True) (fun w' => Below w1.heap.size w1 w' ∧ w'.cell? ⟨q, 4, none⟩ = some (.slice (some ⟨g, o, none⟩) n cap) ∧ w'.cell? ⟨g, o, none⟩ = some (.int .i64 a0) ∧ w'.cell? ⟨g, o + 1, none⟩ = some (.int .i64 a1) ∧ w'.cell? ⟨g, o + 2, none⟩ = some (.bool a2) ∧ w'.cell? ⟨g, o + 3, none⟩ = some (.int .i64 a3) ∧ w'.cell? ⟨g, o + 4, none⟩ = some (.slice A4 a5 a6) ∧ w'.cell? ⟨g, o + 5, none⟩ = some (.int .i64 b0) ∧ w'.cell? ⟨g, o + 5 + 1, none⟩ = some (.int .i64 b1) ∧ w'.cell? ⟨g, o + 5 + 2, none⟩ = some (.bool b2) ∧ w'.cell? ⟨g, o + 5 + 3, none⟩ = some (.int .i64 b3) ∧ w'.cell? ⟨g, o + 5 + 4, none⟩ = some (.slice B4 b5 b6)) hd ?_
      repeat (first | (refine settle_skip (fun _ => by rfl) ?_; (simp only [Act.put, List.setIfInBounds_toArray, List.set_cons_zero, List.set_cons_succ])) | (refine' settle_run (fun _ _ => trivial) (fun _ => by rfl) ?_ ?_; rotate_left; (focus (intro ρ w hS hF; (try dsimp only at hS); go_split_ands; go_simp; try with_reducible rfl)); (simp only [Act.put, List.setIfInBounds_toArray, List.set_cons_zero, List.set_cons_succ])) | (refine' settle_step (fun _ => by rfl) ?_ ?_; rotate_left; (focus (intro ρ w hS hF K hK; (simp only [Act.put, List.setIfInBounds_toArray, List.set_cons_zero, List.set_cons_succ] at hK); go_simp; first | (go_at_call 48; refine (hrec _ _ _ hS.1 (by first | exact .inl ⟨rfl, rfl⟩ | exact .inr ⟨rfl, rfl⟩)).mono ?_; rintro e w' ⟨rfl, hS'⟩; have hE' := True.intro; exact hK _ hS' hE'))); (simp only [Act.put, List.setIfInBounds_toArray, List.set_cons_zero, List.set_cons_succ])))
      refine settle_nil ?_
      intro ρ wS hS _
      have hbS := hS.1
      clear hrec keepS hd hS
      obtain rfl := HF1.out
      obtain rfl := HF2.out
      unfold seqF parF
      rcases m with _ | _
      · simp only [Bool.false_eq_true, if_false]
        go_wp2_with fail
        refine (hfin2 true false z0 z1 _ (by omega) (by decide)).mono ?_
        rintro e w2 ⟨rfl, rfl⟩
        go_wp2
        go_ret
        exact ⟨by rw [HZ.out]; rfl, below_self hbw hbS⟩
      · simp only [if_true]
        go_wp2_with fail
        refine (hfin true true z0 z1 _ (by omega) rfl).mono ?_
        rintro e w2 ⟨rfl, rfl⟩
        go_wp2
        go_ret
        exact ⟨by rw [HZ.out]; rfl, below_self hbw hbS⟩
end Go.Proofs.YtfjmhmfkhgjnhaaDoor


namespace Go.Proofs.YtfjmhmfkhgjnhaaDoor
set_option linter.unusedVariables false
set_option linter.unusedSimpArgs false
set_option maxRecDepth 100000
open Go.RowKit

theorem TmR.up {B B' : Nat} {w : World} {cs : List Value} {t : Sp.T} (h : TmR B w cs t) (hB : B ≤ B') : TmR B' w cs t := h.keep hB (fun _ _ => rfl)

theorem work_any (B : Nat) (w : World) (cs : List Value) (t : Sp.T) (hT : TmR B w cs t) (hB : B ≤ w.heap.size) (hn : t.size ≤ 4194304) :
    Calls Tryd.prog 19 #[.agg cs.toArray] w fun e w' => e = .returned (.int .i64 (t.size : Nat)) ∧ Below w.heap.size w w' := by
  obtain ⟨a0, a1, a2, a3, A4, a5, a6, rfl, -, -⟩ := hT.form
  have s1 := (hT.up hB).keep (B' := (w.alloc (.cells (tcells a0 a1 a2 a3 A4 a5 a6).toArray 44)).heap.size) (w' := (w.alloc (.cells (tcells a0 a1 a2 a3 A4 a5 a6).toArray 44))) (by simp) (fun p hp => World.cell?_alloc_lt w _ p hp)
  have hb0 : Below w.heap.size w (w.alloc (.cells (tcells a0 a1 a2 a3 A4 a5 a6).toArray 44)) := below_alloc (Below.refl _ _) _
  unfold tcells at s1 hb0 ⊢
  clear hT
  go_enter Tryd.func19, Tryd.ntmps19
  go_wp2_with fail
  refine (leaves_any _ _ t s1 hn).mono ?_
  rintro e w1 ⟨v, rfl, hs, hb⟩
  obtain ⟨A9, c9, rfl, h1, h2, h3, h4⟩ := hs
  unfold maxLen at h2
  clear h3 h4 s1
  go_wp2
  go_ret
  exact ⟨rfl, below_next hb hb0⟩

theorem span_any (B : Nat) (w : World) (cs : List Value) (t : Sp.T) (hT : TmR B w cs t) (hB : B ≤ w.heap.size) (hn : t.size ≤ 4194304) :
    Calls Tryd.prog 21 #[.agg cs.toArray] w fun e w' => e = .returned (.int .i64 (t.span : Nat)) ∧ Below w.heap.size w w' := by
  obtain ⟨a0, a1, a2, a3, A4, a5, a6, rfl, -, -⟩ := hT.form
  have s1 := hT.alloc hB (.cells (tcells a0 a1 a2 a3 A4 a5 a6).toArray 44)
  have hb0 : Below w.heap.size w (w.alloc (.cells (tcells a0 a1 a2 a3 A4 a5 a6).toArray 44)) := below_alloc (Below.refl _ _) _
  have hB1 : B ≤ (w.alloc (.cells (tcells a0 a1 a2 a3 A4 a5 a6).toArray 44)).heap.size := by simp; omega
  unfold tcells at s1 hb0 hB1 ⊢
  clear hT
  go_enter Tryd.func21, Tryd.ntmps21
  go_wp2_with fail
  refine (sum_any true t B _ _ s1 hB1 hn).mono ?_
  rintro e w1 ⟨rfl, hb⟩
  clear s1
  go_wp2
  go_ret
  exact ⟨rfl, below_next hb hb0⟩
end Go.Proofs.YtfjmhmfkhgjnhaaDoor


namespace Go.Proofs.YtfjmhmfkhgjnhaaDoor
set_option linter.unusedVariables false
set_option linter.unusedSimpArgs false
set_option maxRecDepth 100000
open Go.RowKit

def five : Sp.T := .two false (.two true (.one 1 false 0) (.one 2 false 0)) (.one 3 false 0)
theorem leaf_any (n : Int) (w : World) : Calls Tryd.prog 40 #[.int .i64 n] w fun e w' => e = .returned (.agg #[.int .i64 1, .int .i64 n, .bool false, .int .i64 0, .slice none 0 0]) ∧ Below w.heap.size w w' := by
  go_enter Tryd.func40, Tryd.ntmps40
  have hB0 := Blk.new w 44 [.int .i64 0, .int .i64 0, .bool false, .int .i64 0, .slice none 0 0]
  go_wp2_with (refine wpl_put_blk hB0 [.int .i64 1, .int .i64 n, .bool false, .int .i64 0, .slice none 0 0] (by kernel_rfl) rfl (by intro v hv; simp only [List.mem_cons, List.not_mem_nil, or_false] at hv; rcases hv with rfl | rfl | rfl | rfl | rfl <;> rfl) rfl rfl rfl rfl ?_; intro w2 hB2 hg2)
  have hb : Below w.heap.size w w2 := (below_alloc (Below.refl _ _) _).trans (below_of_grown hg2 (by simp) (Nat.le_refl _))
  exact ret_blk hB2 rfl rfl Tryd.underlying44 rfl (by kernel_rfl) rfl ⟨rfl, hb⟩

end Go.Proofs.YtfjmhmfkhgjnhaaDoor
