/-
  Terms: the two numberings of their leaves, in plain lists; who is ahead; how many orders there are.
-/
import Derived.Test.YtajddbmmbhdnfaaSpLaw
namespace Go.Proofs.Ytajddbmmbhdnfaa.Sp
set_option linter.unusedVariables false
set_option linter.unusedSimpArgs false
set_option maxRecDepth 100000

def put {α : Type} (ps : List α) (a : Nat) (ms : List α) : List α := ps.take a ++ ms ++ ps.drop (a + ms.length)

theorem put_get {α : Type} (ps ms : List α) (a i : Nat) (h : a + ms.length ≤ ps.length) : (put ps a ms)[i]? = if i < a then ps[i]? else if i < a + ms.length then ms[i - a]? else ps[i]? := by
  unfold put
  have h1 : (ps.take a).length = a := by simp; omega
  by_cases h2 : i < a
  · rw [if_pos h2, List.append_assoc, List.getElem?_append_left (by omega), List.getElem?_take_of_lt h2]
  · rw [if_neg h2]
    by_cases h3 : i < a + ms.length
    · rw [if_pos h3, List.append_assoc, List.getElem?_append_right (by omega), h1, List.getElem?_append_left (by omega)]
    · rw [if_neg h3, List.getElem?_append_right (by simp; omega), List.getElem?_drop]
      congr 1; simp; omega
theorem put_length {α : Type} (ps ms : List α) (a : Nat) (h : a + ms.length ≤ ps.length) : (put ps a ms).length = ps.length := by
  unfold put; simp; omega
theorem put_nil {α : Type} (ps : List α) (a : Nat) : put ps a [] = ps := by simp [put]
theorem put_put {α : Type} (ps m1 m2 : List α) (a : Nat) (h : a + m1.length + m2.length ≤ ps.length) : put (put ps a m1) (a + m1.length) m2 = put ps a (m1 ++ m2) := by
  apply List.ext_getElem?
  intro i
  rw [put_get _ _ _ _ (by rw [put_length _ _ _ (by omega)]; omega), put_get _ _ _ _ (by omega), put_get _ _ _ _ (by simp; omega)]
  simp only [List.length_append]
  by_cases h1 : i < a
  · rw [if_pos h1, if_pos h1, if_pos (by omega)]
  · rw [if_neg h1, if_neg h1]
    by_cases h2 : i < a + m1.length
    · rw [if_pos h2, if_pos h2, if_pos (by omega), List.getElem?_append_left (by omega)]
    · rw [if_neg h2, if_neg h2]
      by_cases h3 : i < a + m1.length + m2.length
      · rw [if_pos h3, if_pos (by omega), List.getElem?_append_right (by omega)]
        congr 1; omega
      · rw [if_neg h3, if_neg (by omega)]
theorem put_back {α : Type} (ps m1 m2 : List α) (a : Nat) (h : a + m1.length + m2.length ≤ ps.length) : put (put ps (a + m1.length) m2) a m1 = put ps a (m1 ++ m2) := by
  apply List.ext_getElem?
  intro i
  rw [put_get _ _ _ _ (by rw [put_length _ _ _ (by omega)]; omega), put_get _ _ _ _ (by omega), put_get _ _ _ _ (by simp; omega)]
  simp only [List.length_append]
  by_cases h1 : i < a
  · rw [if_pos h1, if_pos h1, if_pos (by omega)]
  · rw [if_neg h1, if_neg h1]
    by_cases h2 : i < a + m1.length
    · rw [if_pos h2, if_pos (by omega), List.getElem?_append_left (by omega)]
    · rw [if_neg h2, if_neg h2]
      by_cases h3 : i < a + m1.length + m2.length
      · rw [if_pos h3, if_pos (by omega), List.getElem?_append_right (by omega)]
        congr 1; omega
      · rw [if_neg h3, if_neg (by omega)]
theorem put_all {α : Type} (ps ms : List α) (h : ms.length = ps.length) : put ps 0 ms = ms := by
  unfold put
  rw [List.take_zero, List.nil_append, List.drop_of_length_le (by omega), List.append_nil]
theorem put_one {α : Type} (ps : List α) (a : Nat) (x : α) (h : a < ps.length) : put ps a [x] = ps.set a x := by
  unfold put
  rw [List.set_eq_take_append_cons_drop, if_pos h]
  simp

def T.marks : T → Nat → Nat → List (Nat × Nat)
  | .nil, _, _ => []
  | .one _ _ _, a, j => [(a, j)]
  | .two par l r, a, j => l.marks a (if par then j + r.size else j) ++ r.marks (a + l.size) (if par then j else j + l.size)
theorem T.marks_length (t : T) : ∀ a j, (t.marks a j).length = t.size := by
  induction t with
  | nil => intro a j; rfl
  | one _ _ _ => intro a j; rfl
  | two p l r ihl ihr => intro a j; rw [T.size_two, T.marks, List.length_append, ihl, ihr]

/-- the place of leaf i in the second numbering -/
def T.rk : T → Nat → Nat
  | .nil, _ => 0
  | .one _ _ _, _ => 0
  | .two par l r, i => if i < l.size then l.rk i + (if par then r.size else 0) else r.rk (i - l.size) + (if par then 0 else l.size)
theorem T.rk_lt (t : T) : ∀ i, i < t.size → t.rk i < t.size := by
  induction t with
  | nil => intro i h; exact absurd h (Nat.not_lt_zero _)
  | one _ _ _ => intro i h; exact Nat.zero_lt_one
  | two p l r ihl ihr =>
    intro i h
    rw [T.size_two] at h ⊢
    unfold T.rk
    split
    · have := ihl i ‹_›; cases p <;> simp <;> omega
    · have := ihr (i - l.size) (by omega); cases p <;> simp <;> omega
theorem T.marks_get (t : T) : ∀ a j i, i < t.size → (t.marks a j)[i]? = some (a + i, j + t.rk i) := by
  induction t with
  | nil => intro a j i h; exact absurd h (Nat.not_lt_zero _)
  | one _ _ _ =>
    intro a j i h
    have : i = 0 := by have : i < 1 := h; omega
    subst this; rfl
  | two p l r ihl ihr =>
    intro a j i h
    rw [T.size_two] at h
    rw [T.marks, T.rk]
    by_cases h1 : i < l.size
    · rw [List.getElem?_append_left (by rw [T.marks_length]; exact h1), ihl _ _ _ h1, if_pos h1]
      cases p <;> simp <;> omega
    · rw [List.getElem?_append_right (by rw [T.marks_length]; omega), T.marks_length, ihr _ _ _ (by omega), if_neg h1]
      cases p <;> simp <;> omega
theorem T.rk_side (p : Bool) (l r : T) (i : Nat) (h : i < (T.two p l r).size) :
    (i < l.size ∧ (T.two p l r).rk i = l.rk i + (if p then r.size else 0) ∧ l.rk i < l.size) ∨ (l.size ≤ i ∧ i - l.size < r.size ∧ (T.two p l r).rk i = r.rk (i - l.size) + (if p then 0 else l.size) ∧ r.rk (i - l.size) < r.size) := by
  rw [T.size_two] at h
  by_cases h1 : i < l.size
  · exact .inl ⟨h1, by rw [T.rk, if_pos h1], l.rk_lt _ h1⟩
  · exact .inr ⟨by omega, by omega, by rw [T.rk, if_neg h1], r.rk_lt _ (by omega)⟩
theorem T.rk_inj (t : T) : ∀ i k, i < t.size → k < t.size → t.rk i = t.rk k → i = k := by
  induction t with
  | nil => intro i k h; exact absurd h (Nat.not_lt_zero _)
  | one _ _ _ => intro i k h h' _; have : i < 1 := h; have : k < 1 := h'; omega
  | two p l r ihl ihr =>
    intro i k h h' e
    rcases T.rk_side p l r i h with ⟨h1, h2, h3⟩ | ⟨h1, h0, h2, h3⟩ <;> rcases T.rk_side p l r k h' with ⟨k1, k2, k3⟩ | ⟨k1, k0, k2, k3⟩
    · exact ihl i k h1 k1 (by cases p <;> simp at h2 k2 <;> omega)
    · cases p <;> simp at h2 k2 <;> omega
    · cases p <;> simp at h2 k2 <;> omega
    · have := ihr _ _ h0 k0 (by cases p <;> simp at h2 k2 <;> omega)
      omega

/-- leaf i is ahead of leaf k -/
def T.bf (t : T) (i k : Nat) : Prop := i < k ∧ t.rk i < t.rk k
instance (t : T) (i k : Nat) : Decidable (t.bf i k) := inferInstanceAs (Decidable (_ ∧ _))
def T.apart (t : T) (i k : Nat) : Prop := i ≠ k ∧ ¬ t.bf i k ∧ ¬ t.bf k i
theorem T.no_n (t : T) : ∀ a b c d, a < t.size → b < t.size → c < t.size → d < t.size → t.bf a c → t.bf a d → t.bf b d → t.apart a b → t.apart c d → ¬ t.apart b c := by
  induction t with
  | nil => intro a b c d h; exact absurd h (Nat.not_lt_zero _)
  | one _ _ _ => intro a b c d h h1 h2 h3 h4; have : a < 1 := h; have : c < 1 := h2; have := h4.1; omega
  | two p l r ihl ihr =>
    intro a b c d ha hb hc hd h1 h2 h3 h4 h5 h6
    unfold T.apart T.bf at h4 h5 h6
    unfold T.bf at h1 h2 h3
    rcases T.rk_side p l r a ha with ⟨a1, a2, a3⟩ | ⟨a1, a0, a2, a3⟩ <;> rcases T.rk_side p l r b hb with ⟨b1, b2, b3⟩ | ⟨b1, b0, b2, b3⟩ <;>
    rcases T.rk_side p l r c hc with ⟨c1, c2, c3⟩ | ⟨c1, c0, c2, c3⟩ <;> rcases T.rk_side p l r d hd with ⟨d1, d2, d3⟩ | ⟨d1, d0, d2, d3⟩
    · exact ihl a b c d a1 b1 c1 d1 (by unfold T.bf; omega) (by unfold T.bf; omega) (by unfold T.bf; omega) (by unfold T.apart T.bf; omega) (by unfold T.apart T.bf; omega) (by unfold T.apart T.bf; omega)
    all_goals first
      | (exfalso; cases p <;> simp at a2 b2 c2 d2 <;> omega)
      | exact ihr (a - l.size) (b - l.size) (c - l.size) (d - l.size) a0 b0 c0 d0 (by unfold T.bf; omega) (by unfold T.bf; omega) (by unfold T.bf; omega) (by unfold T.apart T.bf; omega) (by unfold T.apart T.bf; omega) (by unfold T.apart T.bf; omega)

def T.before (t : T) (i j : Int) : Bool := decide ((0 ≤ i ∧ 0 ≤ j ∧ i < t.size ∧ j < t.size) ∧ t.bf i.toNat j.toNat)
theorem T.before_irr (t : T) (i : Int) : t.before i i = false := by
  unfold T.before T.bf; simp
theorem T.before_lt (t : T) (i j : Int) (h : t.before i j = true) : i < j := by
  unfold T.before T.bf at h; have := of_decide_eq_true h; omega
theorem T.before_trans (t : T) (i j k : Int) (h : t.before i j = true) (h' : t.before j k = true) : t.before i k = true := by
  unfold T.before T.bf at *
  have h1 := of_decide_eq_true h
  have h2 := of_decide_eq_true h'
  exact decide_eq_true (by omega)

/-! ### brackets -/
def T.same (s t : T) : Prop := s.leaves = t.leaves ∧ ∀ a j, s.marks a j = t.marks a j
theorem T.same_size {s t : T} (h : s.same t) : s.size = t.size := by unfold T.size; rw [h.1]
theorem T.same_rk {s t : T} (h : s.same t) (i : Nat) (hi : i < s.size) : s.rk i = t.rk i := by
  have h1 := s.marks_get 0 0 i hi
  rw [h.2, t.marks_get 0 0 i (by rw [← T.same_size h]; exact hi)] at h1
  injection h1 with h1
  injection h1 with _ h1
  omega
theorem T.same_before {s t : T} (h : s.same t) (i j : Int) : s.before i j = t.before i j := by
  have e := T.same_size h
  rw [Bool.eq_iff_iff]
  unfold T.before T.bf
  rw [decide_eq_true_iff, decide_eq_true_iff]
  constructor
  · rintro ⟨hb, h1, h2⟩
    rw [T.same_rk h _ (by omega), T.same_rk h _ (by omega)] at h2
    exact ⟨by omega, h1, h2⟩
  · rintro ⟨hb, h1, h2⟩
    rw [← T.same_rk h _ (by omega), ← T.same_rk h _ (by omega)] at h2
    exact ⟨by omega, h1, h2⟩
theorem T.same_joins (p : Bool) (a b c : T) : (T.two p (.two p a b) c).same (.two p a (.two p b c)) := by
  refine ⟨by simp [T.leaves], fun x j => ?_⟩
  simp only [T.marks, T.size_two]
  cases p <;> simp [Nat.add_assoc]
  rw [Nat.add_comm b.size]
theorem T.same_none (p : Bool) (a : T) : (T.two p (.two p .nil a) .nil).same a := by
  refine ⟨by simp [T.leaves], fun x j => ?_⟩
  simp only [T.marks, T.size_two]
  cases p <;> simp [T.size, T.leaves]

/-! ### orders -/
/-- in how many ways a things and b others are mixed -/
def ch : Nat → Nat → Nat
  | 0, _ => 1
  | _ + 1, 0 => 1
  | a + 1, b + 1 => ch a (b + 1) + ch (a + 1) b
def fac : Nat → Nat
  | 0 => 1
  | n + 1 => (n + 1) * fac n
theorem fac_pos : ∀ n, 0 < fac n
  | 0 => Nat.zero_lt_one
  | n + 1 => Nat.mul_pos (Nat.succ_pos _) (fac_pos n)
theorem ch_zero (a : Nat) : ch a 0 = 1 := by cases a <;> simp [ch]
theorem ch_fac : ∀ a b, ch a b * (fac a * fac b) = fac (a + b)
  | 0, b => by simp [ch, fac]
  | a + 1, 0 => by simp [ch, fac]
  | a + 1, b + 1 => by
    have h1 := ch_fac a (b + 1)
    have h2 := ch_fac (a + 1) b
    have e1 : a + (b + 1) = a + b + 1 := by omega
    have e2 : a + 1 + b = a + b + 1 := by omega
    have e3 : a + 1 + (b + 1) = a + b + 1 + 1 := by omega
    rw [e1] at h1
    rw [e2] at h2
    rw [ch, e3, Nat.add_mul]
    have i1 : ch a (b + 1) * (fac (a + 1) * fac (b + 1)) = (a + 1) * fac (a + b + 1) := by
      rw [← h1]; show _ * ((a + 1) * fac a * _) = _; simp only [Nat.mul_assoc, Nat.mul_left_comm, Nat.mul_comm]
    have i2 : ch (a + 1) b * (fac (a + 1) * fac (b + 1)) = (b + 1) * fac (a + b + 1) := by
      rw [← h2]; show _ * (_ * ((b + 1) * fac b)) = _; ac_rfl
    rw [i1, i2, ← Nat.add_mul]
    show _ = (a + b + 1 + 1) * fac (a + b + 1)
    congr 1 <;> omega
theorem ch_three (a b c : Nat) : ch (a + b) c * ch a b = ch a (b + c) * ch b c := by
  have h1 := ch_fac (a + b) c
  have h2 := ch_fac a b
  have h3 := ch_fac a (b + c)
  have h4 := ch_fac b c
  apply Nat.eq_of_mul_eq_mul_right (Nat.mul_pos (Nat.mul_pos (fac_pos a) (fac_pos b)) (fac_pos c))
  have i1 : ch (a + b) c * ch a b * (fac a * fac b * fac c) = fac (a + b + c) := by
    rw [← h1, ← h2]; ac_rfl
  have i2 : ch a (b + c) * ch b c * (fac a * fac b * fac c) = fac (a + b + c) := by
    rw [Nat.add_assoc, ← h3, ← h4]; ac_rfl
  rw [i1, i2]

def T.ways : T → Nat
  | .nil => 1
  | .one _ _ _ => 1
  | .two p l r => l.ways * r.ways * (if p then ch l.size r.size else 1)
theorem T.ways_joins (p : Bool) (a b c : T) : (T.two p (.two p a b) c).ways = (T.two p a (.two p b c)).ways := by
  simp only [T.ways, T.size_two]
  cases p
  · simp; ac_rfl
  · have := ch_three a.size b.size c.size
    simp only [if_true]
    calc _ = a.ways * b.ways * c.ways * (ch (a.size + b.size) c.size * ch a.size b.size) := by ac_rfl
      _ = _ := by rw [this]; ac_rfl
theorem T.ways_none (p : Bool) (a : T) : (T.two p (.two p .nil a) .nil).ways = a.ways := by
  have h0 : T.nil.size = 0 := rfl
  simp only [T.ways, T.size_two, h0]
  cases p <;> simp [ch_zero, ch]
end Go.Proofs.Ytajddbmmbhdnfaa.Sp
