/-
  Sets that are disjoint, as a list of labels; what memory holds of them; and the laws.
-/
namespace Go.Proofs.Ytphbegadddamgaa.Uf
set_option linter.unusedVariables false
set_option linter.unusedSimpArgs false

structure Op where
  kind : Int
  i : Int
  j : Int

def lab (l : List Nat) (i : Int) : Nat := l.getD i.toNat 0
def inside (n : Nat) (i : Int) : Bool := decide (0 ≤ i) && decide (i < n)
def good (n : Nat) (o : Op) : Bool := inside n o.i && (o.kind == 3 || inside n o.j)
def merge (l : List Nat) (x y : Nat) : List Nat := l.map fun z => if z = y then x else z
def next (l : List Nat) (o : Op) : List Nat := if good l.length o && o.kind == 1 then merge l (lab l o.i) (lab l o.j) else l
def num (b : Bool) : Int := if b then 1 else 0
def ans (l : List Nat) (o : Op) : Int :=
  if good l.length o then
    if o.kind = 1 then num (lab l o.i != lab l o.j)
    else if o.kind = 2 then num (lab l o.i == lab l o.j)
    else if o.kind = 3 then (l.count (lab l o.i) : Nat)
    else -1
  else -1
def after (l : List Nat) (ops : List Op) : List Nat := ops.foldl next l
def answers : List Nat → List Op → List Int
  | _, [] => []
  | l, o :: ops => ans l o :: answers (next l o) ops
def start (n : Nat) : List Nat := List.range n

theorem merge_length (l : List Nat) (x y : Nat) : (merge l x y).length = l.length := by simp [merge]
theorem next_length (l : List Nat) (o : Op) : (next l o).length = l.length := by
  unfold next
  split
  · exact merge_length _ _ _
  · rfl
theorem after_length (l : List Nat) (ops : List Op) : (after l ops).length = l.length := by
  induction ops generalizing l with
  | nil => rfl
  | cons o ops ih => exact (ih (next l o)).trans (next_length l o)
theorem after_append (l : List Nat) (a b : List Op) : after l (a ++ b) = after (after l a) b := by simp [after]
theorem answers_append (l : List Nat) (a b : List Op) : answers l (a ++ b) = answers l a ++ answers (after l a) b := by
  induction a generalizing l with
  | nil => rfl
  | cons o a ih => simp [answers, after, ih]
theorem answers_length (l : List Nat) (a : List Op) : (answers l a).length = a.length := by
  induction a generalizing l with
  | nil => rfl
  | cons o a ih => simp [answers, ih]
theorem answers_take (l : List Nat) (ops : List Op) (k : Nat) (h : k < ops.length) : answers l (ops.take (k + 1)) = answers l (ops.take k) ++ [ans (after l (ops.take k)) ops[k]] := by
  rw [List.take_succ_eq_append_getElem h, answers_append]
  rfl
theorem after_take (l : List Nat) (ops : List Op) (k : Nat) (h : k < ops.length) : after l (ops.take (k + 1)) = next (after l (ops.take k)) ops[k] := by
  rw [List.take_succ_eq_append_getElem h, after_append]
  rfl

/-! ### how many sets -/
def heads (l : List Nat) : Nat := (List.range l.length).countP fun i => decide (l.getD i 0 ∉ l.take i)
theorem heads_snoc (l : List Nat) (z : Nat) : heads (l ++ [z]) = heads l + if z ∈ l then 0 else 1 := by
  unfold heads
  rw [List.length_append, List.length_singleton, List.range_succ, List.countP_append]
  congr 1
  · refine List.countP_congr fun i hi => ?_
    have hi' : i < l.length := List.mem_range.1 hi
    rw [List.take_append_of_le_length (by omega)]
    simp [List.getD, List.getElem?_append_left hi']
    exact decide_eq_true_iff.symm
  · simp [List.countP_cons, List.getD]
theorem mem_merge (l : List Nat) (x y z : Nat) : z ∈ merge l x y ↔ (z = x ∧ (x ∈ l ∨ y ∈ l)) ∨ (z ≠ x ∧ z ≠ y ∧ z ∈ l) := by
  unfold merge
  rw [List.mem_map]
  constructor
  · rintro ⟨a, ha, rfl⟩
    by_cases h : a = y
    · subst h
      exact .inl ⟨by simp, .inr ha⟩
    · simp only [h, if_false]
      by_cases hx : a = x
      · subst hx; exact .inl ⟨rfl, .inl ha⟩
      · exact .inr ⟨hx, h, ha⟩
  · rintro (⟨rfl, h | h⟩ | ⟨h1, h2, h3⟩)
    · exact ⟨z, h, by split <;> rfl⟩
    · exact ⟨y, h, by simp⟩
    · exact ⟨z, h3, by simp [h2]⟩
theorem heads_merge (l : List Nat) (x y : Nat) (hne : x ≠ y) : heads (merge l x y) + (if x ∈ l ∧ y ∈ l then 1 else 0) = heads l := by
  obtain ⟨r, rfl⟩ : ∃ r : List Nat, l = r.reverse := ⟨l.reverse, by simp⟩
  induction r with
  | nil => rfl
  | cons z r ih =>
    rw [List.reverse_cons]
    have e : merge (r.reverse ++ [z]) x y = merge r.reverse x y ++ [if z = y then x else z] := by simp [merge]
    rw [e, heads_snoc, heads_snoc]
    by_cases hzy : z = y
    · subst hzy
      simp only [if_true, mem_merge, List.mem_append, List.mem_singleton]
      by_cases hx : x ∈ r.reverse <;> by_cases hy : z ∈ r.reverse <;> simp [hx, hy, hne] at ih ⊢ <;> omega
    · by_cases hzx : z = x
      · subst hzx
        simp only [hzy, if_false, mem_merge, List.mem_append, List.mem_singleton]
        by_cases hx : z ∈ r.reverse <;> by_cases hy : y ∈ r.reverse <;> simp [hx, hy, Ne.symm hne] at ih ⊢ <;> omega
      · simp only [hzy, if_false, mem_merge, List.mem_append, List.mem_singleton]
        by_cases hx : x ∈ r.reverse <;> by_cases hy : y ∈ r.reverse <;> by_cases hz : z ∈ r.reverse <;> simp [hx, hy, hz, hzx, hzy, Ne.symm hzx, Ne.symm hzy] at ih ⊢ <;> omega

theorem lab_mem (l : List Nat) (i : Int) (h : inside l.length i = true) : lab l i ∈ l := by
  simp only [inside, Bool.and_eq_true, decide_eq_true_eq] at h
  unfold lab
  have h' : i.toNat < l.length := by omega
  rw [List.getD, List.getElem?_eq_getElem h']
  exact List.getElem_mem h'

/-- how many joins of two there were -/
def joins : List Nat → List Op → Nat
  | _, [] => 0
  | l, o :: ops => (if o.kind = 1 ∧ ans l o = 1 then 1 else 0) + joins (next l o) ops

theorem heads_next (l : List Nat) (o : Op) : heads (next l o) + (if o.kind = 1 ∧ ans l o = 1 then 1 else 0) = heads l := by
  unfold next ans
  cases hg : good l.length o
  · simp
  · by_cases hk : o.kind = 1
    · have hg' := hg
      simp only [good, hk, Bool.and_eq_true, Bool.or_eq_true, beq_iff_eq] at hg'
      have hi := lab_mem l o.i hg'.1
      have hj := lab_mem l o.j (hg'.2.resolve_left (by decide))
      simp only [hk, BEq.rfl, Bool.and_self, if_true, true_and]
      by_cases he : lab l o.i = lab l o.j
      · have : merge l (lab l o.i) (lab l o.j) = l := by
          unfold merge
          rw [he]
          conv => rhs; rw [← List.map_id l]
          refine List.map_congr_left fun z _ => ?_
          split
          · simp_all
          · rfl
        rw [this]
        simp [he, num]
      · have := heads_merge l _ _ he
        simp only [hi, hj, and_self, if_true] at this
        simp [num, he, this]
    · simp [hk]
theorem heads_after (l : List Nat) (ops : List Op) : heads (after l ops) + joins l ops = heads l := by
  induction ops generalizing l with
  | nil => simp [after, joins]
  | cons o ops ih =>
    have h1 := ih (next l o)
    have h2 := heads_next l o
    have e : after l (o :: ops) = after (next l o) ops := rfl
    rw [e, joins]
    omega
theorem heads_start (n : Nat) : heads (start n) = n := by
  induction n with
  | zero => rfl
  | succ n ih =>
    rw [start, List.range_succ, heads_snoc]
    have : heads (List.range n) = n := ih
    rw [this]
    simp
theorem joins_append (l : List Nat) (a b : List Op) : joins l (a ++ b) = joins l a + joins (after l a) b := by
  induction a generalizing l with
  | nil => simp [joins, after]
  | cons o a ih => simp [joins, after, ih]; omega
theorem joins_take (l : List Nat) (ops : List Op) (k : Nat) (h : k < ops.length) : joins l (ops.take (k + 1)) = joins l (ops.take k) + (if ops[k].kind = 1 ∧ ans (after l (ops.take k)) ops[k] = 1 then 1 else 0) := by
  rw [List.take_succ_eq_append_getElem h, joins_append]
  simp [joins]

/-! ### the order of joins -/
inductive Conn (R : Nat → Nat → Prop) : Nat → Nat → Prop
  | of {a b : Nat} : R a b → Conn R a b
  | refl (a : Nat) : Conn R a a
  | symm {a b : Nat} : Conn R a b → Conn R b a
  | trans {a b c : Nat} : Conn R a b → Conn R b c → Conn R a c
theorem Conn.mono {R S : Nat → Nat → Prop} (h : ∀ a b, R a b → Conn S a b) {a b : Nat} (k : Conn R a b) : Conn S a b := by
  induction k with
  | of h' => exact h _ _ h'
  | refl a => exact .refl a
  | symm _ ih => exact .symm ih
  | trans _ _ ih1 ih2 => exact .trans ih1 ih2

def pair (n : Nat) (o : Op) (a b : Nat) : Prop := good n o = true ∧ o.kind = 1 ∧ a = o.i.toNat ∧ b = o.j.toNat
def same (l : List Nat) (a b : Nat) : Prop := l.getD a 0 = l.getD b 0
theorem good_lt {n : Nat} {o : Op} (h : good n o = true) (hk : o.kind = 1) : o.i.toNat < n ∧ o.j.toNat < n := by
  simp only [good, inside, hk, Bool.and_eq_true, Bool.or_eq_true, decide_eq_true_eq, beq_iff_eq] at h
  have h2 : 0 ≤ o.j ∧ o.j < n := by
    rcases h.2 with h | h
    · exact absurd h (by decide)
    · exact h
  omega
theorem getD_merge (l : List Nat) (x y a : Nat) (ha : a < l.length) : (merge l x y).getD a 0 = if l.getD a 0 = y then x else l.getD a 0 := by
  simp [merge, List.getD, List.getElem?_map, List.getElem?_eq_getElem ha]

theorem same_next (l : List Nat) (o : Op) (a b : Nat) (ha : a < l.length) (hb : b < l.length) :
    same (next l o) a b ↔ Conn (fun x y => (x < l.length ∧ y < l.length ∧ same l x y) ∨ pair l.length o x y) a b := by
  constructor
  · intro h
    unfold next at h
    by_cases hg : (good l.length o && o.kind == 1) = true
    · rw [if_pos hg] at h
      simp only [Bool.and_eq_true, beq_iff_eq] at hg
      obtain ⟨hi, hj⟩ := good_lt hg.1 hg.2
      unfold same at h
      rw [getD_merge _ _ _ _ ha, getD_merge _ _ _ _ hb] at h
      have P : Conn (fun x y => (x < l.length ∧ y < l.length ∧ same l x y) ∨ pair l.length o x y) o.i.toNat o.j.toNat := .of (.inr ⟨hg.1, hg.2, rfl, rfl⟩)
      have S : ∀ c d, c < l.length → d < l.length → l.getD c 0 = l.getD d 0 → Conn (fun x y => (x < l.length ∧ y < l.length ∧ same l x y) ∨ pair l.length o x y) c d := fun c d hc hd he => .of (.inl ⟨hc, hd, he⟩)
      by_cases h1 : l.getD a 0 = lab l o.j <;> by_cases h2 : l.getD b 0 = lab l o.j
      · exact S a b ha hb (h1.trans h2.symm)
      · rw [if_pos h1, if_neg h2] at h
        exact .trans (S a o.j.toNat ha hj h1) (.trans (.symm P) (S _ b hi hb h))
      · rw [if_neg h1, if_pos h2] at h
        exact .trans (S a o.i.toNat ha hi h) (.trans P (S _ b hj hb h2.symm))
      · rw [if_neg h1, if_neg h2] at h
        exact S a b ha hb h
    · rw [if_neg hg] at h
      exact .of (.inl ⟨ha, hb, h⟩)
  · intro h
    have key : ∀ x y, Conn (fun x y => (x < l.length ∧ y < l.length ∧ same l x y) ∨ pair l.length o x y) x y → x = y ∨ (x < l.length ∧ y < l.length ∧ same (next l o) x y) := by
      intro x y h
      induction h with
      | of h =>
        rcases h with ⟨h1, h2, h3⟩ | ⟨h1, h2, rfl, rfl⟩
        · refine .inr ⟨h1, h2, ?_⟩
          unfold next
          split
          · unfold same
            rw [getD_merge _ _ _ _ h1, getD_merge _ _ _ _ h2, h3]
          · exact h3
        · obtain ⟨hi, hj⟩ := good_lt h1 h2
          refine .inr ⟨hi, hj, ?_⟩
          unfold next
          rw [if_pos (by simp [h1, h2])]
          unfold same
          rw [getD_merge _ _ _ _ hi, getD_merge _ _ _ _ hj]
          unfold lab
          simp
      | refl a => exact .inl rfl
      | symm _ ih =>
        rcases ih with rfl | ⟨h1, h2, h3⟩
        · exact .inl rfl
        · exact .inr ⟨h2, h1, h3.symm⟩
      | trans _ _ ih1 ih2 =>
        rcases ih1 with rfl | ⟨h1, h2, h3⟩
        · exact ih2
        · rcases ih2 with rfl | ⟨h4, h5, h6⟩
          · exact .inr ⟨h1, h2, h3⟩
          · exact .inr ⟨h1, h5, h3.trans h6⟩
    rcases key a b h with rfl | ⟨_, _, h⟩
    · rfl
    · exact h

theorem same_after (l : List Nat) (ops : List Op) (a b : Nat) (ha : a < l.length) (hb : b < l.length) :
    same (after l ops) a b ↔ Conn (fun x y => (x < l.length ∧ y < l.length ∧ same l x y) ∨ ∃ o ∈ ops, pair l.length o x y) a b := by
  induction ops generalizing l with
  | nil =>
    constructor
    · exact fun h => .of (.inl ⟨ha, hb, h⟩)
    · intro h
      have := (same_next l ⟨0, 0, 0⟩ a b ha hb).2 (h.mono fun x y h => by
        rcases h with h | ⟨o, ho, _⟩
        · exact .of (.inl h)
        · cases ho)
      have e : next l ⟨0, 0, 0⟩ = l := by unfold next; simp
      rwa [e] at this
  | cons o ops ih =>
    have e : after l (o :: ops) = after (next l o) ops := rfl
    have hl := next_length l o
    rw [e, ih (next l o) (by rw [hl]; exact ha) (by rw [hl]; exact hb), hl]
    constructor
    · refine Conn.mono fun x y h => ?_
      rcases h with ⟨h1, h2, h3⟩ | ⟨o', ho', h⟩
      · refine ((same_next l o x y h1 h2).1 h3).mono fun x y h => ?_
        rcases h with h | h
        · exact .of (.inl h)
        · exact .of (.inr ⟨o, by simp, h⟩)
      · exact .of (.inr ⟨o', by simp [ho'], h⟩)
    · refine Conn.mono fun x y h => ?_
      rcases h with ⟨h1, h2, h3⟩ | ⟨o', ho', h⟩
      · exact .of (.inl ⟨h1, h2, (same_next l o x y h1 h2).2 (.of (.inl ⟨h1, h2, h3⟩))⟩)
      · rcases List.mem_cons.1 ho' with rfl | ho'
        · have hx := h
          obtain ⟨g1, g2, rfl, rfl⟩ := hx
          obtain ⟨hi, hj⟩ := good_lt g1 g2
          exact .of (.inl ⟨hi, hj, (same_next l o' _ _ hi hj).2 (.of (.inr h))⟩)
        · exact .of (.inr ⟨o', ho', h⟩)

/-- the other way round: the last first, and of two the second first -/
def other (ops : List Op) : List Op := ops.reverse.map fun o => ⟨o.kind, o.j, o.i⟩
theorem good_swap {n : Nat} {k i j : Int} (hk : k = 1) (h : good n ⟨k, i, j⟩ = true) : good n ⟨k, j, i⟩ = true := by
  subst hk
  simp only [good, Bool.and_eq_true, Bool.or_eq_true, beq_iff_eq] at h ⊢
  rcases h with ⟨h1, h2 | h2⟩
  · exact absurd h2 (by decide)
  · exact ⟨h2, .inr h1⟩
theorem same_other (l : List Nat) (ops : List Op) (a b : Nat) (ha : a < l.length) (hb : b < l.length) : same (after l (other ops)) a b ↔ same (after l ops) a b := by
  rw [same_after l _ a b ha hb, same_after l _ a b ha hb]
  constructor
  · refine Conn.mono fun x y h => ?_
    rcases h with h | ⟨o, ho, h⟩
    · exact .of (.inl h)
    · obtain ⟨o', ho', rfl⟩ := List.mem_map.1 ho
      obtain ⟨h1, h2, h3, h4⟩ := h
      exact .symm (.of (.inr ⟨o', by simpa using ho', good_swap h2 h1, h2, h4, h3⟩))
  · refine Conn.mono fun x y h => ?_
    rcases h with h | ⟨o, ho, h⟩
    · exact .of (.inl h)
    · obtain ⟨h1, h2, h3, h4⟩ := h
      exact .symm (.of (.inr ⟨⟨o.kind, o.j, o.i⟩, List.mem_map.2 ⟨o, by simpa using ho, rfl⟩, good_swap h2 h1, h2, h4, h3⟩))
theorem ans_other (l : List Nat) (ops : List Op) (i j : Int) : ans (after l (other ops)) ⟨2, i, j⟩ = ans (after l ops) ⟨2, i, j⟩ := by
  unfold ans
  rw [after_length, after_length]
  cases hg : good l.length ⟨2, i, j⟩
  · rfl
  · simp only [if_true]
    simp only [good, inside, Bool.and_eq_true, Bool.or_eq_true, decide_eq_true_eq, beq_iff_eq] at hg
    have h2 : 0 ≤ j ∧ j < l.length := by
      rcases hg.2 with h | h
      · exact absurd h (by decide)
      · exact h
    have := same_other l ops i.toNat j.toNat (by omega) (by omega)
    unfold same at this
    have e : (lab (after l (other ops)) i == lab (after l (other ops)) j) = (lab (after l ops) i == lab (after l ops) j) := by
      rw [Bool.eq_iff_iff, beq_iff_eq, beq_iff_eq]
      exact this
    simp [e]
end Go.Proofs.Ytphbegadddamgaa.Uf
