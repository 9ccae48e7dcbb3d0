/-
  A queue with two ends, as a list, its top first; its ring; and the laws.
-/
namespace Go.Proofs.Ytajddbmmbhdnfaa.Deq
set_option linter.unusedVariables false
set_option linter.unusedSimpArgs false
set_option maxRecDepth 100000

structure Op where
  kind : Int
  n : Int

abbrev Ans := Int × Int

def next (l : List Int) (o : Op) : List Int :=
  if o.kind = 1 then l ++ [o.n] else if o.kind = 2 then l.dropLast else if o.kind = 3 then l.tail else l

def ans (l : List Int) (o : Op) : Ans :=
  if o.kind = 1 then (0, 0)
  else if o.kind = 2 then (match l.getLast? with | some x => (0, x) | none => (7, 0))
  else if o.kind = 3 then (match l.head? with | some x => (0, x) | none => (7, 0))
  else (9, 0)

def after (l : List Int) (ops : List Op) : List Int := ops.foldl next l

def answers : List Int → List Op → List Ans
  | _, [] => []
  | l, o :: ops => ans l o :: answers (next l o) ops

theorem after_append (l : List Int) (a b : List Op) : after l (a ++ b) = after (after l a) b := by simp [after]
theorem answers_append (l : List Int) (a b : List Op) : answers l (a ++ b) = answers l a ++ answers (after l a) b := by
  induction a generalizing l with
  | nil => rfl
  | cons o a ih => simp [answers, after, ih]
theorem answers_length (l : List Int) (a : List Op) : (answers l a).length = a.length := by
  induction a generalizing l with
  | nil => rfl
  | cons o a ih => simp [answers, ih]
theorem answers_take (l : List Int) (ops : List Op) (k : Nat) (h : k < ops.length) : answers l (ops.take (k + 1)) = answers l (ops.take k) ++ [ans (after l (ops.take k)) ops[k]] := by
  rw [List.take_succ_eq_append_getElem h, answers_append]
  rfl
theorem after_take (l : List Int) (ops : List Op) (k : Nat) (h : k < ops.length) : after l (ops.take (k + 1)) = next (after l (ops.take k)) ops[k] := by
  rw [List.take_succ_eq_append_getElem h, after_append]
  rfl
theorem after_length (l : List Int) (ops : List Op) : (after l ops).length ≤ l.length + ops.length := by
  induction ops generalizing l with
  | nil => simp [after]
  | cons o ops ih =>
    have h1 := ih (next l o)
    have h2 : (next l o).length ≤ l.length + 1 := by
      unfold next
      split
      · simp
      · split
        · simp; omega
        · split
          · simp; omega
          · omega
    have e : after l (o :: ops) = after (next l o) ops := rfl
    rw [e, List.length_cons]
    omega

/-! ### the ring -/
def ringed (ring : List Int) (top : Nat) (l : List Int) : Prop :=
  l.length ≤ ring.length ∧ (0 < ring.length → top < ring.length) ∧ ∀ i, i < l.length → ring[(top + i) % ring.length]? = l[i]?

theorem ring_nil : ringed [] 0 [] := ⟨Nat.le_refl _, fun h => by simp at h, fun i hi => by simp at hi⟩

theorem mod_inj {n a i j : Nat} (hi : i < n) (hj : j < n) (h : (a + i) % n = (a + j) % n) : i = j := by
  have h1 := Nat.div_add_mod (a + i) n
  have h2 := Nat.div_add_mod (a + j) n
  rw [h] at h1
  rcases Nat.lt_trichotomy ((a + i) / n) ((a + j) / n) with hlt | he | hgt
  · have : n * ((a + i) / n) + n ≤ n * ((a + j) / n) := by
      have := Nat.mul_le_mul_left n hlt
      rwa [Nat.mul_succ] at this
    omega
  · rw [he] at h1; omega
  · have : n * ((a + j) / n) + n ≤ n * ((a + i) / n) := by
      have := Nat.mul_le_mul_left n hgt
      rwa [Nat.mul_succ] at this
    omega

/-- a thing is laid at the bottom, where there is room -/
theorem ring_push {ring : List Int} {top : Nat} {l : List Int} (h : ringed ring top l) (hr : l.length < ring.length) (x : Int) : ringed (ring.set ((top + l.length) % ring.length) x) top (l ++ [x]) := by
  obtain ⟨h1, h2, h3⟩ := h
  have hm : (top + l.length) % ring.length < ring.length := Nat.mod_lt _ (by omega)
  refine ⟨by simp; omega, by simpa using h2, fun i hi => ?_⟩
  rw [List.length_set]
  simp only [List.length_append, List.length_singleton] at hi
  by_cases hil : i = l.length
  · subst hil
    rw [List.getElem?_set_self hm]
    simp
  · rw [List.getElem?_set_ne (fun e => hil (mod_inj (by omega) (by omega) e.symm)), List.getElem?_append_left (by omega)]
    exact h3 i (by omega)

theorem ring_pop {ring : List Int} {top : Nat} {l : List Int} (h : ringed ring top l) : ringed ring top l.dropLast := by
  obtain ⟨h1, h2, h3⟩ := h
  refine ⟨by simp; omega, h2, fun i hi => ?_⟩
  simp only [List.length_dropLast] at hi
  rw [h3 i (by omega), List.getElem?_dropLast, if_pos hi]

theorem ring_steal {ring : List Int} {top : Nat} {l : List Int} (h : ringed ring top l) (h0 : 0 < l.length) : ringed ring ((top + 1) % ring.length) l.tail := by
  obtain ⟨h1, h2, h3⟩ := h
  refine ⟨by simp; omega, fun _ => Nat.mod_lt _ (by omega), fun i hi => ?_⟩
  simp only [List.length_tail] at hi
  rw [Nat.mod_add_mod, show top + 1 + i = top + (i + 1) by omega, h3 (i + 1) (by omega), List.getElem?_tail]

/-- the things go over into a larger ring -/
def moved (n : Nat) (l : List Int) (k : Nat) : List Int := l.take k ++ List.replicate (n - k) 0
theorem moved_zero (n : Nat) (l : List Int) : moved n l 0 = List.replicate n 0 := by simp [moved]
theorem moved_length (n : Nat) (l : List Int) (k : Nat) (hk : k ≤ n) (hl : k ≤ l.length) : (moved n l k).length = n := by simp [moved]; omega
theorem moved_get (n : Nat) (l : List Int) (k : Nat) (hk : k < n) (hl : k ≤ l.length) : (moved n l k)[k]? = some 0 := by
  unfold moved
  obtain ⟨m, hm⟩ : ∃ m, n - k = m + 1 := ⟨n - k - 1, by omega⟩
  rw [List.getElem?_append_right (by simp; omega), hm]
  simp [List.replicate_succ, Nat.min_eq_left hl]
theorem moved_set (n : Nat) (l : List Int) (k : Nat) (x : Int) (hk : k < n) (hx : l[k]? = some x) : (moved n l k).set k x = moved n l (k + 1) := by
  have hl : k < l.length := (List.getElem?_eq_some_iff.1 hx).1
  unfold moved
  obtain ⟨m, hm⟩ : ∃ m, n - k = m + 1 := ⟨n - k - 1, by omega⟩
  rw [hm, show n - (k + 1) = m by omega, List.set_append_right _ _ (by simp; omega)]
  have e : l.take (k + 1) = l.take k ++ [x] := by
    obtain ⟨h', rfl⟩ := List.getElem?_eq_some_iff.1 hx
    exact List.take_succ_eq_append_getElem h'
  rw [e]
  simp [List.replicate_succ, Nat.min_eq_left (Nat.le_of_lt hl)]
theorem ring_moved (n : Nat) (l : List Int) (h : l.length < n) : ringed (moved n l l.length) 0 l := by
  have hl := moved_length n l l.length (by omega) (Nat.le_refl _)
  refine ⟨by omega, fun _ => by omega, fun i hi => ?_⟩
  rw [hl, Nat.zero_add, Nat.mod_eq_of_lt (by omega)]
  unfold moved
  rw [List.take_length, List.getElem?_append_left hi]

/-! ### the laws -/
def pushes (l : List Int) : List Op := l.map fun x => ⟨1, x⟩
def steals (k : Nat) : List Op := List.replicate k ⟨3, 0⟩
def pops (k : Nat) : List Op := List.replicate k ⟨2, 0⟩

theorem after_pushes (l m : List Int) : after l (pushes m) = l ++ m := by
  induction m generalizing l with
  | nil => simp [pushes, after]
  | cons x m ih =>
    have e : after l (pushes (x :: m)) = after (l ++ [x]) (pushes m) := by simp [pushes, after, next]
    rw [e, ih]
    simp

theorem steals_all (l : List Int) : after l (steals l.length) = [] ∧ (answers l (steals l.length)).map (·.2) = l := by
  induction l with
  | nil => exact ⟨rfl, rfl⟩
  | cons x l ih =>
    have e : steals (x :: l).length = ⟨3, 0⟩ :: steals l.length := by simp [steals, List.replicate_succ]
    rw [e]
    refine ⟨ih.1, ?_⟩
    have := ih.2
    simp only [answers, List.map_cons]
    have e1 : next (x :: l) ⟨3, 0⟩ = l := rfl
    have e2 : (ans (x :: l) ⟨3, 0⟩).2 = x := rfl
    rw [e1, e2, this]

theorem pops_all (l : List Int) : after l (pops l.length) = [] ∧ (answers l (pops l.length)).map (·.2) = l.reverse := by
  obtain ⟨n, hn⟩ : ∃ n, n = l.length := ⟨_, rfl⟩
  rw [← hn]
  induction n generalizing l with
  | zero =>
    have : l = [] := List.eq_nil_of_length_eq_zero hn.symm
    subst this
    exact ⟨rfl, rfl⟩
  | succ n ih =>
    have hne : l ≠ [] := by intro h; subst h; simp at hn
    have e : pops (n + 1) = ⟨2, 0⟩ :: pops n := by simp [pops, List.replicate_succ]
    obtain ⟨h1, h2⟩ := ih l.dropLast (by simp; omega)
    have e1 : next l ⟨2, 0⟩ = l.dropLast := rfl
    rw [e]
    refine ⟨h1, ?_⟩
    simp only [answers, List.map_cons]
    rw [e1, h2]
    have e2 : (ans l ⟨2, 0⟩).2 = l.getLast hne := by
      show (match l.getLast? with | some x => ((0 : Int), x) | none => (7, 0)).2 = _
      rw [List.getLast?_eq_some_getLast hne]
    rw [e2]
    conv => rhs; rw [← List.dropLast_concat_getLast hne]
    simp

/-- both ends do not meet -/
theorem two_law (l : List Int) (h : 2 ≤ l.length) :
    ans l ⟨3, 0⟩ = ans (next l ⟨2, 0⟩) ⟨3, 0⟩ ∧ ans (next l ⟨3, 0⟩) ⟨2, 0⟩ = ans l ⟨2, 0⟩ ∧ next (next l ⟨3, 0⟩) ⟨2, 0⟩ = next (next l ⟨2, 0⟩) ⟨3, 0⟩ := by
  match l, h with
  | x :: y :: l, _ =>
    refine ⟨rfl, ?_, ?_⟩
    · show (match (y :: l).getLast? with | some x => ((0 : Int), x) | none => (7, 0)) = (match (x :: y :: l).getLast? with | some x => ((0 : Int), x) | none => (7, 0))
      simp [List.getLast?_cons_cons]
    · show (y :: l).dropLast = ((x :: y :: l).dropLast).tail
      simp [List.dropLast_cons_cons]
end Go.Proofs.Ytajddbmmbhdnfaa.Deq
