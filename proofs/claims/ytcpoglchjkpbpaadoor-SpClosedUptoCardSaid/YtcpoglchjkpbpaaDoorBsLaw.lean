/-
  Sets of small numbers: words, in plain Lean. No program is named here.
-/
namespace Go.Proofs.YtcpoglchjkpbpaaDoor.Bs
set_option linter.unusedVariables false
set_option linter.unusedSimpArgs false
set_option maxRecDepth 100000

/-- the word at i; behind the end nought -/
def at_ (xs : List Nat) (i : Nat) : Nat := xs.getD i 0
/-- no noughts at the end -/
def trim : List Nat → List Nat
  | [] => []
  | x :: r => match trim r with | [] => if x = 0 then [] else [x] | y :: s => x :: y :: s
theorem trim_snoc_zero : ∀ l : List Nat, trim (l ++ [0]) = trim l
  | [] => rfl
  | x :: r => by rw [List.cons_append, trim, trim_snoc_zero r]; rfl
theorem trim_snoc (l : List Nat) (x : Nat) (hx : x ≠ 0) : trim (l ++ [x]) = l ++ [x] := by
  induction l with
  | nil => simp [trim, hx]
  | cons a l ih =>
    rw [List.cons_append, trim, ih]
    cases l <;> rfl
theorem trim_length : ∀ l : List Nat, (trim l).length ≤ l.length
  | [] => Nat.le_refl _
  | x :: r => by
    have := trim_length r
    unfold trim
    split
    · split <;> simp
    · rename_i h
      rw [h] at this
      simpa using this
theorem at_trim : ∀ (l : List Nat) (i : Nat), at_ (trim l) i = at_ l i
  | [], i => rfl
  | x :: r, i => by
    have ih := at_trim r
    unfold trim
    split
    · rename_i h
      have h0 : ∀ j, at_ r j = 0 := fun j => by rw [← ih, h]; simp [at_]
      rcases i with _ | i
      · split
        · rename_i hx; simp [at_, hx]
        · simp [at_]
      · have := h0 i
        split
        · simpa [at_] using this.symm
        · simpa [at_] using this.symm
    · rename_i y s h
      rcases i with _ | i
      · simp [at_]
      · have := ih i
        rw [h] at this
        simpa [at_] using this
/-- trimmed -/
def Tr (l : List Nat) : Prop := trim l = l
theorem tr_trim : ∀ l : List Nat, Tr (trim l)
  | [] => rfl
  | x :: r => by
    have ih : trim (trim r) = trim r := tr_trim r
    show trim (trim (x :: r)) = trim (x :: r)
    rcases h : trim r with _ | ⟨y, s⟩
    · have e : trim (x :: r) = if x = 0 then [] else [x] := by rw [trim, h]
      rw [e]
      split
      · rfl
      · rename_i hx; simp [trim, hx]
    · have e : trim (x :: r) = x :: y :: s := by rw [trim, h]
      rw [e, trim]
      rw [h] at ih
      rw [ih]
theorem tr_all_zero {l : List Nat} (h : Tr l) (h0 : ∀ i, at_ l i = 0) : l = [] := by
  induction l with
  | nil => rfl
  | cons x r ih =>
    have hr : Tr r := by
      unfold Tr at *
      unfold trim at h
      split at h
      · split at h
        · cases h
        · injection h with _ h; rw [← h]; rfl
      · rename_i y s h'
        injection h with _ h
        rw [h', h]
    have := ih hr (fun i => by simpa [at_] using h0 (i + 1))
    subst this
    have hx : x = 0 := by simpa [at_] using h0 0
    unfold Tr at h
    simp [trim, hx] at h
theorem tr_ext : ∀ {l m : List Nat}, Tr l → Tr m → (∀ i, at_ l i = at_ m i) → l = m := by
  have tl : ∀ {x : Nat} {r : List Nat}, Tr (x :: r) → Tr r := fun {x r} h => by
    unfold Tr at *
    unfold trim at h
    split at h
    · split at h
      · cases h
      · injection h with _ h; rw [← h]; rfl
    · rename_i y s h'
      injection h with _ h
      rw [h', h]
  intro l
  induction l with
  | nil => exact fun {m} _ hm h => (tr_all_zero hm (fun i => by rw [← h]; simp [at_])).symm
  | cons x r ih =>
    intro m hl hm h
    cases m with
    | nil => exact tr_all_zero hl (fun i => by rw [h]; simp [at_])
    | cons y s =>
      have := ih (tl hl) (tl hm) (fun i => by simpa [at_] using h (i + 1))
      have hx : x = y := by simpa [at_] using h 0
      rw [this, hx]

/-- word by word -/
def zip (f : Nat → Nat → Nat) (xs ys : List Nat) : List Nat := (List.range (max xs.length ys.length)).map fun i => f (at_ xs i) (at_ ys i)
theorem zip_length (f : Nat → Nat → Nat) (xs ys : List Nat) : (zip f xs ys).length = max xs.length ys.length := by simp [zip]
theorem at_far {l : List Nat} {i : Nat} (h : l.length ≤ i) : at_ l i = 0 := by
  unfold at_
  rw [List.getD_eq_getElem?_getD, List.getElem?_eq_none h]
  rfl
theorem at_zip (f : Nat → Nat → Nat) (hf : f 0 0 = 0) (xs ys : List Nat) (i : Nat) : at_ (zip f xs ys) i = f (at_ xs i) (at_ ys i) := by
  by_cases h : i < max xs.length ys.length
  · unfold zip
    rw [at_, List.getD_eq_getElem?_getD, List.getElem?_map, List.getElem?_range h]
    rfl
  · have h1 : xs.length ≤ i := by omega
    have h2 : ys.length ≤ i := by omega
    rw [at_far h1, at_far h2, hf]
    exact at_far (by rw [zip_length]; omega)
def op (f : Nat → Nat → Nat) (xs ys : List Nat) : List Nat := trim (zip f xs ys)
theorem at_op (f : Nat → Nat → Nat) (hf : f 0 0 = 0) (xs ys : List Nat) (i : Nat) : at_ (op f xs ys) i = f (at_ xs i) (at_ ys i) := by rw [op, at_trim, at_zip f hf]
theorem tr_op (f : Nat → Nat → Nat) (xs ys : List Nat) : Tr (op f xs ys) := tr_trim _
theorem op_length (f : Nat → Nat → Nat) (xs ys : List Nat) : (op f xs ys).length ≤ max xs.length ys.length := by
  have := trim_length (zip f xs ys)
  rw [zip_length] at this
  exact this

def Ws (l : List Nat) : Prop := ∀ x ∈ l, x < 18446744073709551616
theorem Ws.at_ {l : List Nat} (h : Ws l) (i : Nat) : Bs.at_ l i < 18446744073709551616 := by
  unfold Bs.at_
  rw [List.getD_eq_getElem?_getD]
  rcases hx : l[i]? with _ | x
  · decide
  · exact h x (List.mem_of_getElem? hx)
theorem mem_trim : ∀ {l : List Nat} {x : Nat}, x ∈ trim l → x ∈ l
  | y :: r, x, h => by
    have ih := @mem_trim r x
    unfold trim at h
    split at h
    · split at h
      · cases h
      · have : x = y := by simpa using h
        rw [this]; exact List.mem_cons_self
    · rename_i z s h'
      rcases List.mem_cons.1 h with rfl | h
      · exact List.mem_cons_self
      · exact List.mem_cons_of_mem _ (ih (by rw [h']; exact h))
def fand (a b : Nat) : Nat := a &&& b
def for_ (a b : Nat) : Nat := a ||| b
/-- a without b -/
def fless (a b : Nat) : Nat := a &&& (18446744073709551615 - b)
theorem fand_lt {a b : Nat} (ha : a < 18446744073709551616) : fand a b < 18446744073709551616 := Nat.lt_of_le_of_lt Nat.and_le_left ha
theorem for_lt {a b : Nat} (ha : a < 18446744073709551616) (hb : b < 18446744073709551616) : for_ a b < 18446744073709551616 := Nat.or_lt_two_pow (n := 64) ha hb
theorem fless_lt {a b : Nat} (ha : a < 18446744073709551616) : fless a b < 18446744073709551616 := Nat.lt_of_le_of_lt Nat.and_le_left ha
theorem Ws.op {f : Nat → Nat → Nat} (hf : ∀ a b, a < 18446744073709551616 → b < 18446744073709551616 → f a b < 18446744073709551616) {xs ys : List Nat} (hx : Ws xs) (hy : Ws ys) : Ws (op f xs ys) := fun x h => by
  have h := mem_trim h
  obtain ⟨i, -, rfl⟩ := List.mem_map.1 h
  exact hf _ _ (hx.at_ i) (hy.at_ i)
end Go.Proofs.YtcpoglchjkpbpaaDoor.Bs
