/-
  Parties that wait for each other: the machine, and its laws, in plain lists.
-/
namespace Go.Proofs.Ytphbegadddamgaa.Pha
set_option linter.unusedVariables false
set_option linter.unusedSimpArgs false

structure St where
  inn : List Bool
  here : List Bool
  phase : Int

structure Op where
  kind : Int
  who : Int
  by_ : Int

abbrev Ans := Int × Int

def no16 : List Bool := List.replicate 16 false
def start : St := ⟨no16.set 0 true, no16, 0⟩

def known (n : Int) : Bool := decide (0 ≤ n) && decide (n < 16)
def at_ (l : List Bool) (n : Int) : Bool := l.getD n.toNat false

def free (p : St) (n : Int) : Int := if !known n || !at_ p.inn n then 7 else if at_ p.here n then 8 else 0

def full (p : St) : Bool := p.inn == p.here && p.inn != no16

def turn (p : St) : St := if full p then ⟨p.inn, no16, p.phase + 1⟩ else p

def who (o : Op) : Int := if o.kind = 1 then o.by_ else o.who

/-- why not -/
def err (p : St) (o : Op) : Int :=
  let e := free p (who o)
  if e = 0 ∧ o.kind = 1 ∧ (!known o.who || at_ p.inn o.who) = true then 2 else e

def act (p : St) (o : Op) : St :=
  if o.kind = 1 then { p with inn := p.inn.set o.who.toNat true }
  else if o.kind = 2 then turn { p with here := p.here.set o.who.toNat true }
  else if o.kind = 3 then turn { p with inn := p.inn.set o.who.toNat false }
  else p

def good (p : St) (o : Op) : Bool := decide (1 ≤ o.kind) && decide (o.kind ≤ 4) && err p o == 0

def next (p : St) (o : Op) : St := if good p o then act p o else p

def ans (p : St) (o : Op) : Ans :=
  if o.kind < 1 ∨ 4 < o.kind then (9, 0)
  else if o.kind = 4 ∧ err p o = 8 then (8, p.phase)
  else if err p o ≠ 0 then (err p o, 0)
  else (0, (act p o).phase)

def after (p : St) (ops : List Op) : St := ops.foldl next p

def answers : St → List Op → List Ans
  | _, [] => []
  | p, o :: ops => ans p o :: answers (next p o) ops

def play (ops : List Op) : List Ans := answers start ops

theorem after_append (p : St) (a b : List Op) : after p (a ++ b) = after (after p a) b := by simp [after]
theorem answers_append (p : St) (a b : List Op) : answers p (a ++ b) = answers p a ++ answers (after p a) b := by
  induction a generalizing p with
  | nil => rfl
  | cons o a ih => simp [answers, after, ih]
theorem answers_length (p : St) (a : List Op) : (answers p a).length = a.length := by
  induction a generalizing p with
  | nil => rfl
  | cons o a ih => simp [answers, ih]
theorem play_take (ops : List Op) (k : Nat) (h : k < ops.length) : play (ops.take (k + 1)) = play (ops.take k) ++ [ans (after start (ops.take k)) ops[k]] := by
  rw [List.take_succ_eq_append_getElem h, play, answers_append]
  rfl
theorem after_take (ops : List Op) (k : Nat) (h : k < ops.length) : after start (ops.take (k + 1)) = next (after start (ops.take k)) ops[k] := by
  rw [List.take_succ_eq_append_getElem h, after_append]
  rfl

/-! ### what always holds -/
structure Ok (p : St) : Prop where
  l1 : p.inn.length = 16
  l2 : p.here.length = 16
  sub : ∀ i, p.here.getD i false = true → p.inn.getD i false = true
  nf : full p = false

theorem getD_set_eq (l : List Bool) (i : Nat) (b : Bool) (h : i < l.length) : (l.set i b).getD i false = b := by
  simp [List.getD, h]
theorem getD_set_ne (l : List Bool) (i j : Nat) (b : Bool) (h : j ≠ i) : (l.set i b).getD j false = l.getD j false := by
  simp only [List.getD]
  rw [List.getElem?_set_ne (fun e => h e.symm)]
theorem getD_no16 (i : Nat) : no16.getD i false = false := by
  simp only [no16, List.getD, List.getElem?_replicate]
  split <;> rfl

theorem ext16 {a b : List Bool} (h : a.length = b.length) (he : ∀ i, a.getD i false = b.getD i false) : a = b := by
  apply List.ext_getElem h
  intro i h1 h2
  have := he i
  simpa [List.getD, List.getElem?_eq_getElem h1, List.getElem?_eq_getElem h2] using this

theorem full_iff (p : St) : full p = true ↔ p.inn = p.here ∧ p.inn ≠ no16 := by simp [full]

theorem ok_start : Ok start := ⟨rfl, rfl, fun i h => (by rw [show start.here = no16 from rfl, getD_no16] at h; cases h), by decide⟩

theorem turn_ok {p : St} (h1 : p.inn.length = 16) (h2 : p.here.length = 16) (hs : ∀ i, p.here.getD i false = true → p.inn.getD i false = true) : Ok (turn p) := by
  unfold turn
  by_cases hf : full p = true
  · rw [if_pos hf]
    refine ⟨h1, rfl, fun i h => (by rw [getD_no16] at h; cases h), ?_⟩
    have hne := ((full_iff p).1 hf).2
    rw [Bool.eq_false_iff]
    intro hf'
    exact hne ((full_iff _).1 hf').1
  · rw [if_neg hf]
    exact ⟨h1, h2, hs, by simpa using hf⟩

theorem good_iff (p : St) (o : Op) : good p o = true ↔ 1 ≤ o.kind ∧ o.kind ≤ 4 ∧ err p o = 0 := by simp [good, and_assoc]

theorem free_zero {p : St} {n : Int} (h : free p n = 0) : known n = true ∧ at_ p.inn n = true ∧ at_ p.here n = false := by
  unfold free at h
  split at h
  · simp at h
  · rename_i h1
    simp only [Bool.or_eq_true, Bool.not_eq_true', not_or, Bool.not_eq_false] at h1
    split at h
    · simp at h
    · rename_i h2
      exact ⟨h1.1, h1.2, by simpa using h2⟩

theorem err_zero {p : St} {o : Op} (h : err p o = 0) : free p (who o) = 0 ∧ (o.kind = 1 → known o.who = true ∧ at_ p.inn o.who = false) := by
  unfold err at h
  simp only at h
  split at h
  · simp at h
  · rename_i h1
    refine ⟨h, fun hk => ?_⟩
    have : ¬ (!known o.who || at_ p.inn o.who) = true := fun hc => h1 ⟨h, hk, hc⟩
    simpa using this

theorem known_iff {n : Int} : known n = true ↔ 0 ≤ n ∧ n < 16 := by simp [known]

theorem next_ok {p : St} (h : Ok p) (o : Op) : Ok (next p o) := by
  unfold next
  by_cases hg : good p o = true
  · rw [if_pos hg]
    obtain ⟨hk1, hk2, he⟩ := (good_iff p o).1 hg
    obtain ⟨hf, hj⟩ := err_zero he
    obtain ⟨hw1, hw2, hw3⟩ := free_zero hf
    unfold act
    split
    · rename_i hk
      obtain ⟨hj1, hj2⟩ := hj hk
      have hwl : o.who.toNat < p.inn.length := by have := known_iff.1 hj1; have := h.l1; omega
      refine ⟨by simpa using h.l1, h.l2, fun i hi => ?_, ?_⟩
      · by_cases hne : i = o.who.toNat
        · subst hne; exact getD_set_eq _ _ _ hwl
        · rw [getD_set_ne _ _ _ _ hne]; exact h.sub i hi
      · rw [Bool.eq_false_iff]
        intro hfull
        have e := ((full_iff _).1 hfull).1
        simp only at e
        have h1 : (p.inn.set o.who.toNat true).getD o.who.toNat false = true := getD_set_eq _ _ _ hwl
        rw [e] at h1
        have := h.sub _ h1
        unfold at_ at hj2
        rw [this] at hj2
        cases hj2
    · split
      · rename_i hk1 hk2
        have hwho : who o = o.who := by simp [who, hk1]
        rw [hwho] at hw1 hw2 hw3
        refine turn_ok h.l1 (by simpa using h.l2) fun i hi => ?_
        by_cases hne : i = o.who.toNat
        · subst hne; exact hw2
        · simp only at hi ⊢
          rw [getD_set_ne _ _ _ _ hne] at hi
          exact h.sub i hi
      · split
        · rename_i hk1 hk2 hk3
          have hwho : who o = o.who := by simp [who, hk1]
          rw [hwho] at hw1 hw2 hw3
          refine turn_ok (by simpa using h.l1) h.l2 fun i hi => ?_
          by_cases hne : i = o.who.toNat
          · subst hne
            unfold at_ at hw3
            rw [hw3] at hi
            cases hi
          · simp only at hi ⊢
            rw [getD_set_ne _ _ _ _ hne]
            exact h.sub i hi
        · exact h
  · rw [if_neg hg]; exact h

theorem after_ok {p : St} (h : Ok p) (ops : List Op) : Ok (after p ops) := by
  induction ops generalizing p with
  | nil => exact h
  | cons o ops ih => exact ih (next_ok h o)

/-! ### phases go on -/
theorem turn_phase (p : St) : p.phase ≤ (turn p).phase ∧ (turn p).phase ≤ p.phase + 1 := by
  unfold turn; split <;> simp <;> omega
theorem act_phase (p : St) (o : Op) : p.phase ≤ (act p o).phase ∧ (act p o).phase ≤ p.phase + 1 ∧ (o.kind ≠ 2 → o.kind ≠ 3 → (act p o).phase = p.phase) := by
  unfold act
  split
  · simp; omega
  · split
    · have := turn_phase { p with here := p.here.set o.who.toNat true }
      simp only at this
      exact ⟨this.1, this.2, fun h => by omega⟩
    · split
      · have := turn_phase { p with inn := p.inn.set o.who.toNat false }
        simp only at this
        exact ⟨this.1, this.2, fun _ h => by omega⟩
      · simp; omega
theorem next_phase (p : St) (o : Op) : p.phase ≤ (next p o).phase ∧ (next p o).phase ≤ p.phase + 1 := by
  unfold next
  split
  · have := act_phase p o; omega
  · omega
theorem after_phase (p : St) (ops : List Op) : p.phase ≤ (after p ops).phase ∧ (after p ops).phase ≤ p.phase + ops.length := by
  induction ops generalizing p with
  | nil => simp [after]
  | cons o ops ih =>
    have h1 := next_phase p o
    have h2 := ih (next p o)
    have e : after p (o :: ops) = after (next p o) ops := rfl
    rw [e]
    simp only [List.length_cons]
    omega
theorem ans_phase (p : St) (o : Op) (h : 0 ≤ p.phase) : 0 ≤ (ans p o).2 ∧ (ans p o).2 ≤ (next p o).phase := by
  have hn := next_phase p o
  unfold ans
  split
  · simp; omega
  · split
    · simp only; omega
    · split
      · simp; omega
      · rename_i h1 h2 h3
        have hg : good p o = true := by
          rw [good_iff]
          simp only [not_or, Int.not_lt, ne_eq, Decidable.not_not] at h1 h3
          exact ⟨h1.1, h1.2, h3⟩
        have := act_phase p o
        simp only [next, if_pos hg]
        omega
theorem ans_good {p : St} {o : Op} : (ans p o).1 = 0 ↔ good p o = true := by
  unfold ans
  rw [good_iff]
  split
  · rename_i h
    simp only [show ((9 : Int) = 0) = False by simp, false_iff]
    omega
  · rename_i h1
    split
    · rename_i h2
      simp only [show ((8 : Int) = 0) = False by simp, false_iff]
      omega
    · split
      · rename_i h3
        simp only
        constructor
        · intro h; exact absurd h h3
        · intro h; exact absurd h.2.2 h3
      · rename_i h3
        simp only [true_iff]
        omega
theorem ans_of_good {p : St} {o : Op} (h : good p o = true) : ans p o = (0, (next p o).phase) := by
  have h' := (good_iff p o).1 h
  unfold ans
  rw [if_neg (by omega), if_neg (by omega), if_neg (by omega)]
  simp [next, h]

/-- the greatest phase that is told -/
def top (l : List Ans) : Int := l.foldl (fun n a => max n a.2) 0

theorem foldl_max_le (l : List Ans) (n b : Int) (hn : n ≤ b) (h : ∀ a ∈ l, a.2 ≤ b) : l.foldl (fun n a => max n a.2) n ≤ b := by
  induction l generalizing n with
  | nil => exact hn
  | cons a l ih => exact ih _ (by have := h a (by simp); simp only; omega) (fun x hx => h x (by simp [hx]))
theorem le_foldl_max (l : List Ans) (n : Int) : n ≤ l.foldl (fun n a => max n a.2) n := by
  induction l generalizing n with
  | nil => exact Int.le_refl _
  | cons a l ih => exact Int.le_trans (by omega) (ih (max n a.2))
theorem mem_le_top (l : List Ans) (n : Int) (a : Ans) (h : a ∈ l) : a.2 ≤ l.foldl (fun n a => max n a.2) n := by
  induction l generalizing n with
  | nil => cases h
  | cons b l ih =>
    rcases List.mem_cons.1 h with rfl | h
    · exact Int.le_trans (by omega) (le_foldl_max l (max n a.2))
    · exact ih _ h

theorem answers_le (p : St) (ops : List Op) (h : 0 ≤ p.phase) : ∀ a ∈ answers p ops, 0 ≤ a.2 ∧ a.2 ≤ (after p ops).phase := by
  induction ops generalizing p with
  | nil => intro a ha; cases ha
  | cons o ops ih =>
    intro a ha
    have h1 := next_phase p o
    rcases List.mem_cons.1 ha with rfl | ha
    · have h2 := ans_phase p o h
      have h3 := after_phase (next p o) ops
      exact ⟨h2.1, Int.le_trans h2.2 h3.1⟩
    · exact ih (next p o) (by omega) a ha

theorem top_le (ops : List Op) : top (play ops) ≤ (after start ops).phase :=
  foldl_max_le _ _ _ (after_phase start ops).1 fun a ha => (answers_le start ops (by decide) a ha).2
end Go.Proofs.Ytphbegadddamgaa.Pha
