/-
  Tokens of a text, in plain lists: parted at blanks, joined again, counted.
-/
namespace Go.Proofs.Ytdipieplmmhnhaa.Lx
set_option linter.unusedVariables false
set_option linter.unusedSimpArgs false

abbrev Bs := List UInt8
abbrev Tk := Int × Nat × Bs

def dig (c : UInt8) : Bool := decide (48 ≤ c) && decide (c ≤ 57)
def ltr (c : UInt8) : Bool := decide (97 ≤ c) && decide (c ≤ 122)
def blank (c : UInt8) : Bool := c == 32 || (c == 10 || c == 9)
def word (c : UInt8) : Bool := ltr c || dig c
def signs : Bs := [123, 125, 91, 93, 40, 41, 59, 61, 60, 43, 45, 42, 47, 37]

theorem blank_cases {b : UInt8} (h : blank b = true) : b = 32 ∨ b = 10 ∨ b = 9 := by
  simpa [blank] using h
theorem blank_dig {b : UInt8} (h : blank b = true) : dig b = false := by rcases blank_cases h with rfl | rfl | rfl <;> rfl
theorem blank_word {b : UInt8} (h : blank b = true) : word b = false := by rcases blank_cases h with rfl | rfl | rfl <;> rfl
theorem blank_ltr {b : UInt8} (h : blank b = true) : ltr b = false := by rcases blank_cases h with rfl | rfl | rfl <;> rfl
theorem blank_eq {b : UInt8} (h : blank b = true) : (61 == b) = false := by rcases blank_cases h with rfl | rfl | rfl <;> rfl
theorem blank_sign {b : UInt8} (h : blank b = true) : signs.contains b = false := by rcases blank_cases h with rfl | rfl | rfl <;> decide

section
variable (num : Bs → Bool)

/-- the token at the head, if there is one -/
def tok : Bs → Option (Int × Bs)
  | [] => none
  | c :: r =>
    if dig c then (if num ((c :: r).takeWhile dig) then some (1, (c :: r).takeWhile dig) else none)
    else if ltr c then some (2, (c :: r).takeWhile word)
    else if [61, 61].isPrefixOf (c :: r) then some (3, [61, 61])
    else if signs.contains c then some (3, [c]) else none

theorem tok_cons (c : UInt8) (r : Bs) : tok num (c :: r) = if dig c then (if num ((c :: r).takeWhile dig) then some (1, (c :: r).takeWhile dig) else none)
    else if ltr c then some (2, (c :: r).takeWhile word)
    else if [61, 61].isPrefixOf (c :: r) then some (3, [61, 61])
    else if signs.contains c then some (3, [c]) else none := rfl
theorem takeWhile_prefix (p : UInt8 → Bool) : ∀ l : Bs, ∃ y, l = l.takeWhile p ++ y
  | [] => ⟨[], rfl⟩
  | x :: l => by
    obtain ⟨y, hy⟩ := takeWhile_prefix p l
    rw [List.takeWhile_cons]
    split
    · exact ⟨y, by rw [List.cons_append, ← hy]⟩
    · exact ⟨x :: l, rfl⟩
theorem takeWhile_local (p : UInt8 → Bool) {b : UInt8} (hb : p b = false) (t : Bs) : ∀ r : Bs, (r ++ b :: t).takeWhile p = r.takeWhile p
  | [] => by rw [List.nil_append, List.takeWhile_cons, hb]; rfl
  | x :: r => by rw [List.cons_append, List.takeWhile_cons, List.takeWhile_cons, takeWhile_local p hb t r]
theorem takeWhile_self (p : UInt8 → Bool) : ∀ l : Bs, (l.takeWhile p).takeWhile p = l.takeWhile p
  | [] => rfl
  | x :: l => by
    rw [List.takeWhile_cons]
    split
    · rw [List.takeWhile_cons, takeWhile_self p l, if_pos (by assumption)]
    · rfl

theorem tok_some {r : Bs} {k : Int} {t : Bs} (h : tok num r = some (k, t)) : (∃ c t', t = c :: t' ∧ blank c = false) ∧ (∃ y, r = t ++ y) := by
  cases r with
  | nil => cases h
  | cons c r =>
    rw [tok_cons] at h
    have hb : (blank c = true → False) → blank c = false := fun h => by cases hc : blank c with | true => exact (h hc).elim | false => rfl
    split at h
    · rename_i hd
      split at h
      · injection h with h
        injection h with _ h
        subst h
        refine ⟨⟨c, r.takeWhile dig, by rw [List.takeWhile_cons, if_pos hd], hb fun h => ?_⟩, takeWhile_prefix _ _⟩
        rw [blank_dig h] at hd; cases hd
      · cases h
    · split at h
      · rename_i hl
        injection h with h
        injection h with _ h
        subst h
        refine ⟨⟨c, r.takeWhile word, by rw [List.takeWhile_cons, if_pos (by simp [word, hl])], hb fun h => ?_⟩, takeWhile_prefix _ _⟩
        rw [blank_ltr h] at hl; cases hl
      · split at h
        · rename_i hp
          injection h with h
          injection h with _ h
          subst h
          exact ⟨⟨61, [61], rfl, rfl⟩, by obtain ⟨y, hy⟩ := List.isPrefixOf_iff_prefix.1 hp; exact ⟨y, hy.symm⟩⟩
        · split at h
          · rename_i hs
            injection h with h
            injection h with _ h
            subst h
            refine ⟨⟨c, [], rfl, hb fun h => ?_⟩, ⟨r, rfl⟩⟩
            rw [blank_sign h] at hs; cases hs
          · cases h
theorem tok_pos {r : Bs} {k : Int} {t : Bs} (h : tok num r = some (k, t)) : 0 < t.length ∧ t.length ≤ r.length := by
  obtain ⟨⟨c, t', rfl, _⟩, ⟨y, rfl⟩⟩ := tok_some num h
  exact ⟨by simp, by simp⟩
theorem tok_local {b : UInt8} (hb : blank b = true) (t : Bs) (c : UInt8) (r : Bs) : tok num (c :: r ++ b :: t) = tok num (c :: r) := by
  have h1 : (c :: (r ++ b :: t)).takeWhile dig = (c :: r).takeWhile dig := takeWhile_local dig (blank_dig hb) t (c :: r)
  have h2 : (c :: (r ++ b :: t)).takeWhile word = (c :: r).takeWhile word := takeWhile_local word (blank_word hb) t (c :: r)
  have h3 : [61, 61].isPrefixOf (c :: (r ++ b :: t)) = [61, 61].isPrefixOf (c :: r) := by
    cases r with
    | nil => simp [List.isPrefixOf, blank_eq hb]
    | cons d r => simp [List.isPrefixOf]
  rw [List.cons_append, tok_cons, tok_cons, h1, h2, h3]
theorem tok_self {r : Bs} {k : Int} {t : Bs} (h : tok num r = some (k, t)) : tok num t = some (k, t) := by
  cases r with
  | nil => cases h
  | cons c r =>
    rw [tok_cons] at h
    split at h
    · rename_i hd
      split at h
      · rename_i hn
        injection h with h
        injection h with hk h
        have e : t = c :: r.takeWhile dig := by rw [← h, List.takeWhile_cons, if_pos hd]
        have e2 : t.takeWhile dig = t := by rw [← h]; exact takeWhile_self dig _
        rw [h] at hn
        rw [e] at e2 hn ⊢
        rw [tok_cons, if_pos hd, e2, if_pos hn, hk]
      · cases h
    · rename_i hd
      split at h
      · rename_i hl
        injection h with h
        injection h with hk h
        have e : t = c :: r.takeWhile word := by rw [← h, List.takeWhile_cons, if_pos (by simp [word, hl])]
        have e2 : t.takeWhile word = t := by rw [← h]; exact takeWhile_self word _
        rw [e] at e2 ⊢
        rw [tok_cons, if_neg hd, if_pos hl, e2, hk]
      · rename_i hl
        split at h
        · injection h with h
          injection h with hk h
          subst h hk
          rfl
        · rename_i hp
          split at h
          · rename_i hs
            injection h with h
            injection h with hk h
            subst h hk
            rw [tok_cons, if_neg hd, if_neg hl, if_neg (by simp [List.isPrefixOf]), if_pos hs]
          · cases h

/-- all tokens, the text beginning at a place; or where there is none -/
def toks (at_ : Nat) (s : Bs) : Except Nat (List Tk) :=
  match s with
  | [] => .ok []
  | c :: r =>
    if blank c then toks (at_ + 1) r
    else match h : tok num (c :: r) with
      | none => .error at_
      | some (k, t) => (toks (at_ + t.length) ((c :: r).drop t.length)).map ((k, at_, t) :: ·)
termination_by s.length
decreasing_by
  · simp
  · have := tok_pos num h; simp at this ⊢; omega

theorem toks_nil (a : Nat) : toks num a [] = .ok [] := by rw [toks]
theorem toks_blank (a : Nat) {c : UInt8} (h : blank c = true) (r : Bs) : toks num a (c :: r) = toks num (a + 1) r := by rw [toks, if_pos h]
theorem toks_none (a : Nat) {c : UInt8} (h : blank c = false) (r : Bs) (ht : tok num (c :: r) = none) : toks num a (c :: r) = .error a := by
  rw [toks, if_neg (by rw [h]; simp)]
  split
  · rfl
  · rename_i h'; rw [ht] at h'; cases h'
theorem toks_some (a : Nat) {c : UInt8} (h : blank c = false) (r : Bs) {k : Int} {t : Bs} (ht : tok num (c :: r) = some (k, t)) : toks num a (c :: r) = (toks num (a + t.length) ((c :: r).drop t.length)).map ((k, a, t) :: ·) := by
  rw [toks, if_neg (by rw [h]; simp)]
  split
  · rename_i h'; rw [ht] at h'; cases h'
  · rename_i h'; rw [ht] at h'; injection h' with h'; injection h' with h1 h2; subst h1 h2; rfl

/-- two texts with a blank between -/
theorem toks_two {b : UInt8} (hb : blank b = true) (t : Bs) : ∀ (n : Nat) (s : Bs) (a : Nat), s.length ≤ n → toks num a (s ++ b :: t) = (toks num a s).bind fun l => (toks num (a + s.length + 1) t).map (l ++ ·) := by
  intro n
  induction n with
  | zero =>
    intro s a hs
    obtain rfl : s = [] := List.eq_nil_of_length_eq_zero (by omega)
    rw [List.nil_append, toks_blank num a hb, toks_nil]
    show _ = (toks num (a + 0 + 1) t).map _
    cases toks num (a + 1) t <;> rfl
  | succ n ih =>
    intro s a hs
    cases s with
    | nil =>
      rw [List.nil_append, toks_blank num a hb, toks_nil]
      show _ = (toks num (a + 0 + 1) t).map _
      cases toks num (a + 1) t <;> rfl
    | cons c r =>
      simp only [List.length_cons] at hs
      cases hc : blank c with
      | true =>
        rw [List.cons_append, toks_blank num a hc, toks_blank num a hc, ih r (a + 1) (by omega), List.length_cons]
        rw [show a + 1 + r.length + 1 = a + (r.length + 1) + 1 by omega]
      | false =>
        cases ht : tok num (c :: r) with
        | none =>
          rw [toks_none num a hc r ht, List.cons_append, toks_none num a hc _ (by rw [← List.cons_append, tok_local num hb, ht])]
          rfl
        | some p =>
          obtain ⟨k, x⟩ := p
          have hp := tok_pos num ht
          rw [toks_some num a hc r ht, List.cons_append, toks_some num a hc _ (by rw [← List.cons_append, tok_local num hb, ht])]
          have hd : (c :: (r ++ b :: t)).drop x.length = (c :: r).drop x.length ++ b :: t := by
            rw [← List.cons_append, List.drop_append_of_le_length hp.2]
          rw [hd, ih _ (a + x.length) (by simp only [List.length_drop, List.length_cons]; omega)]
          have he : a + x.length + ((c :: r).drop x.length).length + 1 = a + (c :: r).length + 1 := by
            rw [List.length_drop]; omega
          rw [he]
          cases toks num (a + x.length) ((c :: r).drop x.length) with
          | error e => rfl
          | ok l =>
            show ((toks num (a + (c :: r).length + 1) t).map (l ++ ·)).map _ = (toks num (a + (c :: r).length + 1) t).map _
            cases toks num (a + (c :: r).length + 1) t <;> rfl

def shift (k : Nat) (x : Tk) : Tk := (x.1, x.2.1 + k, x.2.2)
theorem toks_shift (k : Nat) : ∀ (n : Nat) (s : Bs) (a : Nat), s.length ≤ n → toks num (a + k) s = match toks num a s with | .error e => .error (e + k) | .ok l => .ok (l.map (shift k)) := by
  intro n
  induction n with
  | zero =>
    intro s a hs
    obtain rfl : s = [] := List.eq_nil_of_length_eq_zero (by omega)
    rw [toks_nil, toks_nil]; rfl
  | succ n ih =>
    intro s a hs
    cases s with
    | nil => rw [toks_nil, toks_nil]; rfl
    | cons c r =>
      simp only [List.length_cons] at hs
      cases hc : blank c with
      | true => rw [toks_blank num _ hc, toks_blank num _ hc, show a + k + 1 = a + 1 + k by omega, ih r (a + 1) (by omega)]
      | false =>
        cases ht : tok num (c :: r) with
        | none => rw [toks_none num _ hc r ht, toks_none num _ hc r ht]
        | some p =>
          obtain ⟨q, x⟩ := p
          have hp := tok_pos num ht
          rw [toks_some num _ hc r ht, toks_some num _ hc r ht, show a + k + x.length = a + x.length + k by omega, ih _ (a + x.length) (by simp only [List.length_drop, List.length_cons]; omega)]
          cases toks num (a + x.length) ((c :: r).drop x.length) <;> rfl

/-- kinds and texts alone -/
def strip (x : Tk) : Int × Bs := (x.1, x.2.2)
def kinds (s : Bs) : Option (List (Int × Bs)) := match toks num 0 s with | .error _ => none | .ok l => some (l.map strip)
theorem kinds_at (a : Nat) (s : Bs) : (match toks num a s with | .error _ => none | .ok l => some (l.map strip)) = kinds num s := by
  have := toks_shift num a s.length s 0 (Nat.le_refl _)
  rw [Nat.zero_add] at this
  rw [this]
  unfold kinds
  cases toks num 0 s with
  | error e => rfl
  | ok l => simp [strip, shift, Function.comp_def]
theorem kinds_two {b : UInt8} (hb : blank b = true) (s t : Bs) : kinds num (s ++ b :: t) = (kinds num s).bind fun l => (kinds num t).map (l ++ ·) := by
  rw [← kinds_at num (0 + s.length + 1) t]
  unfold kinds
  rw [toks_two num hb t s.length s 0 (Nat.le_refl _)]
  cases toks num 0 s with
  | error e => rfl
  | ok l =>
    show (match (toks num (0 + s.length + 1) t).map (l ++ ·) with | .error _ => none | .ok l => some (l.map strip)) = _
    cases toks num (0 + s.length + 1) t with
    | error e => rfl
    | ok m => show some ((l ++ m).map strip) = some (l.map strip ++ m.map strip); rw [List.map_append]
theorem kinds_nil : kinds num [] = some [] := by unfold kinds; rw [toks_nil]; rfl
theorem kinds_front {b : UInt8} (hb : blank b = true) (s : Bs) : kinds num (b :: s) = kinds num s := by
  have := kinds_two num hb [] s
  rw [List.nil_append, kinds_nil] at this
  rw [this]
  cases kinds num s <;> rfl
theorem kinds_back {b : UInt8} (hb : blank b = true) (s : Bs) : kinds num (s ++ [b]) = kinds num s := by
  rw [kinds_two num hb s [], kinds_nil]
  cases kinds num s with
  | none => rfl
  | some l => show some (l ++ []) = _; rw [List.append_nil]

/-- their texts, with a blank between -/
def join : List Bs → Bs
  | [] => []
  | [x] => x
  | x :: y :: l => x ++ 32 :: join (y :: l)
theorem toks_one (a : Nat) {k : Int} {t : Bs} (h : tok num t = some (k, t)) : toks num a t = .ok [(k, a, t)] := by
  obtain ⟨⟨c, t', rfl, hc⟩, -⟩ := tok_some num h
  rw [toks_some num a hc t' h, List.drop_length, toks_nil]
  rfl
theorem toks_self : ∀ (n : Nat) (s : Bs) (a : Nat) (l : List Tk), s.length ≤ n → toks num a s = .ok l → ∀ x ∈ l, tok num x.2.2 = some (x.1, x.2.2) := by
  intro n
  induction n with
  | zero =>
    intro s a l hs h
    obtain rfl : s = [] := List.eq_nil_of_length_eq_zero (by omega)
    rw [toks_nil] at h
    injection h with h
    subst h
    intro x hx; cases hx
  | succ n ih =>
    intro s a l hs h
    cases s with
    | nil =>
      rw [toks_nil] at h
      injection h with h
      subst h
      intro x hx; cases hx
    | cons c r =>
      simp only [List.length_cons] at hs
      cases hc : blank c with
      | true => rw [toks_blank num a hc] at h; exact ih r (a + 1) l (by omega) h
      | false =>
        cases ht : tok num (c :: r) with
        | none => rw [toks_none num a hc r ht] at h; cases h
        | some p =>
          obtain ⟨q, x⟩ := p
          have hp := tok_pos num ht
          rw [toks_some num a hc r ht] at h
          cases hm : toks num (a + x.length) ((c :: r).drop x.length) with
          | error e => rw [hm] at h; cases h
          | ok m =>
            rw [hm] at h
            injection h with h
            subst h
            intro y hy
            rcases List.mem_cons.1 hy with rfl | hy
            · exact tok_self num ht
            · exact ih _ _ m (by simp only [List.length_drop, List.length_cons]; omega) hm y hy
theorem kinds_join : ∀ l : List (Int × Bs), (∀ x ∈ l, tok num x.2 = some (x.1, x.2)) → kinds num (join (l.map (·.2))) = some l
  | [], _ => kinds_nil num
  | [x], h => by
    have := toks_one num 0 (h x (by simp))
    show kinds num x.2 = _
    unfold kinds
    rw [this]
    rfl
  | x :: y :: l, h => by
    have h1 := toks_one num 0 (h x (by simp))
    have h2 := kinds_join (y :: l) (fun z hz => h z (by simp at hz ⊢; exact .inr hz))
    show kinds num (x.2 ++ 32 :: join ((y :: l).map (·.2))) = _
    rw [kinds_two num rfl, h2]
    unfold kinds
    rw [h1]
    rfl
theorem toks_error : ∀ (n : Nat) (s : Bs) (a e : Nat), s.length ≤ n → toks num a s = .error e → a ≤ e ∧ e < a + s.length := by
  intro n
  induction n with
  | zero =>
    intro s a e hs h
    obtain rfl : s = [] := List.eq_nil_of_length_eq_zero (by omega)
    rw [toks_nil] at h; cases h
  | succ n ih =>
    intro s a e hs h
    cases s with
    | nil => rw [toks_nil] at h; cases h
    | cons c r =>
      simp only [List.length_cons] at hs ⊢
      cases hc : blank c with
      | true => rw [toks_blank num a hc] at h; have := ih r (a + 1) e (by omega) h; omega
      | false =>
        cases ht : tok num (c :: r) with
        | none => rw [toks_none num a hc r ht] at h; injection h with h; omega
        | some p =>
          obtain ⟨q, x⟩ := p
          have hp := tok_pos num ht
          rw [toks_some num a hc r ht] at h
          cases hm : toks num (a + x.length) ((c :: r).drop x.length) with
          | error e' =>
            rw [hm] at h
            injection h with h
            subst h
            have := ih _ _ _ (by simp only [List.length_drop, List.length_cons]; omega) hm
            simp only [List.length_drop, List.length_cons] at this hp
            omega
          | ok m => rw [hm] at h; cases h

/-- each token lies where it says, from a place on, and blanks alone lie between; s is what follows the place -/
def Fits : Nat → Bs → List Tk → Prop
  | _, s, [] => ∀ c ∈ s, blank c = true
  | a, s, x :: l => ∃ g y, s = g ++ x.2.2 ++ y ∧ (∀ c ∈ g, blank c = true) ∧ x.2.1 = a + g.length ∧ Fits (a + g.length + x.2.2.length) y l
theorem fits_blank {a : Nat} {c : UInt8} {s : Bs} {l : List Tk} (hc : blank c = true) (h : Fits (a + 1) s l) : Fits a (c :: s) l := by
  cases l with
  | nil => intro d hd; rcases List.mem_cons.1 hd with rfl | hd; exact hc; exact h d hd
  | cons x l =>
    obtain ⟨g, y, rfl, hg, hx, hl⟩ := h
    refine ⟨c :: g, y, rfl, fun d hd => ?_, by rw [hx, List.length_cons]; omega, by rw [List.length_cons, show a + (g.length + 1) + x.2.2.length = a + 1 + g.length + x.2.2.length by omega]; exact hl⟩
    rcases List.mem_cons.1 hd with rfl | hd
    · exact hc
    · exact hg d hd
theorem toks_fits : ∀ (n : Nat) (s : Bs) (a : Nat) (l : List Tk), s.length ≤ n → toks num a s = .ok l → Fits a s l := by
  intro n
  induction n with
  | zero =>
    intro s a l hs h
    obtain rfl : s = [] := List.eq_nil_of_length_eq_zero (by omega)
    rw [toks_nil] at h
    injection h with h
    subst h
    intro x hx; cases hx
  | succ n ih =>
    intro s a l hs h
    cases s with
    | nil =>
      rw [toks_nil] at h
      injection h with h
      subst h
      intro x hx; cases hx
    | cons c r =>
      simp only [List.length_cons] at hs
      cases hc : blank c with
      | true => rw [toks_blank num a hc] at h; exact fits_blank hc (ih r (a + 1) l (by omega) h)
      | false =>
        cases ht : tok num (c :: r) with
        | none => rw [toks_none num a hc r ht] at h; cases h
        | some p =>
          obtain ⟨q, x⟩ := p
          have hp := tok_pos num ht
          obtain ⟨-, y, hy⟩ := tok_some num ht
          rw [toks_some num a hc r ht] at h
          cases hm : toks num (a + x.length) ((c :: r).drop x.length) with
          | error e => rw [hm] at h; cases h
          | ok m =>
            rw [hm] at h
            injection h with h
            subst h
            have hd : (c :: r).drop x.length = y := by rw [hy, List.drop_left]
            rw [hd] at hm
            refine ⟨[], y, hy, (fun d hd => by cases hd), rfl, ?_⟩
            exact ih y _ m (by have := congrArg List.length hy; simp at this hp; omega) hm
theorem fits_length : ∀ (l : List Tk) (a : Nat) (s : Bs), Fits a s l → (∀ x ∈ l, 0 < x.2.2.length) → l.length ≤ s.length
  | [], _, _, _, _ => Nat.zero_le _
  | x :: l, a, s, h, hp => by
    obtain ⟨g, y, rfl, _, _, hl⟩ := h
    have h1 := fits_length l _ _ hl (fun z hz => hp z (by simp [hz]))
    have h2 := hp x (by simp)
    simp
    omega
theorem fits_at : ∀ (l : List Tk) (a : Nat) (s : Bs), Fits a s l → ∀ x ∈ l, x.2.1 ≤ a + s.length
  | [], _, _, _, _, hx => by cases hx
  | y :: l, a, s, h, x, hx => by
    obtain ⟨g, z, rfl, _, h2, hl⟩ := h
    rcases List.mem_cons.1 hx with rfl | hx
    · rw [h2, List.length_append, List.length_append]; omega
    · have := fits_at l _ _ hl x hx
      simp at this ⊢
      omega
end
end Go.Proofs.Ytdipieplmmhnhaa.Lx
