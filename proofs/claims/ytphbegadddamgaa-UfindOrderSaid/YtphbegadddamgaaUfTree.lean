/-
  Sets that are disjoint: what the two rows in memory hold: each thing leads upward to its set's head.
-/
import Derived.Test.YtphbegadddamgaaUfLaw
namespace Go.Proofs.Ytphbegadddamgaa.Uf
set_option linter.unusedVariables false
set_option linter.unusedSimpArgs false

def at_ (l : List Nat) (i : Nat) : Nat := l.getD i 0
theorem at_get {l : List Nat} {i : Nat} (h : i < l.length) : l[i]? = some (at_ l i) := by simp [at_, List.getD, List.getElem?_eq_getElem h]
theorem at_set (l : List Nat) (i x j : Nat) (h : i < l.length) : at_ (l.set i x) j = if i = j then x else at_ l j := by
  unfold at_
  simp only [List.getD, List.getElem?_set, h, if_true]
  split <;> rfl

structure Tree (up sz l : List Nat) (d : Nat → Nat) : Prop where
  ul : up.length = l.length
  sl : sz.length = l.length
  lt : ∀ i, i < l.length → at_ up i < l.length
  lab : ∀ i, i < l.length → at_ l (at_ up i) = at_ l i
  deep : ∀ i, i < l.length → at_ up i ≠ i → d (at_ up i) < d i
  one : ∀ i j, i < l.length → j < l.length → at_ up i = i → at_ up j = j → at_ l i = at_ l j → i = j
  size : ∀ i, i < l.length → at_ up i = i → at_ sz i = l.count (at_ l i)

theorem Tree.fresh (n : Nat) : Tree (List.range n) (List.replicate n 1) (start n) (fun _ => 0) := by
  have hat : ∀ i, i < n → at_ (List.range n) i = i := fun i hi => by simp [at_, List.getD, List.getElem?_range hi]
  refine ⟨rfl, by simp [start], fun i hi => ?_, fun i hi => ?_, fun i hi hne => ?_, fun i j hi hj _ _ h => ?_, fun i hi _ => ?_⟩ <;> simp only [start, List.length_range] at *
  · rw [hat i hi]; exact hi
  · rw [hat i hi, hat i hi]
  · exact absurd (hat i hi) hne
  · rw [hat i hi, hat j hj] at h; exact h
  · rw [hat i hi]
    have h1 : (List.range n).count i = 1 := by
      rw [List.count_range]
      simp [hi]
    rw [h1]
    simp [at_, List.getD, List.getElem?_replicate, hi]

/-- the way is cut to half -/
theorem Tree.half {up sz l : List Nat} {d : Nat → Nat} (h : Tree up sz l d) (i : Nat) (hi : i < l.length) (hne : at_ up i ≠ i) : Tree (up.set i (at_ up (at_ up i))) sz l d := by
  have hu := h.lt i hi
  have hset : ∀ j, at_ (up.set i (at_ up (at_ up i))) j = if i = j then at_ up (at_ up i) else at_ up j := fun j => at_set up i _ j (by rw [h.ul]; exact hi)
  have hd : d (at_ up (at_ up i)) < d i := by
    by_cases e : at_ up (at_ up i) = at_ up i
    · rw [e]; exact h.deep i hi hne
    · exact Nat.lt_trans (h.deep _ hu e) (h.deep i hi hne)
  have hii : at_ up (at_ up i) ≠ i := fun e => by rw [e] at hd; omega
  refine ⟨by simpa using h.ul, h.sl, fun j hj => ?_, fun j hj => ?_, fun j hj hn => ?_, fun j k hj hk e1 e2 e => ?_, fun j hj e => ?_⟩
  · rw [hset]
    split
    · exact h.lt _ hu
    · exact h.lt j hj
  · rw [hset]
    split
    · rename_i e; subst e; rw [h.lab _ hu, h.lab _ hi]
    · exact h.lab j hj
  · rw [hset] at hn ⊢
    split
    · rename_i e; subst e; exact hd
    · rename_i e; rw [if_neg e] at hn; exact h.deep j hj hn
  · rw [hset] at e1 e2
    by_cases ej : i = j
    · subst ej; rw [if_pos rfl] at e1; exact absurd e1 hii
    · by_cases ek : i = k
      · subst ek; rw [if_pos rfl] at e2; exact absurd e2 hii
      · rw [if_neg ej] at e1; rw [if_neg ek] at e2; exact h.one j k hj hk e1 e2 e
  · rw [hset] at e
    by_cases ej : i = j
    · subst ej; rw [if_pos rfl] at e; exact absurd e hii
    · rw [if_neg ej] at e; exact h.size j hj e

theorem count_merge_other (l : List Nat) (x y z : Nat) (h1 : z ≠ x) (h2 : z ≠ y) : (merge l x y).count z = l.count z := by
  induction l with
  | nil => rfl
  | cons a l ih =>
    simp only [merge, List.map_cons, List.count_cons] at ih ⊢
    rw [ih]
    by_cases e : a = y
    · subst e
      simp [Ne.symm h1, Ne.symm h2]
    · simp [e]
theorem count_merge (l : List Nat) (x y : Nat) (h : x ≠ y) : (merge l x y).count x = l.count x + l.count y := by
  induction l with
  | nil => rfl
  | cons a l ih =>
    simp only [merge, List.map_cons, List.count_cons] at ih ⊢
    rw [ih]
    by_cases e : a = y
    · subst e
      simp [Ne.symm h]
      omega
    · by_cases e' : a = x
      · subst e'
        simp [h]
        omega
      · simp [e, e']

/-- one head comes under another one -/
theorem Tree.link {up sz l : List Nat} {d : Nat → Nat} (h : Tree up sz l d) (a b x y : Nat) (ha : a < l.length) (hb : b < l.length) (ra : at_ up a = a) (rb : at_ up b = b) (hne : at_ l a ≠ at_ l b)
    (hxy : (x = at_ l a ∧ y = at_ l b) ∨ (x = at_ l b ∧ y = at_ l a)) :
    Tree (up.set b a) (sz.set a (at_ sz a + at_ sz b)) (merge l x y) (fun i => if at_ l i = at_ l b then d i + d a + 1 else d i) := by
  have hm : ∀ i, i < l.length → at_ (merge l x y) i = if at_ l i = y then x else at_ l i := fun i hi => getD_merge l x y i hi
  have hset : ∀ j, at_ (up.set b a) j = if b = j then a else at_ up j := fun j => at_set up b _ j (by rw [h.ul]; exact hb)
  have hsz : ∀ j, at_ (sz.set a (at_ sz a + at_ sz b)) j = if a = j then at_ sz a + at_ sz b else at_ sz j := fun j => at_set sz a _ j (by rw [h.sl]; exact ha)
  have hab : a ≠ b := fun e => hne (by rw [e])
  have hxne : x ≠ y := by
    rcases hxy with ⟨rfl, rfl⟩ | ⟨rfl, rfl⟩
    · exact hne
    · exact Ne.symm hne
  have hma : at_ (merge l x y) a = x := by
    rw [hm a ha]
    rcases hxy with ⟨h1, h2⟩ | ⟨h1, h2⟩
    · rw [if_neg (by rw [h2]; exact hne), h1]
    · rw [if_pos h2.symm]
  have hmb : at_ (merge l x y) b = x := by
    rw [hm b hb]
    rcases hxy with ⟨h1, h2⟩ | ⟨h1, h2⟩
    · rw [if_pos h2.symm]
    · rw [if_neg (by rw [h2]; exact Ne.symm hne), h1]
  refine ⟨by simpa [merge_length] using h.ul, by simpa [merge_length] using h.sl, fun j hj => ?_, fun j hj => ?_, fun j hj hn => ?_, fun j k hj hk e1 e2 e => ?_, fun j hj e => ?_⟩ <;> rw [merge_length] at *
  · rw [hset]
    split
    · exact ha
    · exact h.lt j hj
  · rw [hset]
    by_cases e : b = j
    · subst e; rw [if_pos rfl, hma, hmb]
    · rw [if_neg e, hm _ (h.lt j hj), hm _ hj, h.lab j hj]
  · rw [hset] at hn ⊢
    by_cases e : b = j
    · subst e
      simp only [if_true, if_neg hne]
      omega
    · rw [if_neg e] at hn ⊢
      simp only [h.lab j hj]
      have := h.deep j hj hn
      split <;> omega
  · rw [hset] at e1 e2
    by_cases ej : b = j
    · subst ej; rw [if_pos rfl] at e1; exact absurd e1 hab
    · by_cases ek : b = k
      · subst ek; rw [if_pos rfl] at e2; exact absurd e2 hab
      · rw [if_neg ej] at e1; rw [if_neg ek] at e2
        rw [hm j hj, hm k hk] at e
        have nj : at_ l j ≠ at_ l b := fun e' => ej (h.one b j hb hj rb e1 e'.symm)
        have nk : at_ l k ≠ at_ l b := fun e' => ek (h.one b k hb hk rb e2 e'.symm)
        rcases hxy with ⟨h1, h2⟩ | ⟨h1, h2⟩
        · rw [if_neg (by rw [h2]; exact nj), if_neg (by rw [h2]; exact nk)] at e
          exact h.one j k hj hk e1 e2 e
        · by_cases c1 : at_ l j = y <;> by_cases c2 : at_ l k = y
          · exact h.one j k hj hk e1 e2 (c1.trans c2.symm)
          · rw [if_pos c1, if_neg c2, h1] at e; exact absurd e.symm nk
          · rw [if_neg c1, if_pos c2, h1] at e; exact absurd e nj
          · rw [if_neg c1, if_neg c2] at e; exact h.one j k hj hk e1 e2 e
  · rw [hset] at e
    by_cases ej : b = j
    · subst ej; rw [if_pos rfl] at e; exact absurd e hab
    · rw [if_neg ej] at e
      rw [hsz]
      by_cases ea : a = j
      · subst ea
        rw [if_pos rfl, hma, count_merge l x y hxne, h.size a ha ra, h.size b hb rb]
        rcases hxy with ⟨h1, h2⟩ | ⟨h1, h2⟩
        · rw [h1, h2]
        · rw [h1, h2]; omega
      · rw [if_neg ea, h.size j hj e, hm j hj]
        have n1 : at_ l j ≠ at_ l b := fun e' => ej (h.one b j hb hj rb e e'.symm)
        have n2 : at_ l j ≠ at_ l a := fun e' => ea (h.one a j ha hj ra e e'.symm)
        have n3 : at_ l j ≠ x ∧ at_ l j ≠ y := by
          rcases hxy with ⟨h1, h2⟩ | ⟨h1, h2⟩
          · rw [h1, h2]; exact ⟨n2, n1⟩
          · rw [h1, h2]; exact ⟨n1, n2⟩
        rw [if_neg n3.2, count_merge_other l x y _ n3.1 n3.2]

/-- two have one head, or none in common -/
theorem Tree.head {up sz l : List Nat} {d : Nat → Nat} (h : Tree up sz l d) {a b : Nat} (ha : a < l.length) (hb : b < l.length) (ra : at_ up a = a) (rb : at_ up b = b) : a = b ↔ at_ l a = at_ l b :=
  ⟨fun e => by rw [e], h.one a b ha hb ra rb⟩
end Go.Proofs.Ytphbegadddamgaa.Uf
