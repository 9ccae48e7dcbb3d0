/-
  Clocks of many hands: joins are least above, to be within is an order, a tick goes on by one hand alone.
-/
import Derived.Test.YtphbegadddamgaaVecLaw
namespace Go.Proofs.Ytphbegadddamgaa.Vec

def Pos (xs : List Int) : Prop := ∀ x ∈ xs, 0 ≤ x

theorem Pos.getD {xs : List Int} (h : Pos xs) (i : Nat) : 0 ≤ xs.getD i 0 := by
  by_cases hi : i < xs.length
  · simp [List.getD, List.getElem?_eq_getElem hi]; exact h _ (List.getElem_mem hi)
  · simp [List.getD, show xs.length ≤ i by omega]

theorem hand_nat (xs : List Int) (i : Nat) : hand xs i = xs.getD i 0 := by
  unfold hand
  rw [if_neg (by omega), Int.toNat_natCast]

theorem getD_trim (xs : List Int) (i : Nat) : (trim xs).getD i 0 = xs.getD i 0 := by
  obtain ⟨n, hn⟩ : ∃ n, n = xs.length := ⟨_, rfl⟩
  have key : ∀ n, n ≤ xs.length → (∀ k, (trim (xs.take n)).getD k 0 = (xs.take n).getD k 0) := by
    intro n
    induction n with
    | zero => intro _ k; simp [trim]
    | succ n ih =>
      intro hn k
      have hx : xs[n]? = some xs[n] := List.getElem?_eq_getElem (by omega)
      rcases hz : xs[n] == 0 with _ | _
      · rw [trim_stop hx hz]
      · rw [← trim_zero hx hz, ih (by omega), take_snoc hx]
        have hz' : xs[n] = 0 := by simpa using hz
        rw [hz']
        by_cases hk : k < n
        · simp only [List.getD]
          rw [List.getElem?_append_left (by simp; omega)]
        · simp only [List.getD]
          rw [List.getElem?_append_right (by simp; omega), List.getElem?_eq_none (by simp; omega)]
          rcases hkn : k - (xs.take n).length with _ | m
          · simp
          · simp
  have := key xs.length (Nat.le_refl _) i
  rwa [List.take_length] at this

theorem trim_last (xs : List Int) (h : trim xs ≠ []) : (trim xs).getD ((trim xs).length - 1) 0 ≠ 0 := by
  unfold trim at *
  rcases hd : xs.reverse.dropWhile (· == 0) with _ | ⟨y, ys⟩
  · rw [hd] at h; simp at h
  · have hy : (y == 0) = false := by
      have := List.head?_dropWhile_not (· == 0) xs.reverse
      rw [hd] at this
      simpa using this
    simp only [List.reverse_cons, List.length_append, List.length_reverse, List.length_cons, List.length_nil, List.getD]
    rw [List.getElem?_append_right (by simp)]
    simpa using hy

theorem canon {a b : List Int} (ha : a ≠ [] → a.getD (a.length - 1) 0 ≠ 0) (hb : b ≠ [] → b.getD (b.length - 1) 0 ≠ 0) (h : ∀ i, a.getD i 0 = b.getD i 0) : a = b := by
  have hl : a.length = b.length := by
    rcases Nat.lt_trichotomy a.length b.length with hlt | he | hgt
    · exfalso
      have hb0 : b ≠ [] := by intro h0; subst h0; simp at hlt
      refine hb hb0 ?_
      rw [← h, List.getD, List.getElem?_eq_none (by omega)]
      rfl
    · exact he
    · exfalso
      have ha0 : a ≠ [] := by intro h0; subst h0; simp at hgt
      refine ha ha0 ?_
      rw [h, List.getD, List.getElem?_eq_none (by omega)]
      rfl
  apply List.ext_getElem hl
  intro i h1 h2
  have := h i
  simpa [List.getD, List.getElem?_eq_getElem h1, List.getElem?_eq_getElem h2] using this

theorem trim_ext {xs ys : List Int} (h : ∀ i, xs.getD i 0 = ys.getD i 0) : trim xs = trim ys :=
  canon (trim_last xs) (trim_last ys) fun i => by rw [getD_trim, getD_trim]; exact h i

theorem getD_joined (xs ys : List Int) (n i : Nat) (hx : xs.length ≤ n) (hy : ys.length ≤ n) : (joined xs ys n).getD i 0 = max (xs.getD i 0) (ys.getD i 0) := by
  by_cases hi : i < n
  · have h0 : ¬ ((i : Int) < 0) := by omega
    simp [joined, List.getD, hi, hand, h0]
  · have h1 : xs.getD i 0 = 0 := by simp [List.getD, show xs.length ≤ i by omega]
    have h2 : ys.getD i 0 = 0 := by simp [List.getD, show ys.length ≤ i by omega]
    rw [h1, h2]
    simp [joined, List.getD, hi]

theorem getD_join (xs ys : List Int) (i : Nat) : (join xs ys).getD i 0 = max (xs.getD i 0) (ys.getD i 0) := by
  rw [join, getD_trim, getD_joined _ _ _ _ (by omega) (by omega)]

theorem join_last (xs ys : List Int) (h : join xs ys ≠ []) : (join xs ys).getD ((join xs ys).length - 1) 0 ≠ 0 := trim_last _ h

theorem join_ext {xs ys us vs : List Int} (h : ∀ i, max (xs.getD i 0) (ys.getD i 0) = max (us.getD i 0) (vs.getD i 0)) : join xs ys = join us vs :=
  canon (join_last _ _) (join_last _ _) fun i => by rw [getD_join, getD_join]; exact h i

theorem getD_nil (i : Nat) : ([] : List Int).getD i 0 = 0 := by simp

theorem within_iff {xs ys : List Int} (hy : Pos ys) : within xs ys = true ↔ ∀ i, xs.getD i 0 ≤ ys.getD i 0 := by
  unfold within
  rw [List.all_eq_true]
  constructor
  · intro h i
    by_cases hi : i < xs.length
    · have := h i (by simpa using hi)
      rw [hand_nat] at this
      exact of_decide_eq_true this
    · rw [show xs.getD i 0 = 0 by simp [List.getD, show xs.length ≤ i by omega]]
      exact hy.getD i
  · intro h i _
    rw [hand_nat]
    exact decide_eq_true (h i)

theorem Pos.join {xs ys : List Int} (hx : Pos xs) (hy : Pos ys) : Pos (join xs ys) := by
  intro x hxm
  obtain ⟨i, hi, rfl⟩ := List.getElem_of_mem hxm
  have := getD_join xs ys i
  simp only [List.getD, List.getElem?_eq_getElem hi, Option.getD_some] at this
  rw [this]
  have := hx.getD i
  simp only [List.getD] at this
  omega

theorem join_length (xs ys : List Int) : (join xs ys).length ≤ max xs.length ys.length := by
  have := (trim_prefix (joined xs ys (max xs.length ys.length))).2
  simpa [join, joined] using this

theorem tick_length (xs : List Int) (i : Nat) (_hi : i ≤ 65535) : (tick xs i).length ≤ max xs.length 65536 := by
  unfold tick
  split
  · have := (trim_prefix ((padded xs (i : Int).toNat).set (i : Int).toNat ((hand xs i + 1) % 18446744073709551616))).2
    simp only [List.length_set, padded, List.length_append, List.length_replicate, Int.toNat_natCast] at this ⊢
    omega
  · have := (trim_prefix xs).2
    omega

/-! ### the first law -/
theorem join_comm (xs ys : List Int) : join xs ys = join ys xs := join_ext fun i => Int.max_comm _ _
theorem join_assoc (xs ys zs : List Int) : join xs (join ys zs) = join (join xs ys) zs := join_ext fun i => by rw [getD_join, getD_join, Int.max_assoc]
theorem join_self {xs : List Int} (hx : Pos xs) : join xs xs = join xs [] := join_ext fun i => by have := hx.getD i; rw [getD_nil]; omega
theorem join_within {xs ys zs : List Int} (hz : Pos zs) : within (join xs ys) zs = (within xs zs && within ys zs) := by
  rw [Bool.eq_iff_iff, Bool.and_eq_true, within_iff hz, within_iff hz, within_iff hz]
  constructor
  · intro h
    exact ⟨fun i => by have := h i; rw [getD_join] at this; omega, fun i => by have := h i; rw [getD_join] at this; omega⟩
  · rintro ⟨h1, h2⟩ i
    rw [getD_join]
    have := h1 i; have := h2 i
    omega

/-! ### the second law -/
theorem within_refl {xs : List Int} (hx : Pos xs) : within xs xs = true := (within_iff hx).2 fun _ => Int.le_refl _
theorem within_trans {xs ys zs : List Int} (hy : Pos ys) (hz : Pos zs) (h1 : within xs ys = true) (h2 : within ys zs = true) : within xs zs = true :=
  (within_iff hz).2 fun i => Int.le_trans ((within_iff hy).1 h1 i) ((within_iff hz).1 h2 i)
theorem within_anti {xs ys : List Int} (hx : Pos xs) (hy : Pos ys) : (within xs ys && within ys xs) = decide (join xs [] = join ys []) := by
  rw [Bool.eq_iff_iff, Bool.and_eq_true, within_iff hx, within_iff hy, decide_eq_true_iff]
  constructor
  · rintro ⟨h1, h2⟩
    refine join_ext fun i => ?_
    have := h1 i; have := h2 i
    rw [show xs.getD i 0 = ys.getD i 0 by omega]
  · intro h
    have e : ∀ i, xs.getD i 0 = ys.getD i 0 := fun i => by
      have := congrArg (fun l => l.getD i 0) h
      simp only [getD_join, getD_nil] at this
      have := hx.getD i; have := hy.getD i
      omega
    exact ⟨fun i => by rw [e i]; exact Int.le_refl _, fun i => by rw [e i]; exact Int.le_refl _⟩

/-! ### the third law -/
theorem getD_padded (xs : List Int) (i k : Nat) : (padded xs i).getD k 0 = xs.getD k 0 := by
  unfold padded
  by_cases h : k < xs.length
  · simp [List.getD, List.getElem?_append_left h]
  · simp only [List.getD]
    rw [List.getElem?_append_right (by omega), List.getElem?_eq_none (by omega : xs.length ≤ k), List.getElem?_replicate]
    split <;> rfl

theorem getD_tick {xs : List Int} (hx : Pos xs) {i : Nat} (hi : i ≤ 65535) (hm : xs.getD i 0 < 18446744073709551615) (k : Nat) : (tick xs i).getD k 0 = xs.getD k 0 + if k = i then 1 else 0 := by
  unfold tick
  rw [if_pos ⟨by omega, by omega⟩, getD_trim, Int.toNat_natCast, hand_nat]
  have hlen : i < (padded xs i).length := by simp [padded]; omega
  by_cases hk : k = i
  · subst hk
    rw [if_pos rfl]
    simp only [List.getD]
    rw [List.getElem?_set_self hlen]
    have := hx.getD k
    simp only [List.getD] at this hm
    simp only [Option.getD_some]
    omega
  · rw [if_neg hk]
    have := getD_padded xs i k
    simp only [List.getD] at this ⊢
    rw [List.getElem?_set_ne (by omega)]
    omega

theorem tick_last (xs : List Int) (i : Int) (h : tick xs i ≠ []) : (tick xs i).getD ((tick xs i).length - 1) 0 ≠ 0 := by
  unfold tick at *
  split at h
  · rename_i hh; rw [if_pos hh]; exact trim_last _ h
  · rename_i hh; rw [if_neg hh]; exact trim_last _ h

theorem Pos.tick {xs : List Int} (hx : Pos xs) {i : Nat} (hi : i ≤ 65535) (hm : xs.getD i 0 < 18446744073709551615) : Pos (tick xs i) := by
  intro x hxm
  obtain ⟨k, hk, rfl⟩ := List.getElem_of_mem hxm
  have := getD_tick hx hi hm k
  simp only [List.getD, List.getElem?_eq_getElem hk, Option.getD_some] at this
  rw [this]
  have := hx.getD k
  simp only [List.getD] at this
  split <;> omega

section
variable {xs : List Int} (hx : Pos xs) {i j : Nat} (hi : i ≤ 65535) (hj : j ≤ 65535) (hm : xs.getD i 0 < 18446744073709551615) (hm' : xs.getD j 0 < 18446744073709551615)
include hx hi hm
theorem tick_on : within xs (tick xs i) = true := by
  rw [within_iff (hx.tick hi hm)]
  intro k
  rw [getD_tick hx hi hm]
  split <;> omega
theorem tick_back : within (tick xs i) xs = false := by
  rw [Bool.eq_false_iff]
  intro h
  have := (within_iff hx).1 h i
  rw [getD_tick hx hi hm, if_pos rfl] at this
  omega
theorem tick_hand : hand (tick xs i) i = hand xs i + 1 := by rw [hand_nat, hand_nat, getD_tick hx hi hm, if_pos rfl]
theorem tick_other (h : i ≠ j) : hand (tick xs i) j = hand xs j := by rw [hand_nat, hand_nat, getD_tick hx hi hm, if_neg (by omega)]; omega
include hj hm'
theorem tick_apart (h : i ≠ j) : within (tick xs i) (tick xs j) = false := by
  rw [Bool.eq_false_iff]
  intro h'
  have := (within_iff (hx.tick hj hm')).1 h' i
  rw [getD_tick hx hi hm, getD_tick hx hj hm', if_pos rfl, if_neg h] at this
  omega
theorem tick_join (h : i ≠ j) : join (tick xs i) (tick xs j) = tick (tick xs i) j := by
  have hm2 : (tick xs i).getD j 0 < 18446744073709551615 := by rw [getD_tick hx hi hm, if_neg (by omega)]; omega
  refine canon (join_last _ _) (tick_last _ _) fun k => ?_
  rw [getD_join, getD_tick hx hi hm, getD_tick hx hj hm', getD_tick (hx.tick hi hm) hj hm2, getD_tick hx hi hm]
  split <;> split <;> omega
end
end Go.Proofs.Ytphbegadddamgaa.Vec
