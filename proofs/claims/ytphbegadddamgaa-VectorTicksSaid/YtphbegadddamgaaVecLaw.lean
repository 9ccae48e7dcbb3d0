/-
  Clocks of many hands, as lists of numbers.
-/
namespace Go.Proofs.Ytphbegadddamgaa.Vec

def hand (xs : List Int) (i : Int) : Int := if i < 0 then 0 else xs.getD i.toNat 0

/-- no noughts at the end -/
def trim (xs : List Int) : List Int := (xs.reverse.dropWhile (· == 0)).reverse

theorem take_snoc {xs : List Int} {k : Nat} {x : Int} (h : xs[k]? = some x) : xs.take (k + 1) = xs.take k ++ [x] := by
  obtain ⟨hk, rfl⟩ := List.getElem?_eq_some_iff.1 h
  exact List.take_succ_eq_append_getElem hk

theorem trim_zero {xs : List Int} {k : Nat} {x : Int} (h : xs[k]? = some x) (hz : (x == 0) = true) : trim (xs.take k) = trim (xs.take (k + 1)) := by
  have hx : x = 0 := by simpa using hz
  rw [take_snoc h, hx]
  simp [trim, List.dropWhile_cons]

theorem trim_stop {xs : List Int} {k : Nat} {x : Int} (h : xs[k]? = some x) (hz : (x == 0) = false) : trim (xs.take (k + 1)) = xs.take (k + 1) := by
  rw [take_snoc h]
  simp only [trim, List.reverse_append, List.reverse_cons, List.reverse_nil, List.nil_append, List.singleton_append, List.dropWhile_cons, hz]
  simp
end Go.Proofs.Ytphbegadddamgaa.Vec
namespace Go.Proofs.Ytphbegadddamgaa.Vec

/-- no hand of xs beyond that of ys, up to k -/
def within (xs ys : List Int) : Bool := (List.range xs.length).all fun (i : Nat) => decide (xs.getD i 0 ≤ hand ys i)

def joined (xs ys : List Int) (k : Nat) : List Int := (List.range k).map fun (i : Nat) => max (hand xs i) (hand ys i)

def join (xs ys : List Int) : List Int := trim (joined xs ys (max xs.length ys.length))

theorem within_succ (xs ys : List Int) (k : Nat) : (List.range (k + 1)).all (fun i => decide (xs.getD i 0 ≤ hand ys i)) = ((List.range k).all (fun i => decide (xs.getD i 0 ≤ hand ys i)) && decide (xs.getD k 0 ≤ hand ys k)) := by
  rw [List.range_succ, List.all_append]
  simp

theorem within_no {xs ys : List Int} {k : Nat} {x : Int} (h : xs[k]? = some x) (hx : hand ys k < x) : within xs ys = false := by
  obtain ⟨hk, rfl⟩ := List.getElem?_eq_some_iff.1 h
  simp only [within, List.all_eq_false]
  refine ⟨k, by simpa using hk, ?_⟩
  simp [List.getD, List.getElem?_eq_getElem hk]
  omega

theorem getD_of {xs : List Int} {k : Nat} {x : Int} (h : xs[k]? = some x) : xs.getD k 0 = x := by simp [List.getD, h]

def part (xs ys : List Int) (n k : Nat) : List Int := joined xs ys k ++ List.replicate (n - k) 0

theorem part_zero (xs ys : List Int) (n : Nat) : part xs ys n 0 = List.replicate n 0 := by simp [part, joined]
theorem part_full (xs ys : List Int) (n : Nat) : part xs ys n n = joined xs ys n := by simp [part]
theorem part_length (xs ys : List Int) (n k : Nat) (h : k ≤ n) : (part xs ys n k).length = n := by simp [part, joined]; omega
theorem part_get (xs ys : List Int) (n k : Nat) (h : k < n) : (part xs ys n k)[k]? = some 0 := by
  unfold part
  obtain ⟨m, hm⟩ : ∃ m, n - k = m + 1 := ⟨n - k - 1, by omega⟩
  rw [List.getElem?_append_right (by simp [joined]), hm]
  simp [joined, List.replicate_succ]
theorem part_set (xs ys : List Int) (n k : Nat) (h : k < n) : (part xs ys n k).set k (max (hand xs k) (hand ys k)) = part xs ys n (k + 1) := by
  unfold part
  obtain ⟨m, hm⟩ : ∃ m, n - k = m + 1 := ⟨n - k - 1, by omega⟩
  rw [hm, show n - (k + 1) = m by omega, List.set_append_right _ _ (by simp [joined])]
  simp [joined, List.range_succ, List.replicate_succ]

theorem trim_prefix (xs : List Int) : trim xs = xs.take (trim xs).length ∧ (trim xs).length ≤ xs.length := by
  have h : trim xs <+: xs := by
    unfold trim
    have := List.dropWhile_suffix (l := xs.reverse) (· == 0)
    have := List.reverse_prefix.2 this
    rwa [List.reverse_reverse] at this
  exact ⟨(List.prefix_iff_eq_take.1 h), h.length_le⟩
def padded (xs : List Int) (i : Nat) : List Int := xs ++ List.replicate (i + 1 - xs.length) 0

def tick (xs : List Int) (i : Int) : List Int :=
  if 0 ≤ i ∧ i ≤ 65535 then trim ((padded xs i.toNat).set i.toNat ((hand xs i + 1) % 18446744073709551616)) else trim xs

theorem hand_padded (xs : List Int) (i : Nat) : (padded xs i)[i]? = some (hand xs i) := by
  unfold padded hand
  rw [if_neg (by omega)]
  by_cases h : i < xs.length
  · rw [List.getElem?_append_left h]
    simp [List.getElem?_eq_getElem h]
  · obtain ⟨m, hm⟩ : ∃ m, i + 1 - xs.length = m + 1 := ⟨i - xs.length, by omega⟩
    rw [List.getElem?_append_right (by omega), hm, List.getElem?_replicate, if_pos (by omega)]
    simp [List.getD, show xs.length ≤ i by omega]
theorem padded_full (xs : List Int) (i k : Nat) (h : ¬ xs.length + k ≤ i) (hk : k ≤ i + 1 - xs.length) : xs ++ List.replicate k 0 = padded xs i := by
  rw [padded, show k = i + 1 - xs.length by omega]
end Go.Proofs.Ytphbegadddamgaa.Vec
