/-
  hb.Ahead, walked.
-/
import Derived.Test.YtoddhfabeiimkaaDqP1
import Derived.Test.YtoddhfabeiimkaaChecked
import Derived.Maps.OwnOps
import Derived.Maps.Views
import Derived.Orders
import Derived.WalkKit
import Derived.StillTail
import Derived.Deep.DeepCutAuto

namespace Go.Proofs.Ytoddhfabeiimkaa
set_option linter.unusedVariables false
set_option linter.unusedSimpArgs false
set_option maxRecDepth 100000
open Go

def fieldsOf (P : Program) (t : TypeId) : Array Field := match P.underlying t with | some (.struct fs) => fs | _ => #[]
end Go.Proofs.Ytoddhfabeiimkaa


namespace Go.Proofs.Ytoddhfabeiimkaa.Vec
set_option linter.unusedVariables false
set_option linter.unusedSimpArgs false
set_option maxRecDepth 100000

def hand (xs : List Int) (i : Int) : Int := if i < 0 then 0 else xs.getD i.toNat 0

/-- no noughts at the end -/
def trim (xs : List Int) : List Int := (xs.reverse.dropWhile (· == 0)).reverse

theorem take_snoc {xs : List Int} {k : Nat} {x : Int} (h : xs[k]? = some x) : xs.take (k + 1) = xs.take k ++ [x] := by
  obtain ⟨hk, rfl⟩ := List.getElem?_eq_some_iff.1 h
  exact List.take_succ_eq_append_getElem hk

theorem trim_zero {xs : List Int} {k : Nat} {x : Int} (h : xs[k]? = some x) (hz : (x == 0) = true) : trim (xs.take k) = trim (xs.take (k + 1)) := by
  have hx : x = 0 := by simpa using hz
  rw [take_snoc h, hx]
  simp [trim, List.dropWhile_cons]

theorem trim_stop {xs : List Int} {k : Nat} {x : Int} (h : xs[k]? = some x) (hz : (x == 0) = false) : trim (xs.take (k + 1)) = xs.take (k + 1) := by
  rw [take_snoc h]
  simp only [trim, List.reverse_append, List.reverse_cons, List.reverse_nil, List.nil_append, List.singleton_append, List.dropWhile_cons, hz]
  simp
end Go.Proofs.Ytoddhfabeiimkaa.Vec
namespace Go.Proofs.Ytoddhfabeiimkaa.Vec

/-- no hand of xs beyond that of ys, up to k -/
def within (xs ys : List Int) : Bool := (List.range xs.length).all fun (i : Nat) => decide (xs.getD i 0 ≤ hand ys i)

def joined (xs ys : List Int) (k : Nat) : List Int := (List.range k).map fun (i : Nat) => max (hand xs i) (hand ys i)

def join (xs ys : List Int) : List Int := trim (joined xs ys (max xs.length ys.length))

theorem within_succ (xs ys : List Int) (k : Nat) : (List.range (k + 1)).all (fun i => decide (xs.getD i 0 ≤ hand ys i)) = ((List.range k).all (fun i => decide (xs.getD i 0 ≤ hand ys i)) && decide (xs.getD k 0 ≤ hand ys k)) := by
  rw [List.range_succ, List.all_append]
  simp

theorem within_no {xs ys : List Int} {k : Nat} {x : Int} (h : xs[k]? = some x) (hx : hand ys k < x) : within xs ys = false := by
  obtain ⟨hk, rfl⟩ := List.getElem?_eq_some_iff.1 h
  simp only [within, List.all_eq_false]
  refine ⟨k, by simpa using hk, ?_⟩
  simp [List.getD, List.getElem?_eq_getElem hk]
  omega

theorem getD_of {xs : List Int} {k : Nat} {x : Int} (h : xs[k]? = some x) : xs.getD k 0 = x := by simp [List.getD, h]

def part (xs ys : List Int) (n k : Nat) : List Int := joined xs ys k ++ List.replicate (n - k) 0

theorem part_zero (xs ys : List Int) (n : Nat) : part xs ys n 0 = List.replicate n 0 := by simp [part, joined]
theorem part_full (xs ys : List Int) (n : Nat) : part xs ys n n = joined xs ys n := by simp [part]
theorem part_length (xs ys : List Int) (n k : Nat) (h : k ≤ n) : (part xs ys n k).length = n := by simp [part, joined]; omega
theorem part_get (xs ys : List Int) (n k : Nat) (h : k < n) : (part xs ys n k)[k]? = some 0 := by
  unfold part
  obtain ⟨m, hm⟩ : ∃ m, n - k = m + 1 := ⟨n - k - 1, by omega⟩
  rw [List.getElem?_append_right (by simp [joined]), hm]
  simp [joined, List.replicate_succ]
theorem part_set (xs ys : List Int) (n k : Nat) (h : k < n) : (part xs ys n k).set k (max (hand xs k) (hand ys k)) = part xs ys n (k + 1) := by
  unfold part
  obtain ⟨m, hm⟩ : ∃ m, n - k = m + 1 := ⟨n - k - 1, by omega⟩
  rw [hm, show n - (k + 1) = m by omega, List.set_append_right _ _ (by simp [joined])]
  simp [joined, List.range_succ, List.replicate_succ]

theorem trim_prefix (xs : List Int) : trim xs = xs.take (trim xs).length ∧ (trim xs).length ≤ xs.length := by
  have h : trim xs <+: xs := by
    unfold trim
    have := List.dropWhile_suffix (l := xs.reverse) (· == 0)
    have := List.reverse_prefix.2 this
    rwa [List.reverse_reverse] at this
  exact ⟨(List.prefix_iff_eq_take.1 h), h.length_le⟩
def padded (xs : List Int) (i : Nat) : List Int := xs ++ List.replicate (i + 1 - xs.length) 0

def tick (xs : List Int) (i : Int) : List Int :=
  if 0 ≤ i ∧ i ≤ 65535 then trim ((padded xs i.toNat).set i.toNat ((hand xs i + 1) % 18446744073709551616)) else trim xs

theorem hand_padded (xs : List Int) (i : Nat) : (padded xs i)[i]? = some (hand xs i) := by
  unfold padded hand
  rw [if_neg (by omega)]
  by_cases h : i < xs.length
  · rw [List.getElem?_append_left h]
    simp [List.getElem?_eq_getElem h]
  · obtain ⟨m, hm⟩ : ∃ m, i + 1 - xs.length = m + 1 := ⟨i - xs.length, by omega⟩
    rw [List.getElem?_append_right (by omega), hm, List.getElem?_replicate, if_pos (by omega)]
    simp [List.getD, show xs.length ≤ i by omega]
theorem padded_full (xs : List Int) (i k : Nat) (h : ¬ xs.length + k ≤ i) (hk : k ≤ i + 1 - xs.length) : xs ++ List.replicate k 0 = padded xs i := by
  rw [padded, show k = i + 1 - xs.length by omega]
end Go.Proofs.Ytoddhfabeiimkaa.Vec


namespace Go.Proofs.Ytoddhfabeiimkaa.Vec
set_option linter.unusedVariables false
set_option linter.unusedSimpArgs false
set_option maxRecDepth 100000

def Pos (xs : List Int) : Prop := ∀ x ∈ xs, 0 ≤ x

theorem Pos.getD {xs : List Int} (h : Pos xs) (i : Nat) : 0 ≤ xs.getD i 0 := by
  by_cases hi : i < xs.length
  · simp [List.getD, List.getElem?_eq_getElem hi]; exact h _ (List.getElem_mem hi)
  · simp [List.getD, show xs.length ≤ i by omega]

theorem hand_nat (xs : List Int) (i : Nat) : hand xs i = xs.getD i 0 := by
  unfold hand
  rw [if_neg (by omega), Int.toNat_natCast]

theorem getD_trim (xs : List Int) (i : Nat) : (trim xs).getD i 0 = xs.getD i 0 := by
  obtain ⟨n, hn⟩ : ∃ n, n = xs.length := ⟨_, rfl⟩
  have key : ∀ n, n ≤ xs.length → (∀ k, (trim (xs.take n)).getD k 0 = (xs.take n).getD k 0) := by
    intro n
    induction n with
    | zero => intro _ k; simp [trim]
    | succ n ih =>
      intro hn k
      have hx : xs[n]? = some xs[n] := List.getElem?_eq_getElem (by omega)
      rcases hz : xs[n] == 0 with _ | _
      · rw [trim_stop hx hz]
      · rw [← trim_zero hx hz, ih (by omega), take_snoc hx]
        have hz' : xs[n] = 0 := by simpa using hz
        rw [hz']
        by_cases hk : k < n
        · simp only [List.getD]
          rw [List.getElem?_append_left (by simp; omega)]
        · simp only [List.getD]
          rw [List.getElem?_append_right (by simp; omega), List.getElem?_eq_none (by simp; omega)]
          rcases hkn : k - (xs.take n).length with _ | m
          · simp
          · simp
  have := key xs.length (Nat.le_refl _) i
  rwa [List.take_length] at this

theorem trim_last (xs : List Int) (h : trim xs ≠ []) : (trim xs).getD ((trim xs).length - 1) 0 ≠ 0 := by
  unfold trim at *
  rcases hd : xs.reverse.dropWhile (· == 0) with _ | ⟨y, ys⟩
  · rw [hd] at h; simp at h
  · have hy : (y == 0) = false := by
      have := List.head?_dropWhile_not (· == 0) xs.reverse
      rw [hd] at this
      simpa using this
    simp only [List.reverse_cons, List.length_append, List.length_reverse, List.length_cons, List.length_nil, List.getD]
    rw [List.getElem?_append_right (by simp)]
    simpa using hy

theorem canon {a b : List Int} (ha : a ≠ [] → a.getD (a.length - 1) 0 ≠ 0) (hb : b ≠ [] → b.getD (b.length - 1) 0 ≠ 0) (h : ∀ i, a.getD i 0 = b.getD i 0) : a = b := by
  have hl : a.length = b.length := by
    rcases Nat.lt_trichotomy a.length b.length with hlt | he | hgt
    · exfalso
      have hb0 : b ≠ [] := by intro h0; subst h0; simp at hlt
      refine hb hb0 ?_
      rw [← h, List.getD, List.getElem?_eq_none (by omega)]
      rfl
    · exact he
    · exfalso
      have ha0 : a ≠ [] := by intro h0; subst h0; simp at hgt
      refine ha ha0 ?_
      rw [h, List.getD, List.getElem?_eq_none (by omega)]
      rfl
  apply List.ext_getElem hl
  intro i h1 h2
  have := h i
  simpa [List.getD, List.getElem?_eq_getElem h1, List.getElem?_eq_getElem h2] using this

theorem trim_ext {xs ys : List Int} (h : ∀ i, xs.getD i 0 = ys.getD i 0) : trim xs = trim ys :=
  canon (trim_last xs) (trim_last ys) fun i => by rw [getD_trim, getD_trim]; exact h i

theorem getD_joined (xs ys : List Int) (n i : Nat) (hx : xs.length ≤ n) (hy : ys.length ≤ n) : (joined xs ys n).getD i 0 = max (xs.getD i 0) (ys.getD i 0) := by
  by_cases hi : i < n
  · have h0 : ¬ ((i : Int) < 0) := by omega
    simp [joined, List.getD, hi, hand, h0]
  · have h1 : xs.getD i 0 = 0 := by simp [List.getD, show xs.length ≤ i by omega]
    have h2 : ys.getD i 0 = 0 := by simp [List.getD, show ys.length ≤ i by omega]
    rw [h1, h2]
    simp [joined, List.getD, hi]

theorem getD_join (xs ys : List Int) (i : Nat) : (join xs ys).getD i 0 = max (xs.getD i 0) (ys.getD i 0) := by
  rw [join, getD_trim, getD_joined _ _ _ _ (by omega) (by omega)]

theorem join_last (xs ys : List Int) (h : join xs ys ≠ []) : (join xs ys).getD ((join xs ys).length - 1) 0 ≠ 0 := trim_last _ h

theorem join_ext {xs ys us vs : List Int} (h : ∀ i, max (xs.getD i 0) (ys.getD i 0) = max (us.getD i 0) (vs.getD i 0)) : join xs ys = join us vs :=
  canon (join_last _ _) (join_last _ _) fun i => by rw [getD_join, getD_join]; exact h i

theorem getD_nil (i : Nat) : ([] : List Int).getD i 0 = 0 := by simp

theorem within_iff {xs ys : List Int} (hy : Pos ys) : within xs ys = true ↔ ∀ i, xs.getD i 0 ≤ ys.getD i 0 := by
  unfold within
  rw [List.all_eq_true]
  constructor
  · intro h i
    by_cases hi : i < xs.length
    · have := h i (by simpa using hi)
      rw [hand_nat] at this
      exact of_decide_eq_true this
    · rw [show xs.getD i 0 = 0 by simp [List.getD, show xs.length ≤ i by omega]]
      exact hy.getD i
  · intro h i _
    rw [hand_nat]
    exact decide_eq_true (h i)

theorem Pos.join {xs ys : List Int} (hx : Pos xs) (hy : Pos ys) : Pos (join xs ys) := by
  intro x hxm
  obtain ⟨i, hi, rfl⟩ := List.getElem_of_mem hxm
  have := getD_join xs ys i
  simp only [List.getD, List.getElem?_eq_getElem hi, Option.getD_some] at this
  rw [this]
  have := hx.getD i
  simp only [List.getD] at this
  omega

theorem join_length (xs ys : List Int) : (join xs ys).length ≤ max xs.length ys.length := by
  have := (trim_prefix (joined xs ys (max xs.length ys.length))).2
  simpa [join, joined] using this

theorem tick_length (xs : List Int) (i : Nat) (_hi : i ≤ 65535) : (tick xs i).length ≤ max xs.length 65536 := by
  unfold tick
  split
  · have := (trim_prefix ((padded xs (i : Int).toNat).set (i : Int).toNat ((hand xs i + 1) % 18446744073709551616))).2
    simp only [List.length_set, padded, List.length_append, List.length_replicate, Int.toNat_natCast] at this ⊢
    omega
  · have := (trim_prefix xs).2
    omega

/-! ### the first law -/
theorem join_comm (xs ys : List Int) : join xs ys = join ys xs := join_ext fun i => Int.max_comm _ _
theorem join_assoc (xs ys zs : List Int) : join xs (join ys zs) = join (join xs ys) zs := join_ext fun i => by rw [getD_join, getD_join, Int.max_assoc]
theorem join_self {xs : List Int} (hx : Pos xs) : join xs xs = join xs [] := join_ext fun i => by have := hx.getD i; rw [getD_nil]; omega
theorem join_within {xs ys zs : List Int} (hz : Pos zs) : within (join xs ys) zs = (within xs zs && within ys zs) := by
  rw [Bool.eq_iff_iff, Bool.and_eq_true, within_iff hz, within_iff hz, within_iff hz]
  constructor
  · intro h
    exact ⟨fun i => by have := h i; rw [getD_join] at this; omega, fun i => by have := h i; rw [getD_join] at this; omega⟩
  · rintro ⟨h1, h2⟩ i
    rw [getD_join]
    have := h1 i; have := h2 i
    omega

/-! ### the second law -/
theorem within_refl {xs : List Int} (hx : Pos xs) : within xs xs = true := (within_iff hx).2 fun _ => Int.le_refl _
theorem within_trans {xs ys zs : List Int} (hy : Pos ys) (hz : Pos zs) (h1 : within xs ys = true) (h2 : within ys zs = true) : within xs zs = true :=
  (within_iff hz).2 fun i => Int.le_trans ((within_iff hy).1 h1 i) ((within_iff hz).1 h2 i)
theorem within_anti {xs ys : List Int} (hx : Pos xs) (hy : Pos ys) : (within xs ys && within ys xs) = decide (join xs [] = join ys []) := by
  rw [Bool.eq_iff_iff, Bool.and_eq_true, within_iff hx, within_iff hy, decide_eq_true_iff]
  constructor
  · rintro ⟨h1, h2⟩
    refine join_ext fun i => ?_
    have := h1 i; have := h2 i
    rw [show xs.getD i 0 = ys.getD i 0 by omega]
  · intro h
    have e : ∀ i, xs.getD i 0 = ys.getD i 0 := fun i => by
      have := congrArg (fun l => l.getD i 0) h
      simp only [getD_join, getD_nil] at this
      have := hx.getD i; have := hy.getD i
      omega
    exact ⟨fun i => by rw [e i]; exact Int.le_refl _, fun i => by rw [e i]; exact Int.le_refl _⟩

/-! ### the third law -/
theorem getD_padded (xs : List Int) (i k : Nat) : (padded xs i).getD k 0 = xs.getD k 0 := by
  unfold padded
  by_cases h : k < xs.length
  · simp [List.getD, List.getElem?_append_left h]
  · simp only [List.getD]
    rw [List.getElem?_append_right (by omega), List.getElem?_eq_none (by omega : xs.length ≤ k), List.getElem?_replicate]
    split <;> rfl

theorem getD_tick {xs : List Int} (hx : Pos xs) {i : Nat} (hi : i ≤ 65535) (hm : xs.getD i 0 < 18446744073709551615) (k : Nat) : (tick xs i).getD k 0 = xs.getD k 0 + if k = i then 1 else 0 := by
  unfold tick
  rw [if_pos ⟨by omega, by omega⟩, getD_trim, Int.toNat_natCast, hand_nat]
  have hlen : i < (padded xs i).length := by simp [padded]; omega
  by_cases hk : k = i
  · subst hk
    rw [if_pos rfl]
    simp only [List.getD]
    rw [List.getElem?_set_self hlen]
    have := hx.getD k
    simp only [List.getD] at this hm
    simp only [Option.getD_some]
    omega
  · rw [if_neg hk]
    have := getD_padded xs i k
    simp only [List.getD] at this ⊢
    rw [List.getElem?_set_ne (by omega)]
    omega

theorem tick_last (xs : List Int) (i : Int) (h : tick xs i ≠ []) : (tick xs i).getD ((tick xs i).length - 1) 0 ≠ 0 := by
  unfold tick at *
  split at h
  · rename_i hh; rw [if_pos hh]; exact trim_last _ h
  · rename_i hh; rw [if_neg hh]; exact trim_last _ h

theorem Pos.tick {xs : List Int} (hx : Pos xs) {i : Nat} (hi : i ≤ 65535) (hm : xs.getD i 0 < 18446744073709551615) : Pos (tick xs i) := by
  intro x hxm
  obtain ⟨k, hk, rfl⟩ := List.getElem_of_mem hxm
  have := getD_tick hx hi hm k
  simp only [List.getD, List.getElem?_eq_getElem hk, Option.getD_some] at this
  rw [this]
  have := hx.getD k
  simp only [List.getD] at this
  split <;> omega

section
variable {xs : List Int} (hx : Pos xs) {i j : Nat} (hi : i ≤ 65535) (hj : j ≤ 65535) (hm : xs.getD i 0 < 18446744073709551615) (hm' : xs.getD j 0 < 18446744073709551615)
include hx hi hm
theorem tick_on : within xs (tick xs i) = true := by
  rw [within_iff (hx.tick hi hm)]
  intro k
  rw [getD_tick hx hi hm]
  split <;> omega
theorem tick_back : within (tick xs i) xs = false := by
  rw [Bool.eq_false_iff]
  intro h
  have := (within_iff hx).1 h i
  rw [getD_tick hx hi hm, if_pos rfl] at this
  omega
theorem tick_hand : hand (tick xs i) i = hand xs i + 1 := by rw [hand_nat, hand_nat, getD_tick hx hi hm, if_pos rfl]
theorem tick_other (h : i ≠ j) : hand (tick xs i) j = hand xs j := by rw [hand_nat, hand_nat, getD_tick hx hi hm, if_neg (by omega)]; omega
include hj hm'
theorem tick_apart (h : i ≠ j) : within (tick xs i) (tick xs j) = false := by
  rw [Bool.eq_false_iff]
  intro h'
  have := (within_iff (hx.tick hj hm')).1 h' i
  rw [getD_tick hx hi hm, getD_tick hx hj hm', if_pos rfl, if_neg h] at this
  omega
theorem tick_join (h : i ≠ j) : join (tick xs i) (tick xs j) = tick (tick xs i) j := by
  have hm2 : (tick xs i).getD j 0 < 18446744073709551615 := by rw [getD_tick hx hi hm, if_neg (by omega)]; omega
  refine canon (join_last _ _) (tick_last _ _) fun k => ?_
  rw [getD_join, getD_tick hx hi hm, getD_tick hx hj hm', getD_tick (hx.tick hi hm) hj hm2, getD_tick hx hi hm]
  split <;> split <;> omega
end
end Go.Proofs.Ytoddhfabeiimkaa.Vec


namespace Go.Proofs.Ytoddhfabeiimkaa.Hb
set_option linter.unusedVariables false
set_option linter.unusedSimpArgs false
set_option maxRecDepth 100000
open Vec

structure Ev where
  kind : Int
  act : Int
  other : Int
  cell : Int
  write : Bool
  label : Int

def known (n : Int) : Prop := 0 ≤ n ∧ n < 200
instance (n : Int) : Decidable (known n) := by unfold known; infer_instance
abbrev Now := Int → List Int
def upd (now : Now) (a : Int) (c : List Int) : Now := fun x => if x = a then c else now x
/-- an event's clock -/
def clk (now : Now) (e : Ev) : List Int :=
  if known e.act then (if known e.other ∧ e.kind = 4 then join (tick (now e.act) e.act) (now e.other) else tick (now e.act) e.act) else []
def one (now : Now) (e : Ev) : Now := if known e.act then upd now e.act (clk now e) else now
def step (now : Now) (e : Ev) : Now := if known e.act then (if known e.other ∧ e.kind = 2 then upd (one now e) e.other (join (one now e e.other) (clk now e)) else one now e) else now
def clks : Now → List Ev → List (List Int)
  | _, [] => []
  | now, e :: l => clk now e :: clks (step now e) l
def after (now : Now) (l : List Ev) : Now := l.foldl step now
theorem clks_length : ∀ (l : List Ev) (now : Now), (clks now l).length = l.length
  | [], _ => rfl
  | e :: l, now => by rw [clks, List.length_cons, clks_length l, List.length_cons]
theorem clks_append : ∀ (a b : List Ev) (now : Now), clks now (a ++ b) = clks now a ++ clks (after now a) b
  | [], _, _ => rfl
  | e :: a, b, now => by rw [List.cons_append, clks, clks_append a, clks]; rfl
theorem after_append (a b : List Ev) (now : Now) : after now (a ++ b) = after (after now a) b := by simp [after]
theorem clks_snoc (l : List Ev) (k : Nat) (h : k < l.length) (now : Now) : clks now (l.take (k + 1)) = clks now (l.take k) ++ [clk (after now (l.take k)) l[k]] := by
  rw [List.take_succ_eq_append_getElem h, clks_append]
  rfl
theorem after_snoc (l : List Ev) (k : Nat) (h : k < l.length) (now : Now) : after now (l.take (k + 1)) = step (after now (l.take k)) l[k] := by
  rw [List.take_succ_eq_append_getElem h, after_append]
  rfl
theorem clks_get (l : List Ev) (now : Now) (k : Nat) (h : k < l.length) : (clks now l)[k]? = some (clk (after now (l.take k)) l[k]) := by
  have e : l = l.take k ++ l[k] :: l.drop (k + 1) := by rw [List.getElem_cons_drop, List.take_append_drop]
  have := clks_append (l.take k) (l[k] :: l.drop (k + 1)) now
  rw [← e] at this
  rw [this, List.getElem?_append_right (by rw [clks_length, List.length_take]; omega), clks_length, List.length_take, Nat.min_eq_left (Nat.le_of_lt h), Nat.sub_self]
  rfl

/-- what holds of the clocks of all hands behind some events (of which P tells), of which there were at most t -/
structure Inv (P : Int → List Int → Prop) (now : Now) (t : Nat) : Prop where
  pos : ∀ x, Pos (now x)
  le : ∀ x (k : Nat), (now x).getD k 0 ≤ t
  own : ∀ x (a : Nat), a < 200 → (now x).getD a 0 ≤ (now a).getD a 0
  past : ∀ a c, P a c → known a ∧ ∀ k : Nat, c.getD k 0 ≤ (now a).getD k 0
  up : ∀ a c, P a c → ∀ x, c.getD a.toNat 0 ≤ (now x).getD a.toNat 0 → ∀ k : Nat, c.getD k 0 ≤ (now x).getD k 0

theorem known_nat {a : Int} (h : known a) : ∃ n : Nat, a = n ∧ n < 200 := ⟨a.toNat, by unfold known at h; omega, by unfold known at h; omega⟩

section
variable {P : Int → List Int → Prop} {now : Now} {t : Nat} {e : Ev}
/-- the clock of an event, hand by hand -/
theorem clk_own (h : Inv P now t) (ht : t < 18446744073709551615) {a : Nat} (ha : a < 200) (he : e.act = a) : (clk now e).getD a 0 = (now a).getD a 0 + 1 := by
  have hk : known e.act := by rw [he]; exact ⟨by omega, by omega⟩
  have h1 := h.le (a : Int) a
  have ht' := getD_tick (h.pos (a : Int)) (i := a) (by omega) (by omega) a
  rw [if_pos rfl] at ht'
  unfold clk
  rw [if_pos hk]
  split
  · rw [getD_join, he, ht']
    have := h.own e.other a ha
    omega
  · rw [he, ht']
theorem clk_other (h : Inv P now t) (ht : t < 18446744073709551615) {a : Nat} (ha : a < 200) (he : e.act = a) {k : Nat} (hk : k ≠ a) : ∃ y, (clk now e).getD k 0 = (now y).getD k 0 ∧ ∀ j : Nat, (now y).getD j 0 ≤ (clk now e).getD j 0 := by
  have hkn : known e.act := by rw [he]; exact ⟨by omega, by omega⟩
  have h1 := h.le (a : Int) a
  have ht' := fun j => getD_tick (h.pos (a : Int)) (i := a) (by omega) (by omega) j
  have hup : ∀ j, (now (a : Int)).getD j 0 ≤ (tick (now (a : Int)) (a : Int)).getD j 0 := fun j => by rw [ht' j]; split <;> omega
  have hkk := ht' k
  rw [if_neg hk, Int.add_zero] at hkk
  unfold clk
  rw [if_pos hkn, he]
  split
  · by_cases hle : (now e.other).getD k 0 ≤ (now (a : Int)).getD k 0
    · refine ⟨a, ?_, fun j => ?_⟩
      · rw [getD_join, hkk]; omega
      · rw [getD_join]; have := hup j; omega
    · refine ⟨e.other, ?_, fun j => ?_⟩
      · rw [getD_join, hkk]; omega
      · rw [getD_join]; omega
  · exact ⟨a, hkk, hup⟩
theorem clk_up (h : Inv P now t) (ht : t < 18446744073709551615) {a : Nat} (ha : a < 200) (he : e.act = a) (k : Nat) : (now (a : Int)).getD k 0 ≤ (clk now e).getD k 0 := by
  by_cases hk : k = a
  · subst hk
    rw [clk_own h ht ha he]; omega
  · have hkn : known e.act := by rw [he]; exact ⟨by omega, by omega⟩
    have ht' := getD_tick (h.pos (a : Int)) (i := a) (by omega) (by have := h.le (a : Int) a; omega) k
    unfold clk
    rw [if_pos hkn, he]
    split
    · rw [getD_join, ht']; split <;> omega
    · rw [ht']; split <;> omega
/-- what was ahead is ahead -/
theorem clk_past (h : Inv P now t) (ht : t < 18446744073709551615) {a : Nat} (ha : a < 200) (he : e.act = a) {b : Int} {c : List Int} (hp : P b c) (hle : c.getD b.toNat 0 ≤ (clk now e).getD b.toNat 0) (k : Nat) : c.getD k 0 ≤ (clk now e).getD k 0 := by
  obtain ⟨hb, hpast⟩ := h.past b c hp
  by_cases hba : b = a
  · subst hba
    exact Int.le_trans (hpast k) (clk_up h ht ha he k)
  · obtain ⟨n, rfl, hn⟩ := known_nat hb
    obtain ⟨y, h1, h2⟩ := clk_other h ht ha he (k := n) (by omega)
    rw [Int.toNat_natCast, h1] at hle
    exact Int.le_trans (h.up _ c hp y (by rw [Int.toNat_natCast]; exact hle) k) (h2 k)
theorem clk_pos (h : Inv P now t) (ht : t < 18446744073709551615) : Pos (clk now e) := by
  unfold clk
  split
  · rename_i hk
    obtain ⟨a, he, ha⟩ := known_nat hk
    have hT := (h.pos (a : Int)).tick (i := a) (by omega) (by have := h.le (a : Int) a; omega)
    rw [he]
    split
    · exact hT.join (h.pos _)
    · exact hT
  · intro x hx; cases hx
theorem clk_le (h : Inv P now t) (ht : t < 18446744073709551615) (k : Nat) : (clk now e).getD k 0 ≤ (t + 1 : Nat) := by
  by_cases hk : known e.act
  · obtain ⟨a, he, ha⟩ := known_nat hk
    by_cases hka : k = a
    · subst hka
      rw [clk_own h ht ha he]
      have := h.le (k : Int) k
      omega
    · obtain ⟨y, h1, -⟩ := clk_other h ht ha he hka
      rw [h1]
      have := h.le y k
      omega
  · unfold clk
    rw [if_neg hk]
    simp
    omega
/-- the event is done: its own clock is put -/
theorem Inv.one (h : Inv P now t) (ht : t < 18446744073709551615) {a : Nat} (ha : a < 200) (he : e.act = a) : Inv (fun b c => P b c ∨ (b = a ∧ c = clk now e)) (one now e) (t + 1) := by
  have hkn : known e.act := by rw [he]; exact ⟨by omega, by omega⟩
  have e1 : Hb.one now e = upd now a (clk now e) := by unfold Hb.one; rw [if_pos hkn, he]
  have same : ∀ x : Int, x ≠ a → Hb.one now e x = now x := fun x hx => by rw [e1]; unfold upd; rw [if_neg hx]
  have here : Hb.one now e a = clk now e := by rw [e1]; unfold upd; rw [if_pos rfl]
  refine ⟨fun x => ?_, fun x k => ?_, fun x b hb => ?_, fun b c hp => ?_, fun b c hp x hle k => ?_⟩
  · by_cases hx : x = a
    · rw [hx, here]; exact clk_pos h ht
    · rw [same x hx]; exact h.pos x
  · by_cases hx : x = a
    · rw [hx, here]; exact clk_le h ht k
    · rw [same x hx]; have := h.le x k; omega
  · by_cases hx : x = a
    · rw [hx, here]
      by_cases hba : b = a
      · subst hba; rw [here]; exact Int.le_refl _
      · rw [same b (by omega)]
        obtain ⟨y, h1, -⟩ := clk_other h ht ha he (k := b) hba
        rw [h1]
        exact h.own y b hb
    · rw [same x hx]
      by_cases hba : b = a
      · subst hba
        rw [here, clk_own h ht ha he]
        have := h.own x b hb
        omega
      · rw [same b (by omega)]; exact h.own x b hb
  · rcases hp with hp | ⟨rfl, rfl⟩
    · obtain ⟨h1, h2⟩ := h.past b c hp
      refine ⟨h1, fun k => ?_⟩
      by_cases hx : b = a
      · have h3 := h2 k
        rw [hx] at h3 ⊢
        rw [here]
        exact Int.le_trans h3 (clk_up h ht ha he k)
      · rw [same b hx]; exact h2 k
    · exact ⟨⟨by omega, by omega⟩, fun k => by rw [here]; exact Int.le_refl _⟩
  · rcases hp with hp | ⟨rfl, rfl⟩
    · by_cases hx : x = a
      · rw [hx, here] at hle ⊢
        exact clk_past h ht ha he hp hle k
      · rw [same x hx] at hle ⊢
        exact h.up b c hp x hle k
    · by_cases hx : x = a
      · rw [hx, here]; exact Int.le_refl _
      · exfalso
        rw [same x hx, Int.toNat_natCast, clk_own h ht ha he] at hle
        have := h.own x a ha
        omega
/-- a hand is told of another one's clock -/
theorem Inv.tell (h : Inv P now t) (o : Int) (x0 : Int) : Inv P (upd now o (join (now o) (now x0))) t := by
  have same : ∀ x : Int, x ≠ o → upd now o (join (now o) (now x0)) x = now x := fun x hx => by unfold upd; rw [if_neg hx]
  have here : upd now o (join (now o) (now x0)) o = join (now o) (now x0) := by unfold upd; rw [if_pos rfl]
  have grow : ∀ x (k : Nat), (now x).getD k 0 ≤ (upd now o (join (now o) (now x0)) x).getD k 0 := fun x k => by
    by_cases hx : x = o
    · rw [hx, here, getD_join]; omega
    · rw [same x hx]; exact Int.le_refl _
  refine ⟨fun x => ?_, fun x k => ?_, fun x b hb => ?_, fun b c hp => ⟨(h.past b c hp).1, fun k => Int.le_trans ((h.past b c hp).2 k) (grow b k)⟩, fun b c hp x hle k => ?_⟩
  · by_cases hx : x = o
    · rw [hx, here]; exact (h.pos o).join (h.pos x0)
    · rw [same x hx]; exact h.pos x
  · by_cases hx : x = o
    · rw [hx, here, getD_join]
      have h1 := h.le o k
      have h2 := h.le x0 k
      omega
    · rw [same x hx]; exact h.le x k
  · refine Int.le_trans ?_ (grow b b)
    by_cases hx : x = o
    · rw [hx, here, getD_join]
      have h1 := h.own o b hb
      have h2 := h.own x0 b hb
      omega
    · rw [same x hx]; exact h.own x b hb
  · by_cases hx : x = o
    · rw [hx, here] at hle ⊢
      rw [getD_join] at hle ⊢
      by_cases h1 : c.getD b.toNat 0 ≤ (now o).getD b.toNat 0
      · have := h.up b c hp o h1 k
        omega
      · have := h.up b c hp x0 (by omega) k
        omega
    · rw [same x hx] at hle ⊢
      exact h.up b c hp x hle k
theorem Inv.mono {Q : Int → List Int → Prop} {t' : Nat} (h : Inv P now t) (hQ : ∀ a c, Q a c → P a c) (ht : t ≤ t') : Inv Q now t' :=
  ⟨h.pos, fun x k => by have := h.le x k; omega, h.own, fun a c hp => h.past a c (hQ a c hp), fun a c hp => h.up a c (hQ a c hp)⟩
theorem Inv.step (h : Inv P now t) (ht : t < 18446744073709551615) : Inv (fun b c => P b c ∨ (known e.act ∧ b = e.act ∧ c = clk now e)) (step now e) (t + 1) := by
  unfold Hb.step
  by_cases hk : known e.act
  · rw [if_pos hk]
    obtain ⟨a, he, ha⟩ := known_nat hk
    have h1 := (h.one ht ha he).mono (Q := fun b c => P b c ∨ (known e.act ∧ b = e.act ∧ c = clk now e)) (fun b c hq => hq.imp id fun ⟨_, h2, h3⟩ => ⟨by rw [h2, he], h3⟩) (Nat.le_refl _)
    split
    · have h2 := h1.tell e.other e.act
      have e2 : Hb.one now e e.act = clk now e := by unfold Hb.one; rw [if_pos hk]; unfold upd; rw [if_pos rfl]
      rw [e2] at h2
      exact h2
    · exact h1
  · rw [if_neg hk]
    exact h.mono (fun b c hq => hq.resolve_right fun h2 => hk h2.1) (Nat.le_succ _)
end
/-- the events of which a run's beginning tells -/
def Had (now : Now) (l : List Ev) (n : Nat) (a : Int) (c : List Int) : Prop := ∃ i e, i < n ∧ l[i]? = some e ∧ known e.act ∧ a = e.act ∧ (clks now l)[i]? = some c
def zero : Now := fun _ => []
theorem inv_take (l : List Ev) (hl : l.length < 18446744073709551615) : ∀ n, n ≤ l.length → Inv (Had zero l n) (after zero (l.take n)) n
  | 0, _ => by
    have e0 : ∀ x, after zero (l.take 0) x = [] := fun x => rfl
    refine ⟨fun x y hy => ?_, fun x k => ?_, fun x a ha => ?_, fun a c ⟨i, e, hi, _⟩ => by omega, fun a c ⟨i, e, hi, _⟩ => by omega⟩
    · rw [e0] at hy; cases hy
    · rw [e0]; simp
    · rw [e0, e0]; exact Int.le_refl _
  | n + 1, hn => by
    have ih := inv_take l hl n (by omega)
    have := (ih.step (e := l[n]) (by omega)).mono (Q := Had zero l (n + 1)) (t' := n + 1) (fun a c ⟨i, e, hi, h1, h2, h3, h4⟩ => by
      by_cases hin : i = n
      · subst hin
        rw [List.getElem?_eq_getElem (by omega)] at h1
        injection h1 with h1
        rw [clks_get l zero i (by omega)] at h4
        injection h4 with h4
        rw [← h1] at h2 h3
        exact .inr ⟨h2, h3, h4.symm⟩
      · exact .inl ⟨i, e, by omega, h1, h2, h3, h4⟩) (Nat.le_refl _)
    rw [after_snoc l n (by omega)]
    exact this

/-- **an event's clock is within a later one's where its own hand is** -/
theorem ahead_iff (l : List Ev) (hl : l.length < 18446744073709551615) {i j : Nat} (hij : i < j) (hj : j < l.length) (hi : known l[i].act) (hkj : known l[j].act) :
    hand (clk (after zero (l.take i)) l[i]) l[i].act ≤ hand (clk (after zero (l.take j)) l[j]) l[i].act ↔ within (clk (after zero (l.take i)) l[i]) (clk (after zero (l.take j)) l[j]) = true := by
  have hI := inv_take l hl j (by omega)
  have hII := inv_take l hl i (by omega)
  have hp : Had zero l j l[i].act (clk (after zero (l.take i)) l[i]) := ⟨i, l[i], hij, List.getElem?_eq_getElem (by omega), hi, rfl, clks_get l zero i (by omega)⟩
  obtain ⟨a, ha, ha2⟩ := known_nat hkj
  obtain ⟨b, hb, hb2⟩ := known_nat hi
  rw [within_iff (clk_pos hI (by omega))]
  constructor
  · intro h k
    refine clk_past hI (by omega) ha2 ha hp ?_ k
    rw [hb, hand_nat, hand_nat] at h
    rw [hb, Int.toNat_natCast]
    exact h
  · intro h
    rw [hb, hand_nat, hand_nat]
    exact h b
theorem clk_ne (l : List Ev) (hl : l.length < 18446744073709551615) {i : Nat} (h : i < l.length) (hi : known l[i].act) : clk (after zero (l.take i)) l[i] ≠ [] := fun h0 => by
  have hII := inv_take l hl i (by omega)
  obtain ⟨b, hb, hb2⟩ := known_nat hi
  have h1 := clk_own hII (by omega) hb2 hb
  rw [h0, getD_nil] at h1
  have h2 := (hII.pos (b : Int)).getD b
  omega
theorem clk_nil {now : Now} {e : Ev} (h : ¬ known e.act) : clk now e = [] := by unfold clk; rw [if_neg h]
/-- the same hand's later event -/
theorem ahead_same (l : List Ev) (hl : l.length < 18446744073709551615) {i j : Nat} (hij : i < j) (hj : j < l.length) (hi : known l[i].act) (he : l[i].act = l[j].act) :
    hand (clk (after zero (l.take i)) l[i]) l[i].act ≤ hand (clk (after zero (l.take j)) l[j]) l[i].act := by
  have hI := inv_take l hl j (by omega)
  have hp : Had zero l j l[i].act (clk (after zero (l.take i)) l[i]) := ⟨i, l[i], hij, List.getElem?_eq_getElem (by omega), hi, rfl, clks_get l zero i (by omega)⟩
  obtain ⟨b, hb, hb2⟩ := known_nat hi
  rw [hb, hand_nat, hand_nat]
  have h1 := (hI.past _ _ hp).2 b
  have h2 := clk_up (e := l[j]) hI (by omega) hb2 (by rw [← he]; exact hb) b
  rw [hb] at h1
  exact Int.le_trans h1 h2
/-! ### how long clocks are -/
theorem clk_length (now : Now) (e : Ev) (h : ∀ x, (now x).length ≤ 65536) : (clk now e).length ≤ 65536 := by
  unfold clk
  split
  · rename_i hk
    obtain ⟨a, he, ha⟩ := known_nat hk
    have h1 := tick_length (now (a : Int)) a (by omega)
    have h2 := h (a : Int)
    rw [he]
    split
    · have h3 := join_length (tick (now (a : Int)) (a : Int)) (now e.other)
      have h4 := h e.other
      omega
    · omega
  · simp
theorem step_length (now : Now) (e : Ev) (h : ∀ x, (now x).length ≤ 65536) (x : Int) : (step now e x).length ≤ 65536 := by
  have h1 := clk_length now e h
  have h2 : ∀ y, (one now e y).length ≤ 65536 := fun y => by
    unfold one
    split
    · unfold upd
      split
      · exact h1
      · exact h y
    · exact h y
  unfold step
  split
  · split
    · unfold upd
      split
      · have h3 := join_length (one now e e.other) (clk now e)
        have h4 := h2 e.other
        omega
      · exact h2 x
    · exact h2 x
  · exact h x
theorem after_length (l : List Ev) : ∀ (now : Now), (∀ x, (now x).length ≤ 65536) → ∀ x, (after now l x).length ≤ 65536 := by
  induction l with
  | nil => exact fun now h => h
  | cons e l ih => exact fun now h => ih _ (step_length now e h)
end Go.Proofs.Ytoddhfabeiimkaa.Hb


namespace Go.Proofs.Ytoddhfabeiimkaa
set_option linter.unusedVariables false
set_option linter.unusedSimpArgs false
set_option maxRecDepth 100000
open Go.RowKit

theorem info_u64 : (Try.prog.info? 65).map (fun i => (i.zero, i.size, i.bytes)) = some (some (.int .u64 0), 1, 8) := by kernel_rfl

theorem Vec.hand_wf {xs : List Int} (h : Wfs .u64 xs) (i : Int) : (Lit.int .u64 (Vec.hand xs i)).wf = true := by
  unfold Vec.hand
  split
  · rfl
  · by_cases hi : i.toNat < xs.length
    · exact h.get hi
    · rw [show xs.getD i.toNat 0 = 0 by simp [List.getD, show xs.length ≤ i.toNat by omega]]
      rfl
theorem Vec.max_wf {a b : Int} (h : (Lit.int .u64 a).wf = true) (h' : (Lit.int .u64 b).wf = true) : (Lit.int .u64 (max a b)).wf = true := by
  rw [wf_u64] at *
  omega

theorem at_any (v : Value) (xs : List Int) (i : Int) (w : World) (h : SlI .u64 w v xs) :
    Calls Try.prog 24 #[v, .int .i64 i] w fun e w' => e = .returned (.int .u64 (Vec.hand xs i)) ∧ w = w' := by
  obtain ⟨⟨A, c, rfl, hle, hm, hlen, hc⟩, hw⟩ := h
  clear hlen hw
  unfold maxLen at hm
  by_cases h0 : i < 0
  · clear hc
    go_enter Try.func24, Try.ntmps24
    go_wp2
    go_ret
    exact ⟨ret_int (by simp [Vec.hand, h0]), rfl⟩
  · obtain ⟨i, rfl⟩ := Int.eq_ofNat_of_zero_le (show 0 ≤ i by omega)
    by_cases h1 : i < xs.length
    · obtain ⟨b, o, rfl, hb, hcell⟩ := hc.int (j := i) h1
      have hcc := hcell i h1
      clear h0 hcell hc
      go_enter Try.func24, Try.ntmps24
      go_wp2
      go_ret
      exact ⟨ret_int (by simp [Vec.hand, h1]; omega), rfl⟩
    · have h3 : xs.length ≤ (i : Int) := by omega
      have e : Vec.hand xs i = 0 := by unfold Vec.hand; simp [List.getD, show xs.length ≤ i by omega]
      have E := Lib.hid e
      clear h0 h1 e hc
      go_enter Try.func24, Try.ntmps24
      go_wp2
      go_ret
      exact ⟨ret_int E.out.symm, rfl⟩

theorem trim_any (v : Value) (xs : List Int) (w : World) (h : SlI .u64 w v xs) :
    Calls Try.prog 42 #[v] w fun e w' => ∃ u, e = .returned u ∧ SlI .u64 w u (Vec.trim xs) ∧ w = w' := by
  have hs := h
  obtain ⟨⟨A, c, rfl, hle, hm, hlen, hc⟩, hw⟩ := h
  have H := Lib.hid (SlI.take hs _ (Vec.trim_prefix xs).1 (Vec.trim_prefix xs).2)
  clear hlen hw hs
  unfold maxLen at hm
  go_enter Try.func42, Try.ntmps42
  go_wp2
  go_loop [0] (fun v => ∃ k : Nat, k ≤ xs.length ∧ v = .slice A k c ∧ Vec.trim (xs.take k) = Vec.trim xs) (fun v => match v with | .slice _ n _ => n | _ => 0)
  case atStart => exact ⟨xs.length, Nat.le_refl _, rfl, by rw [List.take_length]⟩
  case round =>
    obtain ⟨k, hk, rfl, ht⟩ := hrel
    have HT := Lib.hid ht
    clear ht
    by_cases h0 : k = 0
    · subst h0
      clear hc
      go_wp2
      go_ret
      refine ⟨_, rfl, ?_, rfl⟩
      have := H.out
      rw [← HT.out] at this ⊢
      exact this
    · obtain ⟨k, rfl⟩ : ∃ j, k = j + 1 := ⟨k - 1, by omega⟩
      obtain ⟨b, o, x, rfl, hb, hx, hcc⟩ := hc.one (j := k) (by omega)
      clear hc h0
      rcases hz : x == 0 with _ | _
      · go_wp2
        go_ret
        refine ⟨_, rfl, ?_, rfl⟩
        have := H.out
        rw [← HT.out, Vec.trim_stop hx.out hz] at this ⊢
        rwa [show (xs.take (k + 1)).length = k + 1 by simp; omega] at this
      · go_wp2
        go_round
        case rel => exact ⟨k, by omega, rfl, by rw [← HT.out]; exact Vec.trim_zero hx.out hz⟩
        case measure => simp

theorem within_any (v v' : Value) (xs ys : List Int) (w : World) (h : SlI .u64 w v xs) (h' : SlI .u64 w v' ys) :
    Calls Try.prog 14 #[v, v'] w fun e w' => e = .returned (.bool (Vec.within xs ys)) ∧ w = w' := by
  obtain ⟨⟨A, c, rfl, hle, hm, hlen, hc⟩, hw⟩ := h
  clear hlen hw
  unfold maxLen at hm
  go_enter Try.func14, Try.ntmps14
  go_wp2
  go_loop [9] (fun i => ∃ k : Nat, k ≤ xs.length ∧ i = .int .i64 k ∧ (List.range k).all (fun i => decide (xs.getD i 0 ≤ Vec.hand ys i)) = true) (fun i => xs.length - (intOf i).toNat)
  case atStart => exact ⟨0, Nat.zero_le _, rfl, rfl⟩
  case round =>
    obtain ⟨k, hk, rfl, ht⟩ := hrel
    have HT := Lib.hid ht
    clear ht
    by_cases hlt : k < xs.length
    · obtain ⟨b, o, x, rfl, hb, hx, hcc⟩ := hc.one hlt
      clear hc
      by_cases hg : Vec.hand ys k < x
      · go_wp2_with (go_at_call 24; refine (at_any v' ys k w h').mono ?_; rintro e w' ⟨rfl, rfl⟩)
        go_ret
        exact ⟨ret_bool (Vec.within_no hx.out hg).symm, rfl⟩
      · go_wp2_with (go_at_call 24; refine (at_any v' ys k w h').mono ?_; rintro e w' ⟨rfl, rfl⟩)
        go_round
        case rel => exact ⟨k + 1, by omega, by go_num, by rw [Vec.within_succ, HT.out, Vec.getD_of hx.out]; simp; omega⟩
        case measure => simp [intOf]; omega
    · have hk' : k = xs.length := by omega
      have HK := Lib.hid hk'
      clear hc hk'
      go_wp2
      go_ret
      exact ⟨ret_bool (by unfold Vec.within; rw [← HK.out, HT.out]), rfl⟩

theorem join_any (v v' : Value) (xs ys : List Int) (w : World) (h : SlI .u64 w v xs) (h' : SlI .u64 w v' ys) (hr : xs.length ≤ 17592186044416) (hr' : ys.length ≤ 17592186044416) :
    Calls Try.prog 26 #[v, v'] w fun e w' => ∃ u, e = .returned u ∧ SlI .u64 w' u (Vec.join xs ys) ∧ Below w.heap.size w w' := by
  have h1 := h
  have h2 := h'
  obtain ⟨⟨A, c, rfl, hle, hm, hlen, hc⟩, hw⟩ := h
  obtain ⟨⟨A', c', rfl, hle', hm', hlen', hc'⟩, hw'⟩ := h'
  obtain ⟨n, hn⟩ : ∃ n, n = max xs.length ys.length := ⟨_, rfl⟩
  have hnx : xs.length ≤ n := by omega
  have hny : ys.length ≤ n := by omega
  have hnr : n ≤ 17592186044416 := by omega
  have HN := Lib.hid hn
  clear hlen hlen' hc hc' hn hm hm'
  go_enter Try.func26, Try.ntmps26
  go_wp2_with (at_make; refine wp_make _ _ _ _ _ n Try.underlying46 info_u64 rfl (by have := HN.out; omega) (by have := HN.out; omega) (by omega) (by omega) rfl rfl rfl rfl ?_; intro w1 hown hb1 hz)
  have hown' : w1.ownsRow w.heap.size 65 1 (.slice (some ⟨w.heap.size, 0, none⟩) n n) n (ints .u64 (Vec.part xs ys n 0)) := by
    rw [Vec.part_zero]
    simpa [ints] using hown
  clear hown
  go_loopw [15] (fun i wr => ∃ k : Nat, k ≤ n ∧ i = .int .i64 k ∧ wr.ownsRow w.heap.size 65 1 (.slice (some ⟨w.heap.size, 0, none⟩) n n) n (ints .u64 (Vec.part xs ys n k)) ∧ Below w.heap.size w wr) (fun i _ => n - (intOf i).toNat)
  case atStart => exact ⟨0, Nat.zero_le _, rfl, hown', hb1⟩
  case round =>
    clear hown' hb1 hz
    obtain ⟨k, hk, rfl, hown, hb1⟩ := hrel
    have g1 := h1.below hb1
    have g2 := h2.below hb1
    by_cases hlt : k < n
    · have hcell := hown.cellAt k (by omega)
      rw [ints_get _ _ _ (by rw [Vec.part_length _ _ _ _ (by omega)]; exact hlt)] at hcell
      have hfr := hown.frozenAt k
      go_wp2_with fail
      refine (at_any _ _ _ _ g1).mono ?_
      rintro e w' ⟨rfl, rfl⟩
      go_wp2_with fail
      refine (at_any _ _ _ _ g2).mono ?_
      rintro e w' ⟨rfl, rfl⟩
      go_wp2
      go_roundw
      case rel => 
        refine ⟨k + 1, by omega, by go_num, ?_, hb1.setCell (by simp) _⟩
        have := (hown.stored k (.int .u64 (max (Vec.hand xs k) (Vec.hand ys k)))).1
        rw [← Vec.part_set _ _ _ _ hlt]
        simpa [ints] using this
      case measure => simp [intOf]; omega
    · have hk' : k = n := by omega
      have HK := Lib.hid hk'
      have hsl : SlI .u64 wr (.slice (some ⟨w.heap.size, 0, none⟩) n n) (Vec.joined xs ys n) := by
        have hl : (Vec.joined xs ys n).length = n := by simp [Vec.joined]
        rw [hk', Vec.part_full] at hown
        refine SlI.of_own (base := w.heap.size) (e := 65) (by rw [hl]; exact hown) fun x hx => ?_
        obtain ⟨i, _, rfl⟩ := List.mem_map.1 hx
        exact Vec.max_wf (Vec.hand_wf hw _) (Vec.hand_wf hw' _)
      clear hk'
      go_wp2_with fail
      refine (trim_any _ _ _ hsl).mono ?_
      rintro e w' ⟨u, rfl, hu, rfl⟩
      go_wp2
      go_ret
      refine ⟨_, rfl, ?_, hb1⟩
      rw [HN.out] at hu
      exact hu

theorem ints_one (k : IntKind) (xs : List Int) : ∀ u ∈ ints k xs, u.oneCell' = true := ints_oneCell k xs

theorem clone_any (v : Value) (xs : List Int) (w : World) (h : SlI .u64 w v xs) (hr : xs.length ≤ 17592186044415) :
    Calls Try.prog 27 #[v] w fun e w' => ∃ u, e = .returned u ∧ w'.ownsRow w.heap.size 65 1 u xs.length (ints .u64 xs) ∧ Below w.heap.size w w' := by
  obtain ⟨⟨A, c, rfl, hle, hm, hlen, hc⟩, hw⟩ := h
  clear hw
  unfold maxLen at hm
  have heq := fun (w : World) (A : Option Addr) (n c : Nat) => Lib.run_eql_slice_nil (P := Try.prog) w _ _ A n c 0 0 Try.underlying46
  rcases A with _ | a
  · have h0 : xs = [] := by
      rcases xs with _ | ⟨x, xs⟩
      · rfl
      · obtain ⟨b, o, h1, _⟩ := hc
        have := (h1 (by simp [ints])).1
        cases this
    subst h0
    go_enter Try.func27, Try.ntmps27
    go_wp2
    go_ret
    exact ⟨_, rfl, World.ownsRow_nil _ _ _ _, Below.refl _ _⟩
  · go_enter Try.func27, Try.ntmps27
    have hmade := World.ownsRow_made (e := 65) (size := 1) (base := w.heap.size) w #[] 0 (Nat.le_refl _) (Nat.zero_le _) rfl
    have hc' := hc.keep (w' := w.alloc (.cells #[] 65)) (Nat.le_refl _) (fun p hp => World.cell?_alloc_lt w _ p hp)
    go_wp2_with (at_builtin; refine wp_append _ _ _ _ _ _ _ _ _ Try.underlying46 info_u64 rfl (by decide) hmade hc' hlen (ints_one _ _) (by unfold maxLen; omega) (by omega) (by simp) rfl rfl rfl rfl ?_; intro v' w' hown _ _ hb)
    go_ret
    refine ⟨_, rfl, by simpa using hown, ((Below.refl _ _).alloc (Nat.le_refl _) _).trans hb⟩

theorem tick_any (v : Value) (xs : List Int) (i : Int) (w : World) (h : SlI .u64 w v xs) (hr : xs.length ≤ 17592186044415) :
    Calls Try.prog 25 #[v, .int .i64 i] w fun e w' => ∃ u, e = .returned u ∧ SlI .u64 w' u (Vec.tick xs i) ∧ Below w.heap.size w w' := by
  have hwf := h.2
  by_cases hi : 0 ≤ i ∧ i ≤ 65535
  · obtain ⟨i, rfl⟩ := Int.eq_ofNat_of_zero_le hi.1
    obtain ⟨hi0, hi1⟩ := hi
    go_enter Try.func25, Try.ntmps25
    go_wp2_with fail
    refine (clone_any _ _ _ h hr).mono ?_
    rintro e w1 ⟨u, rfl, hown, hb1⟩
    go_wp2_with fail
    go_loopw [5] (fun v wr => ∃ k : Nat, k ≤ i + 1 - xs.length ∧ wr.ownsRow w.heap.size 65 1 v (xs.length + k) (ints .u64 (xs ++ List.replicate k 0)) ∧ Below w.heap.size w wr) (fun v _ => i + 1 - slLen v)
    case atStart => exact ⟨0, Nat.zero_le _, by simpa using hown, hb1⟩
    case round =>
      clear hown hb1
      obtain ⟨k, hk, hown, hb1⟩ := hrel
      obtain ⟨A, c, rfl, hle, hm⟩ := own_slice hown
      unfold maxLen at hm
      by_cases hlt : xs.length + k ≤ i
      · go_wp2_with (at_builtin; refine wp_push wr _ _ _ _ _ _ _ _ Try.underlying46 info_u64 rfl (by decide) hown [.int .u64 0] rfl (by simp [Value.oneCell']) (by unfold maxLen; omega) (by omega) hb1.size rfl rfl rfl rfl ?_; intro v' w' hown' _ _ hb2)
        go_roundw
        case rel => exact ⟨k + 1, by omega, by simpa [ints, List.replicate_succ', Nat.add_assoc] using hown', hb1.trans hb2⟩
        case measure => rw [own_len hown']; simp only [slLen]; omega
      · have hp := Vec.padded_full xs i k hlt hk
        rw [hp] at hown
        obtain ⟨g, c', hA, -, -, hg1, hg2⟩ := own_addr hown (by omega)
        cases hA
        have hil : i < xs.length + k := by omega
        have hcell := hown.cellAt i (by omega)
        rw [ints, List.getElem?_map, Vec.hand_padded] at hcell
        simp only [Option.map_some] at hcell
        have hfr := hown.frozenAt i
        have hst := (hown.stored i (.int .u64 ((Vec.hand xs i + 1) % 18446744073709551616))).1
        obtain ⟨y, hy⟩ : ∃ y, y = Vec.hand xs i := ⟨_, rfl⟩
        rw [← hy] at hcell hst
        have HY := Lib.hid hy
        have hsl : SlI .u64 (wr.setCell ⟨g, i, none⟩ (.int .u64 ((y + 1) % 18446744073709551616))) (.slice (some ⟨g, 0, none⟩) (xs.length + k) c) ((Vec.padded xs i).set i ((y + 1) % 18446744073709551616)) := by
          have e : ((Vec.padded xs i).set i ((y + 1) % 18446744073709551616)).length = xs.length + k := by
            have := hown.1
            rw [ints_length] at this
            rw [List.length_set]
            omega
          have := SlI.of_own (k := .u64) (xs := (Vec.padded xs i).set i ((y + 1) % 18446744073709551616)) (by rw [e, ints_set]; exact hst) ((hwf.append (Wfs.replicate rfl _)).set _ (wf_u64.2 (by omega)))
          exact this
        have HS := Lib.hid hsl
        clear hy hp hst hsl
        go_wp2_with fail
        rw [wrap_u64]
        refine (trim_any _ _ _ HS.out).mono ?_
        rintro e w' ⟨u', rfl, hu, rfl⟩
        go_wp2
        go_ret
        refine ⟨u', rfl, ?_, hb1.setCell (by simpa using hg1) _⟩
        rw [HY.out] at hu ⊢
        simpa only [Vec.tick, hi0, hi1, and_self, if_true, Int.toNat_natCast] using hu
  · have e : Vec.tick xs i = Vec.trim xs := by simp only [Vec.tick, hi, if_false]
    rw [e]
    by_cases h0 : 0 ≤ i
    · have h1 : 65535 < i := by omega
      clear hi
      go_enter Try.func25, Try.ntmps25
      go_wp2_with fail
      refine (clone_any _ _ _ h hr).mono ?_
      rintro e w1 ⟨u, rfl, hown, hb1⟩
      have hsl := SlI.of_own hown hwf
      go_wp2_with fail
      refine (trim_any _ _ _ hsl).mono ?_
      rintro e w' ⟨u', rfl, hu, rfl⟩
      go_wp2
      go_ret
      exact ⟨_, rfl, hu, hb1⟩
    · clear hi
      go_enter Try.func25, Try.ntmps25
      go_wp2_with fail
      refine (clone_any _ _ _ h hr).mono ?_
      rintro e w1 ⟨u, rfl, hown, hb1⟩
      have hsl := SlI.of_own hown hwf
      go_wp2_with fail
      refine (trim_any _ _ _ hsl).mono ?_
      rintro e w' ⟨u', rfl, hu, rfl⟩
      go_wp2
      go_ret
      exact ⟨_, rfl, hu, hb1⟩
end Go.Proofs.Ytoddhfabeiimkaa


namespace Go.Proofs.Ytoddhfabeiimkaa
set_option linter.unusedVariables false
set_option linter.unusedSimpArgs false
set_option maxRecDepth 100000
open Go.RowKit

def vptr : Value → Option Addr
  | .slice A _ _ => A
  | _ => none
/-- nothing of it lies below -/
def VNew (B : Nat) (v : Value) : Prop := ∀ p, vptr v = some p → B ≤ p.block
theorem VNew.mono {B B' : Nat} {v : Value} (h : VNew B v) (hb : B' ≤ B) : VNew B' v := fun p hp => Nat.le_trans hb (h p hp)
theorem vnew_own {w : World} {B sz n : Nat} {e : TypeId} {v : Value} {xs : List Value} (h : w.ownsRow B e sz v n xs) : VNew B v := fun p hp => by
  rcases h.2 with ⟨rfl, -⟩ | ⟨g, cap, cur, rfl, hB, -⟩
  · cases hp
  · injection hp with hp
    rw [← hp]
    exact hB

theorem trim_new (v : Value) (xs : List Int) (w : World) (h : SlI .u64 w v xs) :
    Calls Try.prog 42 #[v] w fun e w' => ∃ u, e = .returned u ∧ (SlI .u64 w u (Vec.trim xs) ∧ vptr u = vptr v) ∧ w = w' := by
  have hs := h
  obtain ⟨⟨A, c, rfl, hle, hm, hlen, hc⟩, hw⟩ := h
  have H := Lib.hid (SlI.take hs _ (Vec.trim_prefix xs).1 (Vec.trim_prefix xs).2)
  clear hlen hw hs
  unfold maxLen at hm
  go_enter Try.func42, Try.ntmps42
  go_wp2
  go_loop [0] (fun v => ∃ k : Nat, k ≤ xs.length ∧ v = .slice A k c ∧ Vec.trim (xs.take k) = Vec.trim xs) (fun v => match v with | .slice _ n _ => n | _ => 0)
  case atStart => exact ⟨xs.length, Nat.le_refl _, rfl, by rw [List.take_length]⟩
  case round =>
    obtain ⟨k, hk, rfl, ht⟩ := hrel
    have HT := Lib.hid ht
    clear ht
    by_cases h0 : k = 0
    · subst h0
      clear hc
      go_wp2
      go_ret
      refine ⟨_, rfl, ⟨?_, rfl⟩, rfl⟩
      have := H.out
      rw [← HT.out] at this ⊢
      exact this
    · obtain ⟨k, rfl⟩ : ∃ j, k = j + 1 := ⟨k - 1, by omega⟩
      obtain ⟨b, o, x, rfl, hb, hx, hcc⟩ := hc.one (j := k) (by omega)
      clear hc h0
      rcases hz : x == 0 with _ | _
      · go_wp2
        go_ret
        refine ⟨_, rfl, ⟨?_, rfl⟩, rfl⟩
        have := H.out
        rw [← HT.out, Vec.trim_stop hx.out hz] at this ⊢
        rwa [show (xs.take (k + 1)).length = k + 1 by simp; omega] at this
      · go_wp2
        go_round
        case rel => exact ⟨k, by omega, rfl, by rw [← HT.out]; exact Vec.trim_zero hx.out hz⟩
        case measure => simp

theorem join_new (v v' : Value) (xs ys : List Int) (w : World) (h : SlI .u64 w v xs) (h' : SlI .u64 w v' ys) (hr : xs.length ≤ 17592186044416) (hr' : ys.length ≤ 17592186044416) :
    Calls Try.prog 26 #[v, v'] w fun e w' => ∃ u, e = .returned u ∧ (SlI .u64 w' u (Vec.join xs ys) ∧ VNew w.heap.size u) ∧ Below w.heap.size w w' := by
  have h1 := h
  have h2 := h'
  obtain ⟨⟨A, c, rfl, hle, hm, hlen, hc⟩, hw⟩ := h
  obtain ⟨⟨A', c', rfl, hle', hm', hlen', hc'⟩, hw'⟩ := h'
  obtain ⟨n, hn⟩ : ∃ n, n = max xs.length ys.length := ⟨_, rfl⟩
  have hnx : xs.length ≤ n := by omega
  have hny : ys.length ≤ n := by omega
  have hnr : n ≤ 17592186044416 := by omega
  have HN := Lib.hid hn
  clear hlen hlen' hc hc' hn hm hm'
  go_enter Try.func26, Try.ntmps26
  go_wp2_with (at_make; refine wp_make _ _ _ _ _ n Try.underlying46 info_u64 rfl (by have := HN.out; omega) (by have := HN.out; omega) (by omega) (by omega) rfl rfl rfl rfl ?_; intro w1 hown hb1 hz)
  have hown' : w1.ownsRow w.heap.size 65 1 (.slice (some ⟨w.heap.size, 0, none⟩) n n) n (ints .u64 (Vec.part xs ys n 0)) := by
    rw [Vec.part_zero]
    simpa [ints] using hown
  clear hown
  go_loopw [15] (fun i wr => ∃ k : Nat, k ≤ n ∧ i = .int .i64 k ∧ wr.ownsRow w.heap.size 65 1 (.slice (some ⟨w.heap.size, 0, none⟩) n n) n (ints .u64 (Vec.part xs ys n k)) ∧ Below w.heap.size w wr) (fun i _ => n - (intOf i).toNat)
  case atStart => exact ⟨0, Nat.zero_le _, rfl, hown', hb1⟩
  case round =>
    clear hown' hb1 hz
    obtain ⟨k, hk, rfl, hown, hb1⟩ := hrel
    have g1 := h1.below hb1
    have g2 := h2.below hb1
    by_cases hlt : k < n
    · have hcell := hown.cellAt k (by omega)
      rw [ints_get _ _ _ (by rw [Vec.part_length _ _ _ _ (by omega)]; exact hlt)] at hcell
      have hfr := hown.frozenAt k
      go_wp2_with fail
      refine (at_any _ _ _ _ g1).mono ?_
      rintro e w' ⟨rfl, rfl⟩
      go_wp2_with fail
      refine (at_any _ _ _ _ g2).mono ?_
      rintro e w' ⟨rfl, rfl⟩
      go_wp2
      go_roundw
      case rel => 
        refine ⟨k + 1, by omega, by go_num, ?_, hb1.setCell (by simp) _⟩
        have := (hown.stored k (.int .u64 (max (Vec.hand xs k) (Vec.hand ys k)))).1
        rw [← Vec.part_set _ _ _ _ hlt]
        simpa [ints] using this
      case measure => simp [intOf]; omega
    · have hk' : k = n := by omega
      have HK := Lib.hid hk'
      have hsl : SlI .u64 wr (.slice (some ⟨w.heap.size, 0, none⟩) n n) (Vec.joined xs ys n) := by
        have hl : (Vec.joined xs ys n).length = n := by simp [Vec.joined]
        rw [hk', Vec.part_full] at hown
        refine SlI.of_own (base := w.heap.size) (e := 65) (by rw [hl]; exact hown) fun x hx => ?_
        obtain ⟨i, _, rfl⟩ := List.mem_map.1 hx
        exact Vec.max_wf (Vec.hand_wf hw _) (Vec.hand_wf hw' _)
      clear hk'
      go_wp2_with fail
      refine (trim_new _ _ _ hsl).mono ?_
      rintro e w' ⟨u, rfl, ⟨hu, hp⟩, rfl⟩
      have hnew : VNew w.heap.size u := fun p h => by rw [hp] at h; injection h with h; rw [← h]; exact Nat.le_refl _
      clear hp
      have HV := Lib.hid hnew
      clear hnew
      go_wp2
      go_ret
      refine ⟨_, rfl, ⟨?_, HV.out⟩, hb1⟩
      rw [HN.out] at hu
      exact hu

theorem tick_new (v : Value) (xs : List Int) (i : Int) (w : World) (h : SlI .u64 w v xs) (hr : xs.length ≤ 17592186044415) :
    Calls Try.prog 25 #[v, .int .i64 i] w fun e w' => ∃ u, e = .returned u ∧ (SlI .u64 w' u (Vec.tick xs i) ∧ VNew w.heap.size u) ∧ Below w.heap.size w w' := by
  have hwf := h.2
  by_cases hi : 0 ≤ i ∧ i ≤ 65535
  · obtain ⟨i, rfl⟩ := Int.eq_ofNat_of_zero_le hi.1
    obtain ⟨hi0, hi1⟩ := hi
    go_enter Try.func25, Try.ntmps25
    go_wp2_with fail
    refine (clone_any _ _ _ h hr).mono ?_
    rintro e w1 ⟨u, rfl, hown, hb1⟩
    go_wp2_with fail
    go_loopw [5] (fun v wr => ∃ k : Nat, k ≤ i + 1 - xs.length ∧ wr.ownsRow w.heap.size 65 1 v (xs.length + k) (ints .u64 (xs ++ List.replicate k 0)) ∧ Below w.heap.size w wr) (fun v _ => i + 1 - slLen v)
    case atStart => exact ⟨0, Nat.zero_le _, by simpa using hown, hb1⟩
    case round =>
      clear hown hb1
      obtain ⟨k, hk, hown, hb1⟩ := hrel
      obtain ⟨A, c, rfl, hle, hm⟩ := own_slice hown
      unfold maxLen at hm
      by_cases hlt : xs.length + k ≤ i
      · go_wp2_with (at_builtin; refine wp_push wr _ _ _ _ _ _ _ _ Try.underlying46 info_u64 rfl (by decide) hown [.int .u64 0] rfl (by simp [Value.oneCell']) (by unfold maxLen; omega) (by omega) hb1.size rfl rfl rfl rfl ?_; intro v' w' hown' _ _ hb2)
        go_roundw
        case rel => exact ⟨k + 1, by omega, by simpa [ints, List.replicate_succ', Nat.add_assoc] using hown', hb1.trans hb2⟩
        case measure => rw [own_len hown']; simp only [slLen]; omega
      · have hp := Vec.padded_full xs i k hlt hk
        rw [hp] at hown
        obtain ⟨g, c', hA, -, -, hg1, hg2⟩ := own_addr hown (by omega)
        cases hA
        have hil : i < xs.length + k := by omega
        have hcell := hown.cellAt i (by omega)
        rw [ints, List.getElem?_map, Vec.hand_padded] at hcell
        simp only [Option.map_some] at hcell
        have hfr := hown.frozenAt i
        have hst := (hown.stored i (.int .u64 ((Vec.hand xs i + 1) % 18446744073709551616))).1
        obtain ⟨y, hy⟩ : ∃ y, y = Vec.hand xs i := ⟨_, rfl⟩
        rw [← hy] at hcell hst
        have HY := Lib.hid hy
        have hsl : SlI .u64 (wr.setCell ⟨g, i, none⟩ (.int .u64 ((y + 1) % 18446744073709551616))) (.slice (some ⟨g, 0, none⟩) (xs.length + k) c) ((Vec.padded xs i).set i ((y + 1) % 18446744073709551616)) := by
          have e : ((Vec.padded xs i).set i ((y + 1) % 18446744073709551616)).length = xs.length + k := by
            have := hown.1
            rw [ints_length] at this
            rw [List.length_set]
            omega
          have := SlI.of_own (k := .u64) (xs := (Vec.padded xs i).set i ((y + 1) % 18446744073709551616)) (by rw [e, ints_set]; exact hst) ((hwf.append (Wfs.replicate rfl _)).set _ (wf_u64.2 (by omega)))
          exact this
        have HS := Lib.hid hsl
        clear hy hp hst hsl
        go_wp2_with fail
        rw [wrap_u64]
        have hge : w.heap.size ≤ g := by simpa using hg1
        refine (trim_new _ _ _ HS.out).mono ?_
        rintro e w' ⟨u', rfl, ⟨hu, hp⟩, rfl⟩
        have HV := Lib.hid (show VNew w.heap.size u' from fun p h => by rw [hp] at h; injection h with h; rw [← h]; exact hge)
        clear hp hge
        go_wp2
        go_ret
        refine ⟨u', rfl, ⟨?_, HV.out⟩, hb1.setCell (by simpa using hg1) _⟩
        rw [HY.out] at hu ⊢
        simpa only [Vec.tick, hi0, hi1, and_self, if_true, Int.toNat_natCast] using hu
  · have e : Vec.tick xs i = Vec.trim xs := by simp only [Vec.tick, hi, if_false]
    rw [e]
    by_cases h0 : 0 ≤ i
    · have h1 : 65535 < i := by omega
      clear hi
      go_enter Try.func25, Try.ntmps25
      go_wp2_with fail
      refine (clone_any _ _ _ h hr).mono ?_
      rintro e w1 ⟨u, rfl, hown, hb1⟩
      have hsl := SlI.of_own hown hwf
      have HG := Lib.hid (show VNew w.heap.size u from vnew_own hown)
      go_wp2_with fail
      refine (trim_new _ _ _ hsl).mono ?_
      rintro e w' ⟨u', rfl, ⟨hu, hp⟩, rfl⟩
      have HV := Lib.hid (show VNew w.heap.size u' from fun p h => HG.out p (by rw [← hp]; exact h))
      clear hp
      go_wp2
      go_ret
      exact ⟨_, rfl, ⟨hu, HV.out⟩, hb1⟩
    · clear hi
      go_enter Try.func25, Try.ntmps25
      go_wp2_with fail
      refine (clone_any _ _ _ h hr).mono ?_
      rintro e w1 ⟨u, rfl, hown, hb1⟩
      have hsl := SlI.of_own hown hwf
      have HG := Lib.hid (show VNew w.heap.size u from vnew_own hown)
      go_wp2_with fail
      refine (trim_new _ _ _ hsl).mono ?_
      rintro e w' ⟨u', rfl, ⟨hu, hp⟩, rfl⟩
      have HV := Lib.hid (show VNew w.heap.size u' from fun p h => HG.out p (by rw [← hp]; exact h))
      clear hp
      go_wp2
      go_ret
      exact ⟨_, rfl, ⟨hu, HV.out⟩, hb1⟩
end Go.Proofs.Ytoddhfabeiimkaa


namespace Go.Proofs.Ytoddhfabeiimkaa
set_option linter.unusedVariables false
set_option linter.unusedSimpArgs false
set_option maxRecDepth 100000
open Go.RowKit Go.Maps

theorem keyed_i64 : Keyed Try.prog 3 := int_keyed Try.underlying3
theorem zero_words (w : World) : (zeroValue 46).run Try.prog w = .ok (.slice none 0 0) w := by kernel_rfl
/-- an element stands for itself -/
def selfElem (v : Value) : Option (DataW Value × List MemPlace) := some (.held v, [])

structure MapV (w : World) (g n : Nat) (f : Int → Value) : Prop where
  is : ∃ D : DataW Value, w.ownsMap Try.prog 3 selfElem g n D ∧ IsMap D ∧ ∀ k, (Lit.int .i64 k).wf = true → D.atKey (.int .i64 k) (.held (.slice none 0 0)) = .held (f k)

theorem MapV.made (w : World) : MapV (w.alloc (.map #[] 0)) w.heap.size 0 (fun _ => .slice none 0 0) := ⟨_, World.ownsMap_made _ _ _ _, isMap_empty, fun _ _ => rfl⟩
theorem MapV.lt {w : World} {g n : Nat} {f : Int → Value} (h : MapV w g n f) : g < w.heap.size := by obtain ⟨D, h1, -⟩ := h.is; exact h1.lt
theorem MapV.keep {w w' : World} {g n : Nat} {f : Int → Value} (h : MapV w g n f) (hg : w'.heap[g]? = w.heap[g]?) : MapV w' g n f := by
  obtain ⟨D, ⟨es, clock, hb, F, hs, hD⟩, h2, h3⟩ := h.is
  exact ⟨D, ⟨es, clock, hg.trans hb, F, hs, hD⟩, h2, h3⟩
theorem MapV.below {w w' : World} {g n B : Nat} {f : Int → Value} (h : MapV w g n f) (hb : Below B w w') (hB : g < B) : MapV w' g n f := h.keep (hb.block g hB)
theorem MapV.next {w w' : World} {g n : Nat} {f : Int → Value} (h : MapV w g n f) (hb : Below w.heap.size w w') : MapV w' g n f := h.below hb h.lt
theorem MapV.mono {w : World} {g n m : Nat} {f : Int → Value} (h : MapV w g n f) (hn : n ≤ m) : MapV w g m f := by
  obtain ⟨D, h1, h2, h3⟩ := h.is
  exact ⟨D, h1.mono hn, h2, h3⟩
theorem MapV.look {w : World} {g n : Nat} {f : Int → Value} (h : MapV w g n f) {k : Int} (hk : (Lit.int .i64 k).wf = true) : (Instr.lookup 67 (.map (some g)) (.int .i64 k) false).run Try.prog w = .ok (f k) w := by
  obtain ⟨D, h1, h2, h3⟩ := h.is
  obtain ⟨v, ps, hrun, hv⟩ := h1.lookup keyed_i64 Try.underlying67 (zero_words _) (zd := .held (.slice none 0 0)) (zp := []) rfl (keyOf_int_mk Try.underlying3 hk)
  rw [h3 k hk] at hv
  unfold selfElem at hv
  injection hv with hv
  injection hv with hv _
  injection hv with hv
  rw [← hv]
  exact hrun

theorem wp_mapset {P : Program} (hP : P = Try.prog) (w : World) {ops : Array Oper} {rest : List Oper} {o : Oper} {a : Act} {Q : Exit → Act → World → Prop}
    (hg : o.guard = none) (m x v : Operand) (hop : o.op = Op.mapUpdate 67 m x v) (g n : Nat) (f : Int → Value) (hm : a.eval m = .map (some g)) (h : MapV w g n f) (hn : n < maxLen)
    (k : Int) (u : Value) (hx : a.eval x = .int .i64 k) (hv : a.eval v = u) (hk : (Lit.int .i64 k).wf = true)
    (hK : ∀ w', MapV w' g (n + 1) (fun j => if j = k then u else f j) → w.grownBy w' (some g) → wpList P ops Q rest (a.put o.dst undef) w') :
    wpList P ops Q (o :: rest) a w := by
  subst hP
  obtain ⟨D, h1, h2, h3⟩ := h.is
  refine wpList_mapUpdate_own w hg m x v _ hop _ _ keyed_i64 Try.underlying67 _ g n D hm h1 hn _ _ _ hx hv (keyOf_int_mk Try.underlying3 hk) (.held u) [] rfl ?_
  intro w' hown hgr
  refine hK w' ⟨_, hown, h2.put _ _, fun j hj => ?_⟩ hgr
  by_cases e : j = k
  · subst e
    rw [if_pos rfl, atKey_put_same h2 (by first | trivial | exact ⟨_, _, rfl⟩ | (constructor))]
  · rw [if_neg e, atKey_put_other (by intro h; injection h with _ h; exact e h)]
    exact h3 j hj
end Go.Proofs.Ytoddhfabeiimkaa


namespace Go.Proofs.Ytoddhfabeiimkaa
set_option linter.unusedVariables false
set_option linter.unusedSimpArgs false
set_option maxRecDepth 100000
open Go

abbrev Env := Tmp → Value

/-- what is known of a value, and stays known while the world goes on -/
structure Fact (E : World → World → Prop) where
  holds : Value → World → Prop
  keep : ∀ v w w', holds v w → E w w' → holds v w'

inductive Kind (E : World → World → Prop) where
  | fixed (v : Value)
  | fresh (F : Fact E)

section
variable {P : Program} {ops : Array Oper} {Q : Exit → Act → World → Prop} {S : World → Prop} {E : World → World → Prop}

def Kind.val (ρ : Env) (o : Oper) : Kind E → Value
  | .fixed v => v
  | .fresh _ => match o.dst with | some d => ρ d | none => undef
def Kind.rel : Kind E → Value → World → Prop
  | .fixed v => fun u _ => u = v
  | .fresh F => F.holds

def FactsOK (looks : List Tmp) (ρ : Env) (w : World) : List (Tmp × Fact E) → Prop
  | [] => True
  | (t, F) :: r => (looks.contains t = true → F.holds (ρ t) w) ∧ FactsOK looks ρ w r

def StepTo (P : Program) (ops : Array Oper) (S : World → Prop) (E : World → World → Prop) (o : Oper) (a : Act) (w : World) (R : Value → World → Prop) : Prop :=
  if Region.wanted o (yielded ops a.tmps) = true then
    ∀ K : Act → World → Prop, (∀ v w', R v w' → S w' → E w w' → K (a.put o.dst v) w') → o.wp P a w K (fun _ _ _ => False)
  else R undef w

def Settle (P : Program) (ops : Array Oper) (S : World → Prop) (E : World → World → Prop) (Z : (Env → Act) → List (Tmp × Fact E) → Prop) : List Oper → (Env → Act) → List (Tmp × Fact E) → Prop
  | [], A, Fs => Z A Fs
  | o :: rest, A, Fs =>
    (∃ v, (∀ ρ w, S w → FactsOK (o.looksAt ops) ρ w Fs → StepTo P ops S E o (A ρ) w (fun u _ => u = v)) ∧ Settle P ops S E Z rest (fun ρ => (A ρ).put o.dst v) Fs) ∨
    (∃ d F, o.dst = some d ∧ (∀ ρ w, S w → FactsOK (o.looksAt ops) ρ w Fs → StepTo P ops S E o (A ρ) w F.holds) ∧ Settle P ops S E Z rest (fun ρ => (A ρ).put (some d) (ρ d)) ((d, F) :: Fs))

def actOf (a : Act) (ρ : Env) (l : List (Oper × Kind E)) : Act := l.foldl (fun a p => a.put p.1.dst (p.2.val ρ p.1)) a
def addFact (Fs : List (Tmp × Fact E)) (p : Oper × Kind E) : List (Tmp × Fact E) :=
  match p.2, p.1.dst with
  | .fresh F, some d => (d, F) :: Fs
  | _, _ => Fs
def factsOf (l : List (Oper × Kind E)) : List (Tmp × Fact E) := l.foldl addFact []

structure Plan (P : Program) (ops : Array Oper) (S : World → Prop) (a : Act) (l : List (Oper × Kind E)) : Prop where
  dst : ∀ p ∈ l, (∃ F, p.2 = .fresh F) → ∃ d, p.1.dst = some d
  step : ∀ pre p post, l = pre ++ p :: post → ∀ ρ w, S w → FactsOK (p.1.looksAt ops) ρ w (factsOf pre) → StepTo P ops S E p.1 (actOf a ρ pre) w p.2.rel

theorem plan_snoc {a : Act} {l : List (Oper × Kind E)} (h : Plan P ops S a l) {p : Oper × Kind E} (h1 : (∃ F, p.2 = .fresh F) → ∃ d, p.1.dst = some d)
    (h2 : ∀ ρ w, S w → FactsOK (p.1.looksAt ops) ρ w (factsOf l) → StepTo P ops S E p.1 (actOf a ρ l) w p.2.rel) : Plan P ops S a (l ++ [p]) := by
  refine ⟨fun q hq hf => ?_, fun pre q post he => ?_⟩
  · rcases List.mem_append.1 hq with hq | hq
    · exact h.dst q hq hf
    · rw [List.mem_singleton.1 hq] at hf ⊢
      exact h1 hf
  · rcases List.eq_nil_or_concat post with rfl | ⟨post', q', rfl⟩
    · have := List.append_inj' he rfl
      obtain ⟨e1, e2⟩ := this
      injection e2 with e2
      subst e1 e2
      exact h2
    · have e : pre ++ q :: (post' ++ [q']) = (pre ++ q :: post') ++ [q'] := by simp
      rw [List.concat_eq_append, e] at he
      exact h.step pre q post' (List.append_inj' he rfl).1

theorem settle_plan {Z : (Env → Act) → List (Tmp × Fact E) → Prop} {a : Act} : ∀ (l : List Oper) (pre : List (Oper × Kind E)), Plan P ops S a pre → Settle P ops S E Z l (fun ρ => actOf a ρ pre) (factsOf pre) →
    ∃ full : List (Oper × Kind E), Plan P ops S a full ∧ full.map (·.1) = pre.map (·.1) ++ l ∧ Z (fun ρ => actOf a ρ full) (factsOf full) := by
  intro l
  induction l with
  | nil => exact fun pre hp h => ⟨pre, hp, by simp, h⟩
  | cons o rest ih =>
    intro pre hp h
    rcases h with ⟨v, h1, h2⟩ | ⟨d, F, hd, h1, h2⟩
    · obtain ⟨full, q1, q2, q3⟩ := ih (pre ++ [(o, .fixed v)]) (plan_snoc (p := (o, .fixed v)) hp (fun ⟨F, h⟩ => by cases h) h1) (by
        have e1 : (fun ρ => actOf a ρ (pre ++ [(o, (Kind.fixed v : Kind E))])) = fun ρ => (actOf a ρ pre).put o.dst v := by
          funext ρ; simp [actOf, Kind.val]
        have e2 : factsOf (pre ++ [(o, (Kind.fixed v : Kind E))]) = factsOf pre := by simp [factsOf, addFact]
        rw [e1, e2]
        exact h2)
      exact ⟨full, q1, by rw [q2]; simp, q3⟩
    · obtain ⟨full, q1, q2, q3⟩ := ih (pre ++ [(o, .fresh F)]) (plan_snoc (p := (o, .fresh F)) hp (fun _ => ⟨d, hd⟩) h1) (by
        have e1 : (fun ρ => actOf a ρ (pre ++ [(o, (Kind.fresh F : Kind E))])) = fun ρ => (actOf a ρ pre).put (some d) (ρ d) := by
          funext ρ; simp [actOf, Kind.val, hd]
        have e2 : factsOf (pre ++ [(o, (Kind.fresh F : Kind E))]) = (d, F) :: factsOf pre := by simp [factsOf, addFact, hd]
        rw [e1, e2]
        exact h2)
      exact ⟨full, q1, by rw [q2]; simp, q3⟩

/-! ### what an act holds when some of the operations have come up -/
structure Holds (a0 : Act) (full : List (Oper × Kind E)) (L : Nat → Prop) (ρ : Env) (a : Act) : Prop where
  defers : a.defers = a0.defers
  size : a.tmps.size = a0.tmps.size
  far : ∀ t, (∀ i p, L i → full[i]? = some p → p.1.dst ≠ some t) → a.tmps[t]? = a0.tmps[t]?
  near : ∀ i p t, L i → full[i]? = some p → p.1.dst = some t → t < a0.tmps.size → a.tmps[t]? = some (p.2.val ρ p.1)

theorem put_size (a : Act) (d : Option Tmp) (v : Value) : (a.put d v).tmps.size = a.tmps.size := by cases d <;> simp [Act.put]
theorem put_defers' (a : Act) (d : Option Tmp) (v : Value) : (a.put d v).defers = a.defers := by cases d <;> simp [Act.put]
theorem put_get_ne (a : Act) (d : Option Tmp) (v : Value) (t : Tmp) (h : d ≠ some t) : (a.put d v).tmps[t]? = a.tmps[t]? := by
  cases d with
  | none => rfl
  | some d => simp [Act.put, Array.getElem?_setIfInBounds_ne (show d ≠ t from fun e => h (by rw [e]))]
theorem put_get_eq (a : Act) (v : Value) (t : Tmp) (h : t < a.tmps.size) : (a.put (some t) v).tmps[t]? = some v := by
  simp [Act.put, h]

theorem Holds.put {a0 a : Act} {full : List (Oper × Kind E)} {L L' : Nat → Prop} {ρ ρ' : Env} (h : Holds a0 full L ρ a) {i : Nat} {p : Oper × Kind E} (hp : full[i]? = some p) (hL : ∀ j, L' j ↔ j = i ∨ L j)
    (hdist : ∀ j q, L j → full[j]? = some q → ∀ d, q.1.dst = some d → p.1.dst ≠ some d) (hρ : ∀ j q, L j → full[j]? = some q → q.2.val ρ' q.1 = q.2.val ρ q.1) :
    Holds a0 full L' ρ' (a.put p.1.dst (p.2.val ρ' p.1)) := by
  refine ⟨(put_defers' _ _ _).trans h.defers, (put_size _ _ _).trans h.size, fun t ht => ?_, fun j q t hj hq hd hlt => ?_⟩
  · rw [put_get_ne _ _ _ _ (ht i p ((hL i).2 (.inl rfl)) hp)]
    exact h.far t fun j q hj hq => ht j q ((hL j).2 (.inr hj)) hq
  · rcases (hL j).1 hj with rfl | hj'
    · rw [hp] at hq
      injection hq with hq
      subst hq
      rw [hd]
      exact put_get_eq _ _ _ (by rw [h.size]; exact hlt)
    · rw [put_get_ne _ _ _ _ (hdist j q hj' hq t hd), h.near j q t hj' hq hd hlt, hρ j q hj' hq]

theorem Holds.agree {a0 a a' : Act} {full : List (Oper × Kind E)} {L L' : Nat → Prop} {ρ : Env} (h : Holds a0 full L ρ a) (h' : Holds a0 full L' ρ a') (t : Tmp)
    (ht : ∀ j q, full[j]? = some q → q.1.dst = some t → (L j ↔ L' j)) : a.tmps[t]? = a'.tmps[t]? := by
  by_cases hex : ∃ j q, L j ∧ full[j]? = some q ∧ q.1.dst = some t
  · obtain ⟨j, q, hj, hq, hd⟩ := hex
    rcases Nat.lt_or_ge t a0.tmps.size with hlt | hge
    · rw [h.near j q t hj hq hd hlt, h'.near j q t ((ht j q hq hd).1 hj) hq hd hlt]
    · rw [Array.getElem?_eq_none (by rw [h.size]; exact hge), Array.getElem?_eq_none (by rw [h'.size]; exact hge)]
  · rw [h.far t (fun j q hj hq hd => hex ⟨j, q, hj, hq, hd⟩), h'.far t (fun j q hj hq hd => hex ⟨j, q, (ht j q hq hd).2 hj, hq, hd⟩)]

theorem Holds.unique {a0 a a' : Act} {full : List (Oper × Kind E)} {L : Nat → Prop} {ρ : Env} (h : Holds a0 full L ρ a) (h' : Holds a0 full L ρ a') : a = a' := by
  have e : a.tmps = a'.tmps := Array.ext_getElem? fun t => h.agree h' t fun _ _ _ _ => Iff.rfl
  have d := h.defers.trans h'.defers.symm
  cases a; cases a'; simp_all

/-- the order of the text is one, and what is not apart waits -/
def linearB (ops : Array Oper) : Bool :=
  Region.noSelect ops && (List.range ops.size).all fun j =>
    match ops[j]? with
    | none => true
    | some oj => oj.after.all (fun e => !Region.binds .any e || decide (e.on < j)) && !((oj.dst.map fun d => (oj.looksAt ops).contains d).getD false) && (List.range j).all fun i =>
      match ops[i]? with
      | none => true
      | some oi => (oi.apart ops oj || oj.after.any (fun e => Region.binds .any e && e.on == i)) && (match oi.dst with | some d => oj.dst != some d | none => true)

structure Linear (ops : Array Oper) : Prop where
  sel : ∀ (j : Nat) (o : Oper) cs b, ops[j]? = some o → o.op ≠ .select cs b
  back : ∀ (j : Nat) (o : Oper), ops[j]? = some o → ∀ e ∈ o.after, Region.binds .any e = true → e.on < j
  self : ∀ (j : Nat) (o : Oper) d, ops[j]? = some o → o.dst = some d → d ∉ o.looksAt ops
  wait : ∀ (i j : Nat) (oi oj : Oper), i < j → ops[i]? = some oi → ops[j]? = some oj → oi.apart ops oj = true ∨ ∃ e ∈ oj.after, Region.binds .any e = true ∧ e.on = i
  dist : ∀ (i j : Nat) (oi oj : Oper) d, i < j → ops[i]? = some oi → ops[j]? = some oj → oi.dst = some d → oj.dst ≠ some d

theorem linear_of (h : linearB ops = true) : Linear ops := by
  unfold linearB at h
  rw [Bool.and_eq_true, List.all_eq_true] at h
  obtain ⟨h0, h⟩ := h
  have key : ∀ (j : Nat) (oj : Oper), ops[j]? = some oj → _ := fun j oj hj => by
    have := h j (List.mem_range.2 (Array.getElem?_eq_some_iff.1 hj).1)
    rw [hj] at this
    simp only [Bool.and_eq_true] at this
    exact this
  refine ⟨Region.noSelect_spec h0, fun j o ho e he hb => ?_, fun j o d ho hd hmem => ?_, fun i j oi oj hij hi hj => ?_, fun i j oi oj d hij hi hj hd => ?_⟩
  · have := (key j o ho).1.1
    rw [Array.all_eq_true_iff_forall_mem] at this
    have := this e he
    simpa [hb] using this
  · have := (key j o ho).1.2
    rw [hd] at this
    simp [hmem] at this
  · have := (List.all_eq_true.1 (key j oj hj).2) i (List.mem_range.2 hij)
    rw [hi] at this
    simp only [Bool.and_eq_true, Bool.or_eq_true] at this
    rcases this.1 with h | h
    · exact .inl h
    · obtain ⟨n, hn, hb⟩ := Array.any_eq_true.1 h
      simp only [Bool.and_eq_true, beq_iff_eq] at hb
      exact .inr ⟨_, Array.getElem_mem hn, hb.1, hb.2⟩
  · have := (List.all_eq_true.1 (key j oj hj).2) i (List.mem_range.2 hij)
    rw [hi] at this
    simp only [Bool.and_eq_true] at this
    have h2 := this.2
    rw [hd] at h2
    simpa using h2

/-! ### whatever order comes up -/
theorem factsOK_of {looks : List Tmp} {ρ : Env} {w : World} : ∀ (Fs : List (Tmp × Fact E)), (∀ t F, (t, F) ∈ Fs → looks.contains t = true → F.holds (ρ t) w) → FactsOK looks ρ w Fs
  | [], _ => trivial
  | (t, F) :: r, h => ⟨h t F (by simp), factsOK_of r fun t' F' hm => h t' F' (by simp [hm])⟩

theorem mem_facts {l : List (Oper × Kind E)} {t : Tmp} {F : Fact E} : ∀ {Fs : List (Tmp × Fact E)}, (t, F) ∈ l.foldl addFact Fs → (t, F) ∈ Fs ∨ ∃ (i : Nat) (p : Oper × Kind E), l[i]? = some p ∧ p.2 = .fresh F ∧ p.1.dst = some t := by
  induction l with
  | nil => exact fun h => .inl h
  | cons q l ih =>
    intro Fs h
    rw [List.foldl_cons] at h
    rcases ih h with h | ⟨i, p, h1, h2⟩
    · obtain ⟨o, k⟩ := q
      rcases k with v | G
      · exact .inl (by simpa [addFact] using h)
      · rcases hd : o.dst with _ | d
        · exact .inl (by simpa [addFact, hd] using h)
        · simp only [addFact, hd, List.mem_cons, Prod.mk.injEq] at h
          rcases h with ⟨rfl, rfl⟩ | h
          · exact .inr ⟨0, _, rfl, rfl, hd⟩
          · exact .inl h
    · exact .inr ⟨i + 1, p, by simpa using h1, h2⟩

theorem wp_carry {o : Oper} {a1 a2 : Act} {w : World} {R : Value → World → Prop} {K : Act → World → Prop} (he : execOp a2.eval o = execOp a1.eval o) (hsz : a1.tmps.size = a2.tmps.size)
    (h : o.wp P a1 w (fun a' w' => ∃ v, a' = a1.put o.dst v ∧ R v w') (fun _ _ _ => False)) (hK : ∀ v w', R v w' → K (a2.put o.dst v) w') : o.wp P a2 w K Q := by
  have key : ∀ u v, a1.put o.dst u = a1.put o.dst v → a2.put o.dst u = a2.put o.dst v := by
    intro u v huv
    cases hd : o.dst with
    | none => rfl
    | some d =>
      rw [hd] at huv
      rcases Nat.lt_or_ge d a1.tmps.size with hlt | hge
      · have h1 := put_get_eq a1 u d hlt
        rw [huv, put_get_eq a1 v d hlt] at h1
        injection h1 with h1
        rw [h1]
      · have : ¬ d < a2.tmps.size := by rw [← hsz]; exact Nat.not_lt.2 hge
        simp [Act.put, Array.setIfInBounds, this]
  have kd : ∀ (d : Deferred) u v, ({ a1 with defers := d :: a1.defers } : Act).put o.dst u = a1.put o.dst v → False := by
    intro d u v h
    have := congrArg Act.defers h
    rw [put_defers', put_defers'] at this
    simp at this
  unfold Oper.wp at *
  rw [he]
  generalize (execOp a1.eval o).run P w = r at *
  cases r with
  | ok n w' =>
    cases n <;> simp only [Oper.upon] at h ⊢
    case value u => obtain ⟨v, e, hR⟩ := h; rw [key u v e]; exact hK v _ hR
    case skip => obtain ⟨v, e, hR⟩ := h; rw [key _ v e]; exact hK v _ hR
    case defer d => obtain ⟨v, e, hR⟩ := h; exact (kd d _ v e).elim
    case enter f args =>
      refine Calls.mono h fun e w'' hh => ?_
      cases e with
      | returned u => obtain ⟨v, e, hR⟩ := hh; simp only; rw [key u v e]; exact hK v _ hR
      | panicked c => exact hh.elim
      | outgrown => obtain ⟨_, _, hf⟩ := hh; exact hf.elim
    case row row args => exact Rows.mono h fun u w'' hh => by obtain ⟨v, e, hR⟩ := hh; rw [key u v e]; exact hK v _ hR
  | halt x w' => cases x <;> simp only [Oper.upon] at h ⊢

theorem holds_prefix (a0 : Act) (full : List (Oper × Kind E)) (ρ : Env) (hdist : ∀ (i j : Nat) (p q : Oper × Kind E) (d : Tmp), i < j → full[i]? = some p → full[j]? = some q → p.1.dst = some d → q.1.dst ≠ some d) :
    ∀ n, n ≤ full.length → Holds a0 full (fun i => i < n) ρ (actOf a0 ρ (full.take n)) := by
  intro n
  induction n with
  | zero => exact fun _ => ⟨rfl, rfl, fun _ _ => rfl, fun i p t hi => absurd hi (Nat.not_lt_zero _)⟩
  | succ n ih =>
    intro hn
    have hp : full[n]? = some full[n] := List.getElem?_eq_getElem (by omega)
    have e : actOf a0 ρ (full.take (n + 1)) = (actOf a0 ρ (full.take n)).put full[n].1.dst (full[n].2.val ρ full[n].1) := by
      unfold actOf
      rw [List.take_succ_eq_append_getElem (by omega), List.foldl_append]
      rfl
    rw [e]
    exact (ih (by omega)).put hp (fun j => by omega) (fun j q hj hq d hd => hdist j n q _ d hj hq hp hd) (fun _ _ _ _ => rfl)

theorem any_order {a0 : Act} {full : List (Oper × Kind E)} (hops : full.map (·.1) = ops.toList) (hlin : Linear ops) (hp : Plan P ops S a0 full)
    (hZ : ∀ ρ w, S w → (∀ t F, (t, F) ∈ factsOf full → F.holds (ρ t) w) → Q .normal (actOf a0 ρ full) w) :
    ∀ (fuel : Nat) (listed : Array Bool) (a : Act) (w : World) (ρ : Env), listed.size = ops.size → (∀ i j o, listed.getD j false = true → ops[j]? = some o → (∃ e ∈ o.after, Region.binds .any e = true ∧ e.on = i) → listed.getD i false = true) →
      (∃ todo : List Nat, todo.length ≤ fuel ∧ ∀ i, i < ops.size → listed.getD i false = false → i ∈ todo) →
      Holds a0 full (fun i => listed.getD i false = true) ρ a → S w → (∀ (i : Nat) (p : Oper × Kind E) (F : Fact E) (d : Tmp), listed.getD i false = true → full[i]? = some p → p.2 = .fresh F → p.1.dst = some d → F.holds (ρ d) w) →
      wpAny P .any ops Q fuel listed a w := by
  have hget : ∀ (i : Nat) (p : Oper × Kind E), full[i]? = some p → ops[i]? = some p.1 := fun i p h => by
    have : (full.map (·.1))[i]? = some p.1 := by simp [h]
    rw [hops] at this
    simpa using this
  have hlen : full.length = ops.size := by
    have := congrArg List.length hops
    simpa using this
  have hget' : ∀ (i : Nat) (o : Oper), ops[i]? = some o → ∃ p : Oper × Kind E, full[i]? = some p ∧ p.1 = o := fun i o h => by
    have hi : i < full.length := by rw [hlen]; exact (Array.getElem?_eq_some_iff.1 h).1
    have h1 := hget i _ (List.getElem?_eq_getElem hi)
    rw [h] at h1
    injection h1 with h1
    exact ⟨_, List.getElem?_eq_getElem hi, h1.symm⟩
  have hdist : ∀ (i j : Nat) (p q : Oper × Kind E) (d : Tmp), i < j → full[i]? = some p → full[j]? = some q → p.1.dst = some d → q.1.dst ≠ some d := fun i j p q d hij h1 h2 => hlin.dist i j _ _ d hij (hget i p h1) (hget j q h2)
  have hdist2 : ∀ (i j : Nat) (p q : Oper × Kind E) (d : Tmp), i ≠ j → full[i]? = some p → full[j]? = some q → p.1.dst = some d → q.1.dst ≠ some d := fun i j p q d hij h1 h2 hd hd' => by
    rcases Nat.lt_or_gt_of_ne hij with h | h
    · exact hdist i j p q d h h1 h2 hd hd'
    · exact hdist j i q p d h h2 h1 hd' hd
  -- all have come up
  have fin : ∀ (listed : Array Bool) (a : Act) (w : World) (ρ : Env), listed.size = ops.size → (∀ i, i < ops.size → listed.getD i false = true) → Holds a0 full (fun i => listed.getD i false = true) ρ a → S w →
      (∀ (i : Nat) (p : Oper × Kind E) (F : Fact E) (d : Tmp), listed.getD i false = true → full[i]? = some p → p.2 = .fresh F → p.1.dst = some d → F.holds (ρ d) w) → Q .normal a w := fun listed a w ρ hsz hall hH hS hF => by
    have h1 : Holds a0 full (fun i => i < full.length) ρ (actOf a0 ρ full) := by
      have := holds_prefix a0 full ρ hdist full.length (Nat.le_refl _)
      rwa [List.take_length] at this
    have h2 : Holds a0 full (fun i => i < full.length) ρ a :=
      ⟨hH.defers, hH.size, fun t ht => hH.far t fun i p hi hp => ht i p (List.getElem?_eq_some_iff.1 hp).1 hp, fun i p t hi => hH.near i p t (hall i (by omega))⟩
    rw [h2.unique h1]
    refine hZ ρ w hS fun t F hm => ?_
    rcases mem_facts hm with h | ⟨i, p, h1, h2, h3⟩
    · cases h
    · exact hF i p F t (hall i (by have := (List.getElem?_eq_some_iff.1 h1).1; omega)) h1 h2 h3
  have none_left : ∀ listed : Array Bool, listed.size = ops.size → Region.ready .any ops listed = [] → ∀ n i, i < n → i < ops.size → listed.getD i false = true := by
    intro listed hsz hr n
    induction n with
    | zero => intro i h; omega
    | succ n ih =>
      intro i hi hlt
      cases hli : listed.getD i false with
      | true => rfl
      | false =>
        have ho : ops[i]? = some ops[i] := Array.getElem?_eq_getElem hlt
        have hmem : i ∈ Region.ready .any ops listed := by
          rw [mem_ready]
          refine ⟨?_, _, ho, fun e he hb => ?_⟩
          · simp only [Array.getD, hsz, hlt, dif_pos] at hli ⊢
            exact hli
          · have := hlin.back i _ ho e he hb
            exact ih e.on (by omega) (by omega)
        rw [hr] at hmem
        cases hmem
  intro fuel
  induction fuel with
  | zero =>
    intro listed a w ρ hsz hdown ⟨todo, htodo, hin⟩ hH hS hF
    have hall : ∀ i, i < ops.size → listed.getD i false = true := fun i hi => by
      cases hli : listed.getD i false with
      | true => rfl
      | false =>
        have := hin i hi hli
        rw [List.eq_nil_of_length_eq_zero (Nat.le_zero.1 htodo)] at this
        cases this
    refine ⟨?_, fin listed a w ρ hsz hall hH hS hF⟩
    rw [List.eq_nil_iff_forall_not_mem]
    intro i hi
    obtain ⟨h0, o, ho, _⟩ := mem_ready.1 hi
    have hlt := (Array.getElem?_eq_some_iff.1 ho).1
    have := hall i hlt
    simp only [Array.getD, hsz, hlt, dif_pos] at this h0
    rw [this] at h0
    cases h0
  | succ fuel ih =>
    intro listed a w ρ hsz hdown ⟨todo, htodo, hin⟩ hH hS hF
    refine ⟨fun hr => fin listed a w ρ hsz (fun i hi => none_left listed hsz hr (i + 1) i (by omega) hi) hH hS hF, fun i hi => ?_⟩
    obtain ⟨h0, o, ho, hall⟩ := mem_ready.1 hi
    have hlt := (Array.getElem?_eq_some_iff.1 ho).1
    have h0' : listed.getD i false = false := by
      simp only [Array.getD, hsz, hlt, dif_pos] at h0 ⊢
      exact h0
    obtain ⟨p, hpi, rfl⟩ := hget' i o ho
    have hil : i < full.length := by omega
    have hpre : Holds a0 full (fun j => j < i) ρ (actOf a0 ρ (full.take i)) := holds_prefix a0 full ρ hdist i (by omega)
    have hsplit : full = full.take i ++ p :: full.drop (i + 1) := by
      have : full[i] = p := by have := List.getElem?_eq_getElem hil; rw [hpi] at this; injection this with this; exact this.symm
      rw [← this, List.getElem_cons_drop, List.take_append_drop]
    have hstep := hp.step _ p _ hsplit ρ w hS
    have conf : ∀ (j : Nat) (q : Oper × Kind E), full[j]? = some q → ∀ t, q.1.dst = some t → t ∈ p.1.looksAt ops → (listed.getD j false = true ↔ j < i) := by
      intro j q hq t hd hl
      have hoj := hget j q hq
      rcases Nat.lt_trichotomy j i with h | h | h
      · refine ⟨fun _ => h, fun _ => ?_⟩
        rcases hlin.wait j i _ _ h hoj ho with hap | ⟨e, he, hb, hon⟩
        · exact absurd hl ((Oper.apart_spec hap).1 t hd)
        · rw [← hon]; exact hall e he hb
      · subst h
        rw [hpi] at hq
        injection hq with hq
        subst hq
        exact absurd hl (hlin.self j _ t ho hd)
      · refine ⟨fun hj => ?_, fun h' => by omega⟩
        exfalso
        rcases hlin.wait i j _ _ h ho hoj with hap | ⟨e, he, hb, hon⟩
        · exact absurd hl ((Oper.apart_spec hap).2.2 t hd)
        · have := hdown i j _ hj hoj ⟨e, he, hb, hon⟩
          rw [h0'] at this
          cases this
    have hfacts : FactsOK (p.1.looksAt ops) ρ w (factsOf (full.take i)) := factsOK_of _ fun t F hm hl => by
      rcases mem_facts hm with h | ⟨j, q, h1, h2, h3⟩
      · cases h
      · have hji : j < i := by
          have := (List.getElem?_eq_some_iff.1 h1).1
          rw [List.length_take] at this
          omega
        have hq : full[j]? = some q := by
          rw [List.getElem?_take, if_pos hji] at h1
          exact h1
        exact hF j q F t ((conf j q hq t h3 (by simpa using hl)).2 hji) hq h2 h3
    have hst := hstep hfacts
    have hag : ∀ t, t ∈ p.1.looksAt ops → a.tmps[t]? = (actOf a0 ρ (full.take i)).tmps[t]? := fun t ht =>
      hH.agree hpre t fun j q hq hd => conf j q hq t hd ht
    have hexec : execOp a.eval p.1 = execOp (actOf a0 ρ (full.take i)).eval p.1 := execOp_congr p.1 (fun cs b => hlin.sel i _ cs b ho) fun x hx => by
      cases x with
      | tmp t =>
        have := hag t (List.mem_append_left _ (List.mem_filterMap.2 ⟨.tmp t, by simpa using hx, rfl⟩))
        simp only [Act.eval, Array.getD_eq_getD_getElem?]
        rw [this]
      | _ => rfl
    have hwant : Region.wanted p.1 (yielded ops a.tmps) = Region.wanted p.1 (yielded ops (actOf a0 ρ (full.take i)).tmps) := by
      unfold Region.wanted
      cases hg : p.1.guard with
      | none => rfl
      | some gw =>
        obtain ⟨g, want⟩ := gw
        have : yielded ops a.tmps g = yielded ops (actOf a0 ρ (full.take i)).tmps g := by
          unfold yielded
          cases ht : (ops[g]?).bind (·.dst) with
          | none => rfl
          | some t =>
            have := hag t (List.mem_append_right _ (by simp [hg, ht]))
            simp only [Option.bind_some, this]
        simp only [this]
    have size_eq : (actOf a0 ρ (full.take i)).tmps.size = a.tmps.size := hpre.size.trans hH.size.symm
    -- the way on
    have go : ∀ v w', p.2.rel v w' → S w' → (∀ (j : Nat) (q : Oper × Kind E) (F : Fact E) (d : Tmp), listed.getD j false = true → full[j]? = some q → q.2 = .fresh F → q.1.dst = some d → F.holds (ρ d) w') →
        wpAny P .any ops Q fuel (listed.setIfInBounds i true) (a.put p.1.dst v) w' := by
      intro v w' hR hS' hF'
      have next : ∀ ρ' : Env, p.2.val ρ' p.1 = v → (∀ j q, j ≠ i → full[j]? = some q → q.2.val ρ' q.1 = q.2.val ρ q.1) → (∀ j q F d, j ≠ i → full[j]? = some q → q.2 = .fresh F → q.1.dst = some d → ρ' d = ρ d) → (∀ F d, p.2 = .fresh F → p.1.dst = some d → F.holds (ρ' d) w') →
          wpAny P .any ops Q fuel (listed.setIfInBounds i true) (a.put p.1.dst v) w' := by
        intro ρ' hv hothers hd' hself
        have hset : ∀ j, (listed.setIfInBounds i true).getD j false = true ↔ j = i ∨ listed.getD j false = true := fun j => by
          by_cases hji : j = i
          · subst hji
            simp [Array.getD, hsz, hlt]
          · rw [getD_set_ne false (Ne.symm hji)]
            simp [hji]
        refine ih _ _ _ ρ' (by simpa using hsz) (fun i' j o' hj ho' he => ?_) ⟨todo.filter (· != i), ?_, fun j hj hjl => ?_⟩ ?_ hS' (fun j q F d hj hq hf hd => ?_)
        · rcases (hset j).1 hj with rfl | hj
          · obtain ⟨e, he, hb, hon⟩ := he
            rw [ho] at ho'
            injection ho' with ho'
            subst ho'
            rw [hset, ← hon]
            exact .inr (hall e he hb)
          · exact (hset i').2 (.inr (hdown i' j o' hj ho' he))
        · have : (todo.filter (· != i)).length < todo.length := by
            rw [List.length_filter_lt_length_iff_exists]
            exact ⟨i, hin i hlt h0', by simp⟩
          omega
        · have hne : j ≠ i := fun e => by
            have := (hset j).2 (.inl e)
            rw [this] at hjl
            cases hjl
          refine List.mem_filter.2 ⟨hin j hj ?_, by simpa using hne⟩
          rwa [getD_set_ne false (Ne.symm hne)] at hjl
        · have := hH.put (ρ' := ρ') hpi hset (fun j q hj hq d hd => hdist2 j i q p d (fun e => by rw [e, h0'] at hj; cases hj) hq hpi hd) (fun j q hj hq => hothers j q (fun e => by rw [e, h0'] at hj; cases hj) hq)
          rwa [hv] at this
        · rcases (hset j).1 hj with rfl | hj
          · rw [hpi] at hq
            injection hq with hq
            subst hq
            exact hself F d hf hd
          · have hne : j ≠ i := fun e => by rw [e, h0'] at hj; cases hj
            rw [hd' j q F d hne hq hf hd]
            exact hF' j q F d hj hq hf hd
      cases hk : p.2 with
      | fixed v0 =>
        have hv : v = v0 := by rw [hk] at hR; exact hR
        exact next ρ (by rw [hk]; exact hv.symm) (fun _ _ _ _ => rfl) (fun _ _ _ _ _ _ _ _ => rfl) (fun F d hf => by rw [hk] at hf; cases hf)
      | fresh F =>
        obtain ⟨d, hd⟩ := hp.dst p (by rw [hsplit]; simp) ⟨F, hk⟩
        have hR' : F.holds v w' := by rw [hk] at hR; exact hR
        have hne : ∀ j q d', j ≠ i → full[j]? = some q → q.1.dst = some d' → d' ≠ d := fun j q d' hji hq hd' e => hdist2 j i q p d' hji hq hpi hd' (by rw [hd, e])
        refine next (fun t => if t = d then v else ρ t) (by rw [hk]; simp [Kind.val, hd]) (fun j q hji hq => ?_) (fun j q F' d' hji hq _ hd' => if_neg (hne j q d' hji hq hd')) (fun F' d' hf hd' => ?_)
        · cases hkq : q.2 with
          | fixed v0 => rfl
          | fresh F' =>
            obtain ⟨d', hd'⟩ := hp.dst q (List.mem_of_getElem? hq) ⟨F', hkq⟩
            simp only [Kind.val, hd']
            exact if_neg (hne j q d' hji hq hd')
        · rw [hk] at hf
          injection hf with hf
          rw [hd] at hd'
          injection hd' with hd'
          subst hf hd'
          simpa using hR'
    unfold wpOp
    simp only [ho]
    unfold StepTo at hst
    rw [← hwant] at hst
    split
    · rename_i hw
      rw [if_pos hw] at hst
      refine .inl (wp_carry (R := fun v w' => p.2.rel v w' ∧ S w' ∧ E w w') hexec size_eq (hst _ fun v w' h1 h2 h3 => ⟨v, rfl, h1, h2, h3⟩) fun v w' ⟨h1, h2, h3⟩ => go v w' h1 h2 fun j q F d hj hq hf hd => F.keep _ _ _ (hF j q F d hj hq hf hd) h3)
    · rename_i hw
      rw [if_neg hw] at hst
      exact go undef w hst hS hF

/-- THE RULE -/
theorem wp_settle {id : Nat} {a : Act} {w : World} {l : List Oper} (hm : P.follows .mixedOrders = true) (hlin : linearB l.toArray = true) (E : World → World → Prop) (S : World → Prop) (hS : S w.drew)
    (h : Settle P l.toArray S E (fun A Fs => ∀ ρ w', S w' → (∀ t F, (t, F) ∈ Fs → F.holds (ρ t) w') → Q .normal (A ρ) w') l (fun _ => a) []) : (Code.region id l.toArray true).wp P Q a w := by
  obtain ⟨full, hp, he, hZ⟩ := settle_plan l [] ⟨(fun _ h => by cases h), (fun pre p post he => by simp at he)⟩ h
  refine wp_region_any hm (any_order (by simpa using he) (linear_of hlin) hp hZ _ _ a _ (fun _ => undef) (by simp) (fun i j o hj => ?_) ⟨List.range l.toArray.size, by simp, fun i hi _ => List.mem_range.2 hi⟩ ⟨rfl, rfl, fun _ _ => rfl, fun i p t hi => ?_⟩ hS fun i p F d hi => ?_)
  · exfalso; revert hj; simp [Array.getD]
  · exfalso; revert hi; simp [Array.getD]
  · exfalso; revert hi; simp [Array.getD]
end
end Go.Proofs.Ytoddhfabeiimkaa


namespace Go.Proofs.Ytoddhfabeiimkaa
set_option linter.unusedVariables false
set_option linter.unusedSimpArgs false
set_option maxRecDepth 100000
open Go Go.RowKit

section
variable {P : Program} {ops : Array Oper} {S : World → Prop} {E : World → World → Prop} {Z : (Env → Act) → List (Tmp × Fact E) → Prop} {o : Oper} {rest : List Oper} {A : Env → Act} {Fs : List (Tmp × Fact E)}

/-- the same, that nothing looks into -/
structure Walk (P : Program) (ops : Array Oper) (S : World → Prop) (E : World → World → Prop) (Z : (Env → Act) → List (Tmp × Fact E) → Prop) (l : List Oper) (A : Env → Act) (Fs : List (Tmp × Fact E)) : Prop where
  out : Settle P ops S E Z l A Fs

theorem settle_nil (h : Z A Fs) : Walk P ops S E Z [] A Fs := ⟨h⟩

theorem settle_skip (hw : ∀ ρ, Region.wanted o (yielded ops (A ρ).tmps) = false) (h : Walk P ops S E Z rest (fun ρ => (A ρ).put o.dst undef) Fs) : Walk P ops S E Z (o :: rest) A Fs :=
  ⟨.inl ⟨undef, fun ρ w _ _ => by unfold StepTo; rw [if_neg (by rw [hw]; simp)], h.out⟩⟩

theorem settle_run {v : Value} (hE : ∀ w, S w → E w w) (hw : ∀ ρ, Region.wanted o (yielded ops (A ρ).tmps) = true)
    (hr : ∀ ρ w, S w → FactsOK (o.looksAt ops) ρ w Fs → (execOp (A ρ).eval o).run P w = .ok (.value v) w) (h : Walk P ops S E Z rest (fun ρ => (A ρ).put o.dst v) Fs) : Walk P ops S E Z (o :: rest) A Fs :=
  ⟨.inl ⟨v, fun ρ w hS hF => by
    unfold StepTo
    rw [if_pos (hw ρ)]
    intro K hK
    unfold Oper.wp
    rw [hr ρ w hS hF]
    exact hK v w rfl hS (hE w hS), h.out⟩⟩

theorem settle_call {v : Value} {f : FuncId} {args : Env → Array Value} (hw : ∀ ρ, Region.wanted o (yielded ops (A ρ).tmps) = true)
    (hr : ∀ ρ w, (execOp (A ρ).eval o).run P w = .ok (.enter f (args ρ)) w)
    (hc : ∀ ρ w, S w → FactsOK (o.looksAt ops) ρ w Fs → Calls P f (args ρ) w fun e w' => e = .returned v ∧ S w' ∧ E w w') (h : Walk P ops S E Z rest (fun ρ => (A ρ).put o.dst v) Fs) : Walk P ops S E Z (o :: rest) A Fs :=
  ⟨.inl ⟨v, fun ρ w hS hF => by
    unfold StepTo
    rw [if_pos (hw ρ)]
    intro K hK
    unfold Oper.wp
    rw [hr ρ w]
    refine (hc ρ w hS hF).mono fun e w' ⟨h1, h2, h3⟩ => ?_
    subst h1
    exact hK v w' rfl h2 h3, h.out⟩⟩

/-- whatever gives the value -/
theorem settle_step {v : Value} (hw : ∀ ρ, Region.wanted o (yielded ops (A ρ).tmps) = true)
    (hc : ∀ ρ w, S w → FactsOK (o.looksAt ops) ρ w Fs → ∀ K : Act → World → Prop, (∀ w', S w' → E w w' → K ((A ρ).put o.dst v) w') → o.wp P (A ρ) w K (fun _ _ _ => False)) (h : Walk P ops S E Z rest (fun ρ => (A ρ).put o.dst v) Fs) : Walk P ops S E Z (o :: rest) A Fs :=
  ⟨.inl ⟨v, fun ρ w hS hF => by
    unfold StepTo
    rw [if_pos (hw ρ)]
    exact fun K hK => hc ρ w hS hF K fun w' h1 h2 => hK v w' rfl h1 h2, h.out⟩⟩
/-- whatever gives a value of which a fact is known -/
theorem settle_known {d : Tmp} (F : Fact E) (hd : o.dst = some d) (hw : ∀ ρ, Region.wanted o (yielded ops (A ρ).tmps) = true)
    (hc : ∀ ρ w, S w → FactsOK (o.looksAt ops) ρ w Fs → ∀ K : Act → World → Prop, (∀ v w', F.holds v w' → S w' → E w w' → K ((A ρ).put o.dst v) w') → o.wp P (A ρ) w K (fun _ _ _ => False)) (h : Walk P ops S E Z rest (fun ρ => (A ρ).put (some d) (ρ d)) ((d, F) :: Fs)) : Walk P ops S E Z (o :: rest) A Fs :=
  ⟨.inr ⟨d, F, hd, fun ρ w hS hF => by
    unfold StepTo
    rw [if_pos (hw ρ)]
    exact fun K hK => hc ρ w hS hF K hK, h.out⟩⟩

/-- a call of whose result a fact is known -/
theorem settle_fresh {f : FuncId} {args : Env → Array Value} {d : Tmp} (F : Fact E) (hd : o.dst = some d) (hw : ∀ ρ, Region.wanted o (yielded ops (A ρ).tmps) = true)
    (hr : ∀ ρ w, (execOp (A ρ).eval o).run P w = .ok (.enter f (args ρ)) w)
    (hc : ∀ ρ w, S w → FactsOK (o.looksAt ops) ρ w Fs → Calls P f (args ρ) w fun e w' => ∃ v, e = .returned v ∧ F.holds v w' ∧ S w' ∧ E w w') (h : Walk P ops S E Z rest (fun ρ => (A ρ).put (some d) (ρ d)) ((d, F) :: Fs)) : Walk P ops S E Z (o :: rest) A Fs :=
  ⟨.inr ⟨d, F, hd, fun ρ w hS hF => by
    unfold StepTo
    rw [if_pos (hw ρ)]
    intro K hK
    unfold Oper.wp
    rw [hr ρ w]
    refine (hc ρ w hS hF).mono fun e w' ⟨v, h0, h1, h2, h3⟩ => ?_
    subst h0
    exact hK v w' h1 h2 h3, h.out⟩⟩

/-- an operation that gives a value of which a fact is known, and leaves the world -/
theorem settle_value {d : Tmp} (F : Fact E) (hE : ∀ w, S w → E w w) (hd : o.dst = some d) (hw : ∀ ρ, Region.wanted o (yielded ops (A ρ).tmps) = true)
    (hr : ∀ ρ w, S w → FactsOK (o.looksAt ops) ρ w Fs → ∃ v, (execOp (A ρ).eval o).run P w = .ok (.value v) w ∧ F.holds v w) (h : Walk P ops S E Z rest (fun ρ => (A ρ).put (some d) (ρ d)) ((d, F) :: Fs)) : Walk P ops S E Z (o :: rest) A Fs :=
  ⟨.inr ⟨d, F, hd, fun ρ w hS hF => by
    unfold StepTo
    rw [if_pos (hw ρ)]
    intro K hK
    obtain ⟨v, h1, h2⟩ := hr ρ w hS hF
    unfold Oper.wp
    rw [h1]
    exact hK v w h2 hS (hE w hS), h.out⟩⟩

/-- a copy of such a value -/
theorem settle_copy {d t : Tmp} {F : Fact E} (hE : ∀ w, S w → E w w) (hd : o.dst = some d) (hg : o.guard = none) (ho : o.op = .move (.tmp t) ∨ o.op = .assign (.tmp t)) (ht : ∀ ρ, (A ρ).eval (.tmp t) = ρ t) (hF : (t, F) ∈ Fs)
    (h : Walk P ops S E Z rest (fun ρ => (A ρ).put (some d) (ρ d)) ((d, F) :: Fs)) : Walk P ops S E Z (o :: rest) A Fs := by
  refine settle_value F hE hd (fun ρ => by simp [Region.wanted, hg]) (fun ρ w hS hFs => ?_) h
  have key : ∀ (l : List (Tmp × Fact E)), FactsOK (o.looksAt ops) ρ w l → (t, F) ∈ l → F.holds (ρ t) w := by
    intro l
    induction l with
    | nil => exact fun _ h => by cases h
    | cons p r ih =>
      obtain ⟨t', F'⟩ := p
      intro ⟨h1, h2⟩ hm
      rcases List.mem_cons.1 hm with e | hm
      · injection e with e1 e2
        subst e1 e2
        refine h1 ?_
        rcases ho with ho | ho <;> simp [Oper.looksAt, ho, Op.operands]
      · exact ih h2 hm
  refine ⟨ρ t, ?_, key Fs hFs hF⟩
  rcases ho with ho | ho <;> simp [execOp, ho, ht]
/-- THE RULE, with that -/
theorem wp_walk {Q : Exit → Act → World → Prop} {id : Nat} {a : Act} {w : World} {l : List Oper} (hm : P.follows .mixedOrders = true) (hlin : linearB l.toArray = true) (E : World → World → Prop) (S : World → Prop) (hS : S w.drew)
    (h : Walk P l.toArray S E (fun A Fs => ∀ ρ w', S w' → (∀ t F, (t, F) ∈ Fs → F.holds (ρ t) w') → Q .normal (A ρ) w') l (fun _ => a) []) : (Code.region id l.toArray true).wp P Q a w :=
  wp_settle hm hlin E S hS h.out
end
end Go.Proofs.Ytoddhfabeiimkaa


namespace Go.Proofs.Ytoddhfabeiimkaa
set_option linter.unusedVariables false
set_option linter.unusedSimpArgs false
set_option maxRecDepth 100000
open Go

section
variable {P : Program} {ops : Array Oper} {Q : Exit → Act → World → Prop} {S : World → Prop} {E : World → World → Prop}

theorem wpAny_seq_more {md : Region.Mode} (x : Nat) : ∀ (l : List Oper) (k : Nat) (listed : Array Bool) (a : Act) (w : World), (∀ j, l[j]? = ops[k + j]?) →
    Region.seqB md ops l.length k listed = true → wpList P ops Q l a w → wpAny P md ops Q (l.length + x) listed a w
  | [], _, listed, _, _, _, hB, h => by
    have hr : Region.ready md ops listed = [] := by simpa [Region.seqB] using hB
    rcases x with _ | x
    · exact ⟨hr, h⟩
    · rw [show ([] : List Oper).length + (x + 1) = x + 1 by simp]
      exact ⟨fun _ => h, fun i hi => by rw [hr] at hi; cases hi⟩
  | o :: l, k, listed, a, w, hl, hB, h => by
    have h0 : ops[k]? = some o := by simpa using (hl 0).symm
    simp only [List.length_cons, Region.seqB, Bool.and_eq_true, decide_eq_true_eq] at hB
    rw [show (o :: l).length + x = (l.length + x) + 1 by simp only [List.length_cons]; omega]
    refine ⟨fun h1 => (by rw [hB.1] at h1; cases h1), fun i hi => ?_⟩
    rw [hB.1] at hi
    have hik : i = k := by simpa using hi
    subst hik
    have hw : wpOp P ops Q i (wpList P ops Q l) a w := by unfold wpOp; simp only [h0]; exact h
    exact wpOp_mono (fun a' w' h' => wpAny_seq_more x l (i + 1) _ a' w' (fun j => by have := hl (j + 1); simpa [Nat.add_assoc, Nat.add_comm 1 j] using this) hB.2 h') hw

/-- of the first n operations: the order of the text is one, and what is not apart waits -/
def linearNB (ops : Array Oper) (n : Nat) : Bool :=
  Region.noSelect ops && (List.range n).all fun j =>
    match ops[j]? with
    | none => true
    | some oj => oj.after.all (fun e => !Region.binds .any e || decide (e.on < j)) && !((oj.dst.map fun d => (oj.looksAt ops).contains d).getD false) && (List.range j).all fun i =>
      match ops[i]? with
      | none => true
      | some oi => (oi.apart ops oj || oj.after.any (fun e => Region.binds .any e && e.on == i)) && (match oi.dst with | some d => oj.dst != some d | none => true)

structure LinearN (ops : Array Oper) (n : Nat) : Prop where
  sel : ∀ (j : Nat) (o : Oper) cs b, ops[j]? = some o → o.op ≠ .select cs b
  back : ∀ (j : Nat) (o : Oper), j < n → ops[j]? = some o → ∀ e ∈ o.after, Region.binds .any e = true → e.on < j
  self : ∀ (j : Nat) (o : Oper) d, j < n → ops[j]? = some o → o.dst = some d → d ∉ o.looksAt ops
  wait : ∀ (i j : Nat) (oi oj : Oper), i < j → j < n → ops[i]? = some oi → ops[j]? = some oj → oi.apart ops oj = true ∨ ∃ e ∈ oj.after, Region.binds .any e = true ∧ e.on = i
  dist : ∀ (i j : Nat) (oi oj : Oper) d, i < j → j < n → ops[i]? = some oi → ops[j]? = some oj → oi.dst = some d → oj.dst ≠ some d

theorem linearN_of {n : Nat} (h : linearNB ops n = true) : LinearN ops n := by
  unfold linearNB at h
  rw [Bool.and_eq_true, List.all_eq_true] at h
  obtain ⟨h0, h⟩ := h
  have key : ∀ (j : Nat) (oj : Oper), j < n → ops[j]? = some oj → _ := fun j oj hjn hj => by
    have := h j (List.mem_range.2 hjn)
    rw [hj] at this
    simp only [Bool.and_eq_true] at this
    exact this
  refine ⟨Region.noSelect_spec h0, fun j o hjn ho e he hb => ?_, fun j o d hjn ho hd hmem => ?_, fun i j oi oj hij hjn hi hj => ?_, fun i j oi oj d hij hjn hi hj hd => ?_⟩
  · have := (key j o hjn ho).1.1
    rw [Array.all_eq_true_iff_forall_mem] at this
    have := this e he
    simpa [hb] using this
  · have := (key j o hjn ho).1.2
    rw [hd] at this
    simp [hmem] at this
  · have := (List.all_eq_true.1 (key j oj hjn hj).2) i (List.mem_range.2 hij)
    rw [hi] at this
    simp only [Bool.and_eq_true, Bool.or_eq_true] at this
    rcases this.1 with h | h
    · exact .inl h
    · obtain ⟨n, hn, hb⟩ := Array.any_eq_true.1 h
      simp only [Bool.and_eq_true, beq_iff_eq] at hb
      exact .inr ⟨_, Array.getElem_mem hn, hb.1, hb.2⟩
  · have := (List.all_eq_true.1 (key j oj hjn hj).2) i (List.mem_range.2 hij)
    rw [hi] at this
    simp only [Bool.and_eq_true] at this
    have h2 := this.2
    rw [hd] at h2
    simpa using h2

theorem getD_ext {x y : Array Bool} (hs : x.size = y.size) (h : ∀ i, x.getD i false = y.getD i false) : x = y := by
  apply Array.ext hs
  intro i h1 h2
  have := h i
  simpa [h1, h2] using this

theorem any_order_tail {a0 : Act} {full : List (Oper × Kind E)} {n : Nat} (hn : n < ops.size) (hops : full.map (·.1) = ops.toList.take n) (hlin : LinearN ops n) (hsk : Region.sinkB .any ops n = true) (hch : Region.chainB .any ops n = true)
    (hsq : ∀ listed : Array Bool, listed.size = ops.size → (∀ i, i < n → listed.getD i false = true) → (∀ i, n ≤ i → listed.getD i false = false) → Region.seqB .any ops (ops.size - n) n listed = true) (hp : Plan P ops S a0 full)
    (hZ : ∀ ρ w, S w → (∀ t F, (t, F) ∈ factsOf full → F.holds (ρ t) w) → wpList P ops Q (ops.toList.drop n) (actOf a0 ρ full) w) :
    ∀ (fuel : Nat) (listed : Array Bool) (a : Act) (w : World) (ρ : Env), HeadInv .any ops n listed →
      (∃ todo : List Nat, todo.length ≤ fuel ∧ ∀ i, i < n → listed.getD i false = false → i ∈ todo) →
      Holds a0 full (fun i => listed.getD i false = true) ρ a → S w → (∀ (i : Nat) (p : Oper × Kind E) (F : Fact E) (d : Tmp), listed.getD i false = true → full[i]? = some p → p.2 = .fresh F → p.1.dst = some d → F.holds (ρ d) w) →
      wpAny P .any ops Q (fuel + (ops.size - n)) listed a w := by
  have hget : ∀ (i : Nat) (p : Oper × Kind E), full[i]? = some p → ops[i]? = some p.1 := fun i p h => by
    have : (full.map (·.1))[i]? = some p.1 := by simp [h]
    rw [hops, List.getElem?_take] at this
    split at this
    · simpa using this
    · cases this
  have hlen : full.length = n := by
    have := congrArg List.length hops
    simp only [List.length_map, List.length_take, Array.length_toList] at this
    omega
  have hget' : ∀ (i : Nat) (o : Oper), i < n → ops[i]? = some o → ∃ p : Oper × Kind E, full[i]? = some p ∧ p.1 = o := fun i o hin h => by
    have hi : i < full.length := by rw [hlen]; exact hin
    have h1 := hget i _ (List.getElem?_eq_getElem hi)
    rw [h] at h1
    injection h1 with h1
    exact ⟨_, List.getElem?_eq_getElem hi, h1.symm⟩
  have hdist : ∀ (i j : Nat) (p q : Oper × Kind E) (d : Tmp), i < j → full[i]? = some p → full[j]? = some q → p.1.dst = some d → q.1.dst ≠ some d := fun i j p q d hij h1 h2 => hlin.dist i j _ _ d hij (by have := (List.getElem?_eq_some_iff.1 h2).1; omega) (hget i p h1) (hget j q h2)
  have hdist2 : ∀ (i j : Nat) (p q : Oper × Kind E) (d : Tmp), i ≠ j → full[i]? = some p → full[j]? = some q → p.1.dst = some d → q.1.dst ≠ some d := fun i j p q d hij h1 h2 hd hd' => by
    rcases Nat.lt_or_gt_of_ne hij with h | h
    · exact hdist i j p q d h h1 h2 hd hd'
    · exact hdist j i q p d h h2 h1 hd' hd
  -- all have come up
  have fin : ∀ (fuel : Nat) (listed : Array Bool) (a : Act) (w : World) (ρ : Env), HeadInv .any ops n listed → (∀ i, i < n → listed.getD i false = true) → Holds a0 full (fun i => listed.getD i false = true) ρ a → S w →
      (∀ (i : Nat) (p : Oper × Kind E) (F : Fact E) (d : Tmp), listed.getD i false = true → full[i]? = some p → p.2 = .fresh F → p.1.dst = some d → F.holds (ρ d) w) → wpAny P .any ops Q (fuel + (ops.size - n)) listed a w := fun fuel listed a w ρ inv hall hH hS hF => by
    have h1 : Holds a0 full (fun i => i < full.length) ρ (actOf a0 ρ full) := by
      have := holds_prefix a0 full ρ hdist full.length (Nat.le_refl _)
      rwa [List.take_length] at this
    have h2 : Holds a0 full (fun i => i < full.length) ρ a :=
      ⟨hH.defers, hH.size, fun t ht => hH.far t fun i p hi hp => ht i p (List.getElem?_eq_some_iff.1 hp).1 hp, fun i p t hi => hH.near i p t (hall i (by omega))⟩
    rw [h2.unique h1]
    have hz := hZ ρ w hS fun t F hm => by
      rcases mem_facts hm with h | ⟨i, p, h1, h2, h3⟩
      · cases h
      · exact hF i p F t (hall i (by have := (List.getElem?_eq_some_iff.1 h1).1; omega)) h1 h2 h3
    have hdl : (ops.toList.drop n).length = ops.size - n := by simp
    have hs := hsq listed inv.size hall (fun i hi => by
      rcases Nat.lt_or_ge i ops.size with h | h
      · exact getD_both (inv.tail i hi h)
      · simp [Array.getD, inv.size, Nat.not_lt.2 h])
    have := wpAny_seq_more fuel (ops.toList.drop n) n listed (actOf a0 ρ full) w (fun j => by simp [List.getElem?_drop]) (by rw [hdl]; exact hs) hz
    rwa [hdl, Nat.add_comm] at this
  have none_left : ∀ listed : Array Bool, HeadInv .any ops n listed → Region.ready .any ops listed = [] → ∀ m i, i < m → i < n → listed.getD i false = true := by
    intro listed inv hr m
    induction m with
    | zero => intro i h; omega
    | succ m ih =>
      intro i hi hin
      cases hli : listed.getD i false with
      | true => rfl
      | false =>
        have hlt : i < ops.size := by omega
        have ho : ops[i]? = some ops[i] := Array.getElem?_eq_getElem hlt
        have hmem : i ∈ Region.ready .any ops listed := by
          rw [mem_ready]
          refine ⟨?_, _, ho, fun e he hb => ?_⟩
          · simp only [Array.getD, inv.size, hlt, dif_pos] at hli ⊢
            exact hli
          · have := hlin.back i _ hin ho e he hb
            exact ih e.on (by omega) (by omega)
        rw [hr] at hmem
        cases hmem
  have some_left : ∀ listed : Array Bool, (∀ i, i < n → listed.getD i false = true) ∨ ∃ i, i < n ∧ listed.getD i false = false := fun listed => by
    by_cases h : ∃ i, i < n ∧ listed.getD i false = false
    · exact .inr h
    · exact .inl fun i hi => by
        cases hl : listed.getD i false with
        | true => rfl
        | false => exact (h ⟨i, hi, hl⟩).elim
  intro fuel
  induction fuel with
  | zero =>
    intro listed a w ρ inv ⟨todo, htodo, hin⟩ hH hS hF
    have hall : ∀ i, i < n → listed.getD i false = true := fun i hi => by
      cases hli : listed.getD i false with
      | true => rfl
      | false =>
        have := hin i hi hli
        rw [List.eq_nil_of_length_eq_zero (Nat.le_zero.1 htodo)] at this
        cases this
    exact fin 0 listed a w ρ inv hall hH hS hF
  | succ fuel ih =>
    intro listed a w ρ inv ⟨todo, htodo, hin⟩ hH hS hF
    rcases some_left listed with hall | ⟨i0, hi0, hl0⟩
    · exact fin (fuel + 1) listed a w ρ inv hall hH hS hF
    have hsz := inv.size
    rw [show fuel + 1 + (ops.size - n) = (fuel + (ops.size - n)) + 1 by omega]
    refine ⟨fun hr => ?_, fun i hi => ?_⟩
    · have := none_left listed inv hr (i0 + 1) i0 (by omega) hi0
      rw [hl0] at this
      cases this
    have hilt : i < n := by
      rcases Nat.lt_or_ge i n with h | h
      · exact h
      · exact absurd hi (tail_waits hsk hch hn inv _ i0 rfl hi0 (getD_in (by omega) hl0) i h)
    obtain ⟨h0, o, ho, hall⟩ := mem_ready.1 hi
    have hlt := (Array.getElem?_eq_some_iff.1 ho).1
    have h0' : listed.getD i false = false := by
      simp only [Array.getD, hsz, hlt, dif_pos] at h0 ⊢
      exact h0
    obtain ⟨p, hpi, rfl⟩ := hget' i o hilt ho
    have hil : i < full.length := by omega
    have hpre : Holds a0 full (fun j => j < i) ρ (actOf a0 ρ (full.take i)) := holds_prefix a0 full ρ hdist i (by omega)
    have hsplit : full = full.take i ++ p :: full.drop (i + 1) := by
      have : full[i] = p := by have := List.getElem?_eq_getElem hil; rw [hpi] at this; injection this with this; exact this.symm
      rw [← this, List.getElem_cons_drop, List.take_append_drop]
    have hstep := hp.step _ p _ hsplit ρ w hS
    have conf : ∀ (j : Nat) (q : Oper × Kind E), full[j]? = some q → ∀ t, q.1.dst = some t → t ∈ p.1.looksAt ops → (listed.getD j false = true ↔ j < i) := by
      intro j q hq t hd hl
      have hoj := hget j q hq
      have hjn : j < n := by have := (List.getElem?_eq_some_iff.1 hq).1; omega
      rcases Nat.lt_trichotomy j i with h | h | h
      · refine ⟨fun _ => h, fun _ => ?_⟩
        rcases hlin.wait j i _ _ h hilt hoj ho with hap | ⟨e, he, hb, hon⟩
        · exact absurd hl ((Oper.apart_spec hap).1 t hd)
        · rw [← hon]; exact hall e he hb
      · subst h
        rw [hpi] at hq
        injection hq with hq
        subst hq
        exact absurd hl (hlin.self j _ t hilt ho hd)
      · refine ⟨fun hj => ?_, fun h' => by omega⟩
        exfalso
        rcases hlin.wait i j _ _ h hjn ho hoj with hap | ⟨e, he, hb, hon⟩
        · exact absurd hl ((Oper.apart_spec hap).2.2 t hd)
        · have := inv.closed j _ hoj hj e he hb
          rw [hon, h0'] at this
          cases this
    have hfacts : FactsOK (p.1.looksAt ops) ρ w (factsOf (full.take i)) := factsOK_of _ fun t F hm hl => by
      rcases mem_facts hm with h | ⟨j, q, h1, h2, h3⟩
      · cases h
      · have hji : j < i := by
          have := (List.getElem?_eq_some_iff.1 h1).1
          rw [List.length_take] at this
          omega
        have hq : full[j]? = some q := by
          rw [List.getElem?_take, if_pos hji] at h1
          exact h1
        exact hF j q F t ((conf j q hq t h3 (by simpa using hl)).2 hji) hq h2 h3
    have hst := hstep hfacts
    have hag : ∀ t, t ∈ p.1.looksAt ops → a.tmps[t]? = (actOf a0 ρ (full.take i)).tmps[t]? := fun t ht =>
      hH.agree hpre t fun j q hq hd => conf j q hq t hd ht
    have hexec : execOp a.eval p.1 = execOp (actOf a0 ρ (full.take i)).eval p.1 := execOp_congr p.1 (fun cs b => hlin.sel i _ cs b ho) fun x hx => by
      cases x with
      | tmp t =>
        have := hag t (List.mem_append_left _ (List.mem_filterMap.2 ⟨.tmp t, by simpa using hx, rfl⟩))
        simp only [Act.eval, Array.getD_eq_getD_getElem?]
        rw [this]
      | _ => rfl
    have hwant : Region.wanted p.1 (yielded ops a.tmps) = Region.wanted p.1 (yielded ops (actOf a0 ρ (full.take i)).tmps) := by
      unfold Region.wanted
      cases hg : p.1.guard with
      | none => rfl
      | some gw =>
        obtain ⟨g, want⟩ := gw
        have : yielded ops a.tmps g = yielded ops (actOf a0 ρ (full.take i)).tmps g := by
          unfold yielded
          cases ht : (ops[g]?).bind (·.dst) with
          | none => rfl
          | some t =>
            have := hag t (List.mem_append_right _ (by simp [hg, ht]))
            simp only [Option.bind_some, this]
        simp only [this]
    have size_eq : (actOf a0 ρ (full.take i)).tmps.size = a.tmps.size := hpre.size.trans hH.size.symm
    -- the way on
    have go : ∀ v w', p.2.rel v w' → S w' → (∀ (j : Nat) (q : Oper × Kind E) (F : Fact E) (d : Tmp), listed.getD j false = true → full[j]? = some q → q.2 = .fresh F → q.1.dst = some d → F.holds (ρ d) w') →
        wpAny P .any ops Q (fuel + (ops.size - n)) (listed.setIfInBounds i true) (a.put p.1.dst v) w' := by
      intro v w' hR hS' hF'
      have next : ∀ ρ' : Env, p.2.val ρ' p.1 = v → (∀ j q, j ≠ i → full[j]? = some q → q.2.val ρ' q.1 = q.2.val ρ q.1) → (∀ j q F d, j ≠ i → full[j]? = some q → q.2 = .fresh F → q.1.dst = some d → ρ' d = ρ d) → (∀ F d, p.2 = .fresh F → p.1.dst = some d → F.holds (ρ' d) w') →
          wpAny P .any ops Q (fuel + (ops.size - n)) (listed.setIfInBounds i true) (a.put p.1.dst v) w' := by
        intro ρ' hv hothers hd' hself
        have hset : ∀ j, (listed.setIfInBounds i true).getD j false = true ↔ j = i ∨ listed.getD j false = true := fun j => by
          by_cases hji : j = i
          · subst hji
            simp [Array.getD, hsz, hlt]
          · rw [getD_set_ne false (Ne.symm hji)]
            simp [hji]
        refine ih _ _ _ ρ' (inv.set hi hilt) ⟨todo.filter (· != i), ?_, fun j hj hjl => ?_⟩ ?_ hS' (fun j q F d hj hq hf hd => ?_)
        · have : (todo.filter (· != i)).length < todo.length := by
            rw [List.length_filter_lt_length_iff_exists]
            exact ⟨i, hin i hilt h0', by simp⟩
          omega
        · have hne : j ≠ i := fun e => by
            have := (hset j).2 (.inl e)
            rw [this] at hjl
            cases hjl
          refine List.mem_filter.2 ⟨hin j hj ?_, by simpa using hne⟩
          rwa [getD_set_ne false (Ne.symm hne)] at hjl
        · have := hH.put (ρ' := ρ') hpi hset (fun j q hj hq d hd => hdist2 j i q p d (fun e => by rw [e, h0'] at hj; cases hj) hq hpi hd) (fun j q hj hq => hothers j q (fun e => by rw [e, h0'] at hj; cases hj) hq)
          rwa [hv] at this
        · rcases (hset j).1 hj with rfl | hj
          · rw [hpi] at hq
            injection hq with hq
            subst hq
            exact hself F d hf hd
          · have hne : j ≠ i := fun e => by rw [e, h0'] at hj; cases hj
            rw [hd' j q F d hne hq hf hd]
            exact hF' j q F d hj hq hf hd
      cases hk : p.2 with
      | fixed v0 =>
        have hv : v = v0 := by rw [hk] at hR; exact hR
        exact next ρ (by rw [hk]; exact hv.symm) (fun _ _ _ _ => rfl) (fun _ _ _ _ _ _ _ _ => rfl) (fun F d hf => by rw [hk] at hf; cases hf)
      | fresh F =>
        obtain ⟨d, hd⟩ := hp.dst p (by rw [hsplit]; simp) ⟨F, hk⟩
        have hR' : F.holds v w' := by rw [hk] at hR; exact hR
        have hne : ∀ j q d', j ≠ i → full[j]? = some q → q.1.dst = some d' → d' ≠ d := fun j q d' hji hq hd' e => hdist2 j i q p d' hji hq hpi hd' (by rw [hd, e])
        refine next (fun t => if t = d then v else ρ t) (by rw [hk]; simp [Kind.val, hd]) (fun j q hji hq => ?_) (fun j q F' d' hji hq _ hd' => if_neg (hne j q d' hji hq hd')) (fun F' d' hf hd' => ?_)
        · cases hkq : q.2 with
          | fixed v0 => rfl
          | fresh F' =>
            obtain ⟨d', hd'⟩ := hp.dst q (List.mem_of_getElem? hq) ⟨F', hkq⟩
            simp only [Kind.val, hd']
            exact if_neg (hne j q d' hji hq hd')
        · rw [hk] at hf
          injection hf with hf
          rw [hd] at hd'
          injection hd' with hd'
          subst hf hd'
          simpa using hR'
    unfold wpOp
    simp only [ho]
    unfold StepTo at hst
    rw [← hwant] at hst
    split
    · rename_i hw
      rw [if_pos hw] at hst
      refine .inl (wp_carry (R := fun v w' => p.2.rel v w' ∧ S w' ∧ E w w') hexec size_eq (hst _ fun v w' h1 h2 h3 => ⟨v, rfl, h1, h2, h3⟩) fun v w' ⟨h1, h2, h3⟩ => go v w' h1 h2 fun j q F d hj hq hf hd => F.keep _ _ _ (hF j q F d hj hq hf hd) h3)
    · rename_i hw
      rw [if_neg hw] at hst
      exact go undef w hst hS hF


/-- what is asked of the operations, n of them ahead of the tail -/
def tailB (ops : Array Oper) (n : Nat) : Bool :=
  decide (n < ops.size) && linearNB ops n && Region.sinkB .any ops n && Region.chainB .any ops n && Region.seqB .any ops (ops.size - n) n ((Array.replicate n true) ++ (Array.replicate (ops.size - n) false))

/-- THE RULE, with a tail -/
theorem wp_walk_tail {id : Nat} {a : Act} {w : World} {l : List Oper} (n : Nat) (hm : P.follows .mixedOrders = true) (hB : tailB l.toArray n = true) (E : World → World → Prop) (S : World → Prop) (hS : S w.drew)
    (h : Walk P l.toArray S E (fun A Fs => ∀ ρ w', S w' → (∀ t F, (t, F) ∈ Fs → F.holds (ρ t) w') → wpList P l.toArray Q (l.drop n) (A ρ) w') (l.take n) (fun _ => a) []) : (Code.region id l.toArray true).wp P Q a w := by
  simp only [tailB, Bool.and_eq_true, decide_eq_true_eq] at hB
  obtain ⟨⟨⟨⟨hn, hlin⟩, hs⟩, hc⟩, hq⟩ := hB
  obtain ⟨full, hp, he, hZ⟩ := settle_plan (l.take n) [] ⟨(fun _ h => by cases h), (fun pre p post he => by simp at he)⟩ h.out
  have inv0 : HeadInv .any l.toArray n (Array.replicate l.toArray.size false) :=
    ⟨by simp, fun j oj _ hl => (by rw [getD_replicate_false] at hl; cases hl), fun t _ ht => getD_in (by simpa using ht) (getD_replicate_false _ _)⟩
  have := any_order_tail (P := P) (Q := Q) hn (by simpa using he) (linearN_of hlin) hs hc (fun listed hsz h1 h2 => by
    have hn' := hn
    rw [show listed = (Array.replicate n true) ++ (Array.replicate (l.toArray.size - n) false) from getD_ext (by simp only [Array.size_append, Array.size_replicate]; omega) fun i => by
      rw [Array.getD_eq_getD_getElem? (xs := _ ++ _), Array.getElem?_append]
      rcases Nat.lt_or_ge i n with h | h
      · rw [h1 i h]
        simp [h]
      · rw [h2 i h]
        simp only [Array.size_replicate, Nat.not_lt.2 h, if_false, Array.getElem?_replicate]
        split <;> rfl]
    exact hq) hp hZ n _ a w.drew (fun _ => undef) inv0 ⟨List.range n, by simp, fun i hi _ => List.mem_range.2 hi⟩ ⟨rfl, rfl, fun _ _ => rfl, fun i p t hi => ?_⟩ hS fun i p F d hi => ?_
  · refine wp_region_any hm ?_
    rwa [show n + (l.toArray.size - n) = l.toArray.size by omega] at this
  · exfalso; rw [getD_replicate_false] at hi; cases hi
  · exfalso; rw [getD_replicate_false] at hi; cases hi

/-- all but the last one -/
theorem wp_walk_last {id : Nat} {a : Act} {w : World} {l : List Oper} (hm : P.follows .mixedOrders = true) (hB : tailB l.toArray (l.length - 1) = true) (E : World → World → Prop) (S : World → Prop) (hS : S w.drew)
    (h : Walk P l.toArray S E (fun A Fs => ∀ ρ w', S w' → (∀ t F, (t, F) ∈ Fs → F.holds (ρ t) w') → wpList P l.toArray Q (l.drop (l.length - 1)) (A ρ) w') (l.take (l.length - 1)) (fun _ => a) []) : (Code.region id l.toArray true).wp P Q a w :=
  wp_walk_tail (l.length - 1) hm hB E S hS h
end
end Go.Proofs.Ytoddhfabeiimkaa


namespace Go.Proofs.Ytoddhfabeiimkaa
set_option linter.unusedVariables false
set_option linter.unusedSimpArgs false
set_option maxRecDepth 100000
open Go Go.RowKit

theorem keeps_below {w w' : World} (h : Below w.heap.size w w') : Keeps (fun _ => False) w w' := Keeps.of_below h _
def FSl (sz n : Nat) (vs : List Value) : Fact (fun w w' => Below w.heap.size w w') := ⟨fun v w => SlV w sz v n vs, fun _ _ _ h k => h.below k⟩
/-- 'append(v, vs...)' as one operation -/
theorem oper_append {P : Program} {w : World} {o : Oper} {a : Act} {K : Act → World → Prop} {Q : Exit → Act → World → Prop} (s x : Operand)
    (base t e : TypeId) (z : Value) (size bytes : Nat) (ht : P.underlying t = some (.slice e)) (hinfo : (P.info? e).map (fun i => (i.zero, i.size, i.bytes)) = some (some z, size, bytes)) (hz : z.cells.size = size) (hsz : 0 < size)
    {v : Value} {n : Nat} {xs : List Value} (hown : w.ownsRow base e size v n xs) {vs : Value} {m : Nat} {news : List Value} (hsl : SlV w size vs m news) (h1 : ∀ u ∈ news, u.oneCell' = true)
    (h63 : n + m ≤ maxLen) (hbytes : (n + m) * bytes ≤ 140737488355328) (hbase : base ≤ w.heap.size) (ho : o.op = .call { callee := .builtin .append, args := #[s, x], argTypes := #[t, t] }) (hs : a.eval s = v) (hx : a.eval x = vs)
    (h : ∀ v' w', w'.ownsRow base e size v' (n + m) (xs ++ news) → w.grownBy w' v.ownBlock → (v'.ownBlock = v.ownBlock ∨ v'.ownBlock = some w.heap.size) → Below base w w' → K (a.put o.dst v') w') : o.wp P a w K Q := by
  obtain ⟨A, c, rfl, hle, hm, hlen, hc⟩ := hsl
  obtain ⟨v', w', hrun, h2, h3, h4⟩ := run_append (P := P) w base t o.type e z size bytes ht hinfo hz hsz v n xs hown w.heap.size A m c news hlen hc h1 h63 hbytes hbase
  unfold Oper.wp execOp
  simp only [ho, resolve, invoke, builtin, Sem.run_bind, Sem.run_pure, Result.andThen_ok, List.map_toArray, List.map_cons, List.map_nil, hs, hx, hrun]
  exact h v' w' h2 h3 h4 ((Below.refl _ _).grown h3 hbase (own_ge hown))

/-- a row of the call's own, that stays as it is -/
def FRow (B : Nat) (e : TypeId) (sz n : Nat) (vs : List Value) : Fact (fun w w' => Below w.heap.size w w') := ⟨fun v w => w.ownsRow B e sz v n vs, fun _ _ _ h k => own_keeps h (keeps_below k) (fun _ _ => id)⟩

/-- the first k elements -/
theorem SlV.takeV {w : World} {sz n c : Nat} {A : Option Addr} {vs : List Value} (h : SlV w sz (.slice A n c) n vs) (k : Nat) (hk : k ≤ n) : SlV w sz (.slice A k c) k (vs.take (k * sz)) := by
  obtain ⟨A', c', he, h1, h2, h3, h4⟩ := h
  injection he with e1 e2 e3
  subst e1 e3
  have := Nat.mul_le_mul_right sz hk
  exact ⟨A, c, rfl, by omega, h2, by rw [List.length_take, h3]; omega, h4.take _⟩
end Go.Proofs.Ytoddhfabeiimkaa


namespace Go.Proofs.Ytoddhfabeiimkaa
set_option linter.unusedVariables false
set_option linter.unusedSimpArgs false
set_option maxRecDepth 100000
open Go.RowKit

def evc (e : Hb.Ev) : List Value := [.int .i64 e.kind, .int .i64 e.act, .int .i64 e.other, .int .i64 e.cell, .bool e.write, .int .i64 e.label]
def evcs (l : List Hb.Ev) : List Value := l.flatMap evc
theorem ev_cells {w : World} {B : Nat} {A : Option Addr} {l : List Hb.Ev} (h : Cells w B A (evcs l)) {k : Nat} {o : Hb.Ev} (ho : l[k]? = some o) :
    ∃ b off, A = some ⟨b, off, none⟩ ∧ b < B ∧ w.cell? ⟨b, off + k * 6, none⟩ = some (.int .i64 o.kind) ∧ w.cell? ⟨b, off + k * 6 + 1, none⟩ = some (.int .i64 o.act) ∧ w.cell? ⟨b, off + k * 6 + 2, none⟩ = some (.int .i64 o.other) ∧ w.cell? ⟨b, off + k * 6 + 3, none⟩ = some (.int .i64 o.cell) ∧ w.cell? ⟨b, off + k * 6 + 4, none⟩ = some (.bool o.write) ∧ w.cell? ⟨b, off + k * 6 + 5, none⟩ = some (.int .i64 o.label) := by
  have g : ∀ j, j < 6 → (evcs l)[k * 6 + j]? = (evc o)[j]? := fun j hj => flat_get evc 6 (fun _ => rfl) l k j o ho hj
  obtain ⟨b, off, hA, hb, hc⟩ := h.at_ (by
    intro h0
    have := g 0 (by decide)
    rw [h0] at this
    simp [evc] at this)
  refine ⟨b, off, hA, hb, hc _ _ (g 0 (by decide)), ?_, ?_, ?_, ?_, ?_⟩
  · rw [Nat.add_assoc]; exact hc _ _ (g 1 (by decide))
  · rw [Nat.add_assoc]; exact hc _ _ (g 2 (by decide))
  · rw [Nat.add_assoc]; exact hc _ _ (g 3 (by decide))
  · rw [Nat.add_assoc]; exact hc _ _ (g 4 (by decide))
  · rw [Nat.add_assoc]; exact hc _ _ (g 5 (by decide))

theorem known_any (n : Int) (b : Bool) (hb : decide (Hb.known n) = b) (w : World) : Calls Try.prog 23 #[.int .i64 n] w fun e w' => e = .returned (.bool b) ∧ w' = w := by
  by_cases h0 : 0 ≤ n
  · have g0 : decide (0 ≤ n) = true := by simpa using h0
    by_cases h1 : n < 200
    · have g1 : decide (n < 200) = true := by simpa using h1
      obtain rfl : b = true := by rw [← hb]; simp [Hb.known, h0, h1]
      clear hb h0 h1
      go_enter Try.func23, Try.ntmps23
      go_wp2
      go_ret
      exact ⟨rfl, rfl⟩
    · have g1 : decide (n < 200) = false := by simpa using h1
      obtain rfl : b = false := by rw [← hb]; simp [Hb.known, h1]
      clear hb h0 h1
      go_enter Try.func23, Try.ntmps23
      go_wp2
      go_ret
      exact ⟨rfl, rfl⟩
  · have g0 : decide (0 ≤ n) = false := by simpa using h0
    obtain rfl : b = false := by rw [← hb]; simp [Hb.known, h0]
    clear hb h0
    go_enter Try.func23, Try.ntmps23
    go_wp2
    go_ret
    exact ⟨rfl, rfl⟩

/-- a slice of words that lies in none of these blocks -/
def FarV (T : Nat → Prop) (v : Value) (xs : List Int) : Prop := xs ≠ [] → ∀ p, vptr v = some p → ¬ T p.block
theorem FarV.nil (T : Nat → Prop) (v : Value) : FarV T v [] := fun h => absurd rfl h
theorem SlI.far {S : Nat → Prop} {w w' : World} {v : Value} {xs : List Int} (h : SlI .u64 w v xs) (k : Keeps S w w') (hf : FarV S v xs) : SlI .u64 w' v xs := by
  obtain ⟨⟨A, c, rfl, h1, h2, h3, b, o, h4, h5⟩, h6⟩ := h
  refine ⟨⟨A, c, rfl, h1, h2, h3, b, o, fun hn => ⟨(h4 hn).1, Nat.lt_of_lt_of_le (h4 hn).2 k.size⟩, fun j u hu => ?_⟩, h6⟩
  have hn : ints .u64 xs ≠ [] := fun e => by rw [e] at hu; simp at hu
  obtain ⟨hA, hb⟩ := h4 hn
  exact (World.cell?_of_block (a := ⟨b, o + j, none⟩) (k.block b hb (hf (fun e => hn (by rw [e]; rfl)) _ (by rw [hA]; rfl)))).trans (h5 j u hu)
theorem FarV.new {T : Nat → Prop} {B : Nat} {v : Value} {xs : List Int} (h : VNew B v) (hT : ∀ k, T k → k < B) : FarV T v xs := fun _ p hp hk => by
  have h1 := hT _ hk
  have h2 := h p hp
  omega
theorem FarV.step {T T' : Nat → Prop} {w : World} {v : Value} {xs : List Int} (h : FarV T v xs) (hu : SlI .u64 w v xs) (hT : ∀ k, T' k → T k ∨ w.heap.size ≤ k) : FarV T' v xs := fun hn p hp hk => by
  obtain ⟨⟨A, c, rfl, h1, h2, h3, b, o, h4, h5⟩, h6⟩ := hu
  obtain ⟨hA, hb⟩ := h4 (fun e => hn (by simpa [ints] using e))
  have hp' : A = some p := hp
  rcases hT _ hk with hk | hk
  · exact h hn p hp hk
  · rw [hp'] at hA
    injection hA with hA
    rw [hA] at hk
    simp at hk
    omega
/-- clocks, row by row -/
def CkR (w : World) (vs : List Value) (cs : List (List Int)) : Prop := ∀ (i : Nat) (u : Value) (c : List Int), vs[i]? = some u → cs[i]? = some c → SlI .u64 w u c
theorem CkR.below {w w' : World} {vs : List Value} {cs : List (List Int)} (h : CkR w vs cs) (hb : Below w.heap.size w w') : CkR w' vs cs := fun i u c h1 h2 => (h i u c h1 h2).below hb
end Go.Proofs.Ytoddhfabeiimkaa


namespace Go.Proofs.Ytoddhfabeiimkaa
set_option linter.unusedVariables false
set_option linter.unusedSimpArgs false
set_option maxRecDepth 100000
open Go.ChangeShapes Go.WideShapes Go.ChangeAt Go.RowKit Go.Deep

section
variable {H : Type} {enc : TypeId × Value → H} {P : Program} {w : World}

/-- an argument that is a slice of structs of n integers -/
theorem open_els {α : Type} [Inhabited α] (F : α → List Value) {t e : TypeId} {n : Nat} {v : Value} {d : DataW H} {ps : List MemPlace} (ht : P.underlying t = some (.slice e)) (hn0 : 0 < n) (hC : P.cellsOf e = n) (hF : ∀ a, (F a).length = n) (hE : ∀ fuel cs x, DataW.trod enc P w 0 (fun _ => true) true fuel e cs = some x → ∃ a, cs = F a)
    (hv : ∃ a len cap, v = .slice a len cap) (h : DataW.Trod enc P w 0 (fun _ => true) true t v d ps) (hlt : ∀ x ∈ ps, x.block < w.heap.size) :
    ∃ rs : List α, SlV w n v rs.length (rs.flatMap F) ∧ ((d = .nil ∧ rs = []) ∨ ∃ (el sp : List (DataW H)), d = .slice el sp ∧ el.length = rs.length) := by
  obtain ⟨a0, len, cap, rfl⟩ := hv
  obtain ⟨fuel, hfu⟩ := h
  rcases open_slice ht hfu with ⟨hcs, hx⟩ | ⟨a, len', cap', m, k, D, Pl, hcs, _, hl, hm, hmm, hx, hi⟩
  · simp [Value.cells] at hcs
    obtain ⟨rfl, rfl, rfl⟩ := hcs
    simp only [Prod.mk.injEq] at hx
    exact ⟨[], SlV.nil _ _, .inl ⟨hx.1, rfl⟩⟩
  · simp [Value.cells] at hcs
    obtain ⟨rfl, rfl, rfl⟩ := hcs
    simp only [Prod.mk.injEq] at hx
    simp only [if_true] at hmm
    rw [hC] at hi hx
    have each : ∀ i, i < len → ∃ r : α, w.cells? 0 (a.add (i * n)) n = some (F r) := by
      intro i hil
      obtain ⟨cs', hc, htr⟩ := hi i (by omega)
      obtain ⟨r, hcr⟩ := hE _ _ _ htr
      exact ⟨r, by rw [hc, hcr]⟩
    obtain ⟨f, hff⟩ := choose_lt each
    have hflat : (((List.range len).map f).flatMap F).length = len * n := by
      have : ∀ l : List α, (l.flatMap F).length = l.length * n := by
        intro l
        induction l with
        | nil => simp
        | cons r l ih => rw [List.flatMap_cons, List.length_append, ih, List.length_cons, Nat.add_mul, hF]; omega
      rw [this]
      simp
    refine ⟨(List.range len).map f, ⟨some a, cap, by simp, by simpa using hl, hm, by simpa using hflat, ?_⟩, .inr ⟨_, _, hx.1, by simp⟩⟩
    by_cases h0 : len = 0
    · subst h0
      exact Cells.nil _ _ _
    · obtain ⟨b, off, spot⟩ := a
      have hcell : ∀ i, i < len → ∀ j u, (F (f i))[j]? = some u → w.cell? ((⟨b, off, spot⟩ : Addr).add (i * n + j)) = some u := by
        intro i hil j u hu
        have hj : j < n := by
          have := (List.getElem?_eq_some_iff.1 hu).1
          rw [hF] at this
          exact this
        obtain ⟨_, _, hat⟩ := World.cells?_some (hff i hil)
        have := hat j hj
        rw [Go.Deep.add_add] at this
        rw [this, hu]
      have hspot : spot = none := by
        obtain ⟨u, hu⟩ : ∃ u, (F (f 0))[0]? = some u := ⟨_, List.getElem?_eq_getElem (by rw [hF]; exact hn0)⟩
        have := hcell 0 (by omega) 0 u hu
        simpa [Addr.add] using World.cell?_spot this
      subst hspot
      refine ⟨b, off, fun _ => ⟨rfl, hlt (.cell b off) (by
        rw [hx.2]
        refine List.mem_append_left _ (MemPlace.mem_row.2 ⟨0, ?_, by simp⟩)
        exact Nat.mul_pos (by omega) hn0)⟩, fun j u hu => ?_⟩
      have hjl : j < len * n := by
        have := (List.getElem?_eq_some_iff.1 hu).1
        omega
      have hq : j / n < len := Nat.div_lt_of_lt_mul (by rw [Nat.mul_comm]; exact hjl)
      have hr : j % n < n := Nat.mod_lt _ hn0
      have hj : j = j / n * n + j % n := by have := Nat.div_add_mod j n; rw [Nat.mul_comm] at this; omega
      have hget : ((List.range len).map f)[j / n]? = some (f (j / n)) := by simp [hq]
      rw [hj, flat_get F n hF _ _ _ _ hget hr] at hu
      have := hcell _ hq _ _ hu
      rw [← hj, Addr.add_lit] at this
      exact this
end

instance : Inhabited Hb.Ev := ⟨⟨0, 0, 0, 0, false, 0⟩⟩
theorem struct_ev {H : Type} {enc : TypeId × Value → H} {w : World} (fuel : Nat) (cs : List Value) (x : DataW H × List MemPlace) (h : DataW.trod enc Try.prog w 0 (fun _ => true) true fuel 42 cs = some x) : ∃ e : Hb.Ev, cs = evc e := by
  have hT : Try.prog.underlying 42 = some (.struct (fieldsOf Try.prog 42)) := by kernel_rfl
  have hA : Try.prog.underlying 40 = some (.struct (fieldsOf Try.prog 40)) := by kernel_rfl
  obtain ⟨xs, m, rfl, rfl, hl, hxl, hfs⟩ := DataW.trod_struct hT h
  have e0 : (fieldsOf Try.prog 42)[0]?.map (fun f => (f.type, f.offset)) = some (3, 0) := by kernel_rfl
  have e1 : (fieldsOf Try.prog 42)[1]?.map (fun f => (f.type, f.offset)) = some (3, 1) := by kernel_rfl
  have e2 : (fieldsOf Try.prog 42)[2]?.map (fun f => (f.type, f.offset)) = some (3, 2) := by kernel_rfl
  have e3 : (fieldsOf Try.prog 42)[3]?.map (fun f => (f.type, f.offset)) = some (40, 3) := by kernel_rfl
  have hsz : (fieldsOf Try.prog 42).size = 4 := by kernel_rfl
  obtain ⟨f0, g0, q0⟩ := Option.map_eq_some_iff.1 e0
  obtain ⟨f1, g1, q1⟩ := Option.map_eq_some_iff.1 e1
  obtain ⟨f2, g2, q2⟩ := Option.map_eq_some_iff.1 e2
  obtain ⟨f3, g3, q3⟩ := Option.map_eq_some_iff.1 e3
  injection q0 with q0 q0'
  injection q1 with q1 q1'
  injection q2 with q2 q2'
  injection q3 with q3 q3'
  have h0 := hfs 0 f0 g0
  have h1 := hfs 1 f1 g1
  have h2 := hfs 2 f2 g2
  have h3 := hfs 3 f3 g3
  have c0 : Try.prog.cellsOf 3 = 1 := by kernel_rfl
  have c1 : Try.prog.cellsOf 40 = 3 := by kernel_rfl
  have cT : Try.prog.cellsOf 42 = 6 := by kernel_rfl
  have cB : Try.prog.cellsOf 4 = 1 := by kernel_rfl
  rw [q0, q0', c0] at h0
  rw [q1, q1', c0] at h1
  rw [q2, q2', c0] at h2
  rw [q3, q3', c1] at h3
  rw [cT] at hl
  rw [hsz] at hxl
  match xs, hxl, cs, hl with
  | [x0, x1, x2, x3], _, [v0, v1, v2, v3, v4, v5], _ =>
    simp only [List.drop_succ_cons, List.drop_zero, List.take_succ_cons, List.take_zero, List.getElem?_cons_zero, List.getElem?_cons_succ] at h0 h1 h2 h3
    obtain ⟨k0, hk0, -, -⟩ := DataW.trod_int Try.underlying3 h0
    obtain ⟨k1, hk1, -, -⟩ := DataW.trod_int Try.underlying3 h1
    obtain ⟨k2, hk2, -, -⟩ := DataW.trod_int Try.underlying3 h2
    obtain ⟨ys, m1, rfl, -, hl1, hyl, hys⟩ := DataW.trod_struct hA h3
    have d0 : (fieldsOf Try.prog 40)[0]?.map (fun f => (f.type, f.offset)) = some (3, 0) := by kernel_rfl
    have d1 : (fieldsOf Try.prog 40)[1]?.map (fun f => (f.type, f.offset)) = some (4, 1) := by kernel_rfl
    have d2 : (fieldsOf Try.prog 40)[2]?.map (fun f => (f.type, f.offset)) = some (3, 2) := by kernel_rfl
    have hsy : (fieldsOf Try.prog 40).size = 3 := by kernel_rfl
    obtain ⟨u0, w0, p0⟩ := Option.map_eq_some_iff.1 d0
    obtain ⟨u1, w1, p1⟩ := Option.map_eq_some_iff.1 d1
    obtain ⟨u2, w2, p2⟩ := Option.map_eq_some_iff.1 d2
    injection p0 with p0 p0'
    injection p1 with p1 p1'
    injection p2 with p2 p2'
    have y0 := hys 0 u0 w0
    have y1 := hys 1 u1 w1
    have y2 := hys 2 u2 w2
    rw [p0, p0', c0] at y0
    rw [p1, p1', cB] at y1
    rw [p2, p2', c0] at y2
    rw [hsy] at hyl
    match ys, hyl with
    | [z0, z1, z2], _ =>
      simp only [List.drop_succ_cons, List.drop_zero, List.take_succ_cons, List.take_zero, List.getElem?_cons_zero, List.getElem?_cons_succ] at y0 y1 y2
      obtain ⟨c, hc, -, -⟩ := DataW.trod_int Try.underlying3 y0
      obtain ⟨b, hb, -⟩ := DataW.trod_bool Try.underlying4 y1
      obtain ⟨l, hl', -, -⟩ := DataW.trod_int Try.underlying3 y2
      simp only [List.cons.injEq, and_true] at hk0 hk1 hk2 hc hb hl'
      subst hk0 hk1 hk2 hc hb hl'
      exact ⟨⟨k0, k1, k2, c, b, l⟩, rfl⟩
theorem cells_ev : Try.prog.cellsOf 42 = 6 := by kernel_rfl
theorem bytes_ev : Try.prog.bytesOf 42 = 48 := by kernel_rfl
theorem open_evs {H : Type} {enc : TypeId × Value → H} {w : World} {v : Value} {d : DataW H} {ps : List MemPlace} (hv : ∃ a len cap, v = .slice a len cap) (h : DataW.Trod enc Try.prog w 0 (fun _ => true) true 37 v d ps) (hlt : ∀ x ∈ ps, x.block < w.heap.size) :
    ∃ l : List Hb.Ev, SlV w 6 v l.length (evcs l) ∧ ((d = .nil ∧ l = []) ∨ ∃ (el sp : List (DataW H)), d = .slice el sp ∧ el.length = l.length) :=
  open_els evc Try.underlying37 (by decide) cells_ev (fun _ => rfl) struct_ev hv h hlt
end Go.Proofs.Ytoddhfabeiimkaa


namespace Go.Proofs.Ytoddhfabeiimkaa
set_option linter.unusedVariables false
set_option linter.unusedSimpArgs false
set_option maxRecDepth 100000
open Go.RowKit Go.Maps

theorem wf_i64' {a : Int} (h : -9223372036854775808 ≤ a ∧ a ≤ 9223372036854775807) : (Lit.int .i64 a).wf = true := WalkArith.wf_i64 (by omega)
theorem info_row : (Try.prog.info? 46).map (fun i => (i.zero, i.size, i.bytes)) = some (some (.slice none 0 0), 1, 24) := by kernel_rfl

def Hb.T (g : Nat) (out : Value) (b : Nat) : Prop := b = g ∨ out.ownBlock = some b
theorem FarV.mono {T T' : Nat → Prop} {v : Value} {xs : List Int} (h : FarV T v xs) (hT : ∀ k, T' k → T k) : FarV T' v xs := fun hn p hp hk => h hn p hp (hT _ hk)
/-- what the loop of Clocks holds -/
structure Hb.St (w0 : World) (B g : Nat) (wr : World) (out : Value) (f : Int → Value) (now : Int → List Int) (m k : Nat) (vs : List Value) (cs : List (List Int)) : Prop where
  map : MapV wr g m f
  row : wr.ownsRow B 46 1 out k vs
  far : ∀ x, SlI .u64 wr (f x) (now x) ∧ FarV (Hb.T g out) (f x) (now x)
  cks : ∀ (i : Nat) (u : Value) (c : List Int), vs[i]? = some u → cs[i]? = some c → SlI .u64 wr u c ∧ FarV (Hb.T g out) u c
  below : Below B w0 wr
  base : B ≤ wr.heap.size
  glt : B ≤ g
  ne : out.ownBlock ≠ some g
  len : cs.length = k
section
variable {w0 wr w' : World} {B g m k : Nat} {out : Value} {f : Int → Value} {now : Int → List Int} {vs : List Value} {cs : List (List Int)}
theorem Hb.St.tlt (h : Hb.St w0 B g wr out f now m k vs cs) : ∀ b, Hb.T g out b → b < wr.heap.size := fun b hb => by
  rcases hb with rfl | hb
  · exact h.map.lt
  · exact (h.row.lt b hb).2
theorem Hb.St.step (h : Hb.St w0 B g wr out f now m k vs cs) (hb : Below wr.heap.size wr w') : Hb.St w0 B g w' out f now m k vs cs :=
  ⟨h.map.next hb, own_keeps h.row (Keeps.of_below hb (fun _ => False)) (fun _ _ => id), fun x => ⟨(h.far x).1.below hb, (h.far x).2⟩, fun i u c h1 h2 => ⟨(h.cks i u c h1 h2).1.below hb, (h.cks i u c h1 h2).2⟩, h.below.trans (hb.mono h.base), Nat.le_trans h.base hb.size, h.glt, h.ne, h.len⟩
theorem Hb.St.set {m' : Nat} {f' : Int → Value} {now' : Int → List Int} (h : Hb.St w0 B g wr out f now m k vs cs) (hM : MapV w' g m' f') (hg : wr.grownBy w' (some g)) (hf : ∀ x, SlI .u64 wr (f' x) (now' x) ∧ FarV (Hb.T g out) (f' x) (now' x)) : Hb.St w0 B g w' out f' now' m' k vs cs := by
  have kk := Keeps.of_grown hg
  have hs : ∀ (v : Value) (xs : List Int), FarV (Hb.T g out) v xs → FarV (fun k => some k = some g) v xs := fun v xs h => h.mono (fun b hb => .inl (by injection hb))
  exact ⟨hM, own_keeps h.row kk (fun j hj e => h.ne (by rw [hj, e])), fun x => ⟨(hf x).1.far kk (hs _ _ (hf x).2), (hf x).2⟩, fun i u c h1 h2 => ⟨(h.cks i u c h1 h2).1.far kk (hs _ _ (h.cks i u c h1 h2).2), (h.cks i u c h1 h2).2⟩, h.below.trans (below_of_grown hg h.base h.glt), Nat.le_trans h.base hg.size, h.glt, h.ne, h.len⟩
theorem Hb.St.push {out' u : Value} {c : List Int} (h : Hb.St w0 B g wr out f now m k vs cs) (hr : w'.ownsRow B 46 1 out' (k + 1) (vs ++ [u])) (hg : wr.grownBy w' out.ownBlock) (hv : out'.ownBlock = out.ownBlock ∨ out'.ownBlock = some (wr.heap.size + 1)) (hb : Below B wr w')
    (hu : SlI .u64 wr u c) (hfu : FarV (Hb.T g out) u c) : Hb.St w0 B g w' out' f now m (k + 1) (vs ++ [u]) (cs ++ [c]) := by
  have kk := Keeps.of_grown hg
  have hs : ∀ (v : Value) (xs : List Int), FarV (Hb.T g out) v xs → FarV (fun k => some k = out.ownBlock) v xs := fun v xs h => h.mono (fun b hb => .inr hb.symm)
  have ht : ∀ b, Hb.T g out' b → Hb.T g out b ∨ wr.heap.size ≤ b := fun b hb => by
    rcases hb with hb | hb
    · exact .inl (.inl hb)
    · rcases hv with e | e
      · exact .inl (.inr (by rw [← e]; exact hb))
      · rw [e] at hb; injection hb with hb; exact .inr (by omega)
  have hlv : vs.length = k := by have := h.row.1; omega
  refine ⟨h.map.keep (hg.block g h.map.lt (fun e => h.ne e.symm)), hr, fun x => ⟨(h.far x).1.far kk (hs _ _ (h.far x).2), (h.far x).2.step (h.far x).1 ht⟩, fun i u' c' h1 h2 => ?_, h.below.trans hb, Nat.le_trans h.base hg.size, h.glt, ?_, by rw [List.length_append, h.len]; rfl⟩
  · rcases Nat.lt_or_ge i k with hi | hi
    · rw [List.getElem?_append_left (by omega)] at h1
      rw [List.getElem?_append_left (by rw [h.len]; exact hi)] at h2
      have := h.cks i u' c' h1 h2
      exact ⟨this.1.far kk (hs _ _ this.2), this.2.step this.1 ht⟩
    · rw [List.getElem?_append_right (by omega)] at h1
      rw [List.getElem?_append_right (by rw [h.len]; exact hi)] at h2
      rw [hlv] at h1
      rw [h.len] at h2
      obtain ⟨j, hj⟩ : ∃ j, j = i - k := ⟨_, rfl⟩
      rw [← hj] at h1 h2
      rcases j with _ | j
      · simp only [List.getElem?_cons_zero, Option.some.injEq] at h1 h2
        subst h1 h2
        exact ⟨hu.far kk (hs _ _ hfu), hfu.step hu ht⟩
      · simp at h1
  · rcases hv with e | e
    · rw [e]; exact h.ne
    · rw [e]
      intro e2
      injection e2 with e2
      have := h.map.lt
      omega
theorem Hb.far_upd {T : Nat → Prop} {a : Int} {u : Value} {c : List Int} (h : ∀ x, SlI .u64 wr (f x) (now x) ∧ FarV T (f x) (now x)) (hu : SlI .u64 wr u c) (hf : FarV T u c) : ∀ x, SlI .u64 wr (if x = a then u else f x) (Hb.upd now a c x) ∧ FarV T (if x = a then u else f x) (Hb.upd now a c x) := fun x => by
  unfold Hb.upd
  by_cases hx : x = a
  · rw [if_pos hx, if_pos hx]; exact ⟨hu, hf⟩
  · rw [if_neg hx, if_neg hx]; exact h x
end
theorem Hb.St.start (w : World) : Hb.St w w.heap.size w.heap.size (w.alloc (.map #[] 0)) (.slice none 0 0) (fun _ => .slice none 0 0) Hb.zero 0 0 [] [] := by
  have hn : ∀ w : World, SlI .u64 w (.slice none 0 0) [] := fun w => ⟨⟨none, 0, rfl, Nat.le_refl _, Nat.zero_le _, rfl, 0, 0, fun h => absurd rfl h, fun j u hu => by simp [ints] at hu⟩, fun x hx => by cases hx⟩
  exact ⟨MapV.made w, World.ownsRow_nil _ _ _ _, fun x => ⟨hn _, FarV.nil _ _⟩, fun i u c h => by simp at h, below_alloc (Below.refl _ _) _, by simp, Nat.le_refl _, by simp [Value.ownBlock], rfl⟩
theorem sl_nil64 (w : World) : SlI .u64 w (.slice none 0 0) [] := ⟨⟨none, 0, rfl, Nat.le_refl _, Nat.zero_le _, rfl, 0, 0, fun h => absurd rfl h, fun j u hu => by simp [ints] at hu⟩, fun x hx => by cases hx⟩

def FJ (B : Nat) (xs : List Int) : Fact (fun w w' => Below w.heap.size w w') := ⟨fun v w => SlI .u64 w v xs ∧ VNew B v, fun _ _ _ h k => ⟨h.1.below k, h.2⟩⟩


set_option maxHeartbeats 4000000 in
theorem clocks_any (v : Value) (l : List Hb.Ev) (w : World) (h : SlV w 6 v l.length (evcs l)) (hl : l.length ≤ 2932031007402) :
    Calls Try.prog 13 #[v] w fun e w' => ∃ u vs, e = .returned u ∧ (w'.ownsRow w.heap.size 46 1 u l.length vs ∧ CkR w' vs (Hb.clks Hb.zero l)) ∧ Below w.heap.size w w' := by
  obtain ⟨A, c, rfl, hle, hm, hlen, hc⟩ := id h
  unfold maxLen at hm
  clear hc hlen
  have hmm := @run_makeMap Try.prog
  go_enter Try.func13, Try.ntmps13
  go_wp2_with fail
  go_loopw [4, 11] (fun out i wr => ∃ (k m : Nat) (f : Int → Value) (vs : List Value), k ≤ l.length ∧ i = .int .i64 (k : Int) ∧ m ≤ 2 * k ∧ Hb.St w w.heap.size w.heap.size wr out f (Hb.after Hb.zero (l.take k)) m k vs (Hb.clks Hb.zero (l.take k))) (fun _ i _ => l.length - (intOf i).toNat)
  case atStart => exact ⟨0, 0, _, [], Nat.zero_le _, rfl, Nat.zero_le _, Hb.St.start w⟩
  case round =>
    obtain ⟨k, m, f, vs, hk, rfl, hm2, hS⟩ := hrel
    by_cases hlt : k < l.length
    · have ho : l[k]? = some l[k] := List.getElem?_eq_getElem hlt
      obtain ⟨A', c', e', -, -, -, hcc⟩ := h.below hS.below
      injection e' with e1 e2 e3
      subst e1
      obtain ⟨b, off, rfl, hbl, c0, c1, c2, c3, c4, c5⟩ := ev_cells hcc ho
      have e1 := Hb.clks_snoc l k hlt Hb.zero
      have e2 := Hb.after_snoc l k hlt Hb.zero
      have hle' := Hb.after_length (l.take k) Hb.zero (fun x => by simp [Hb.zero])
      obtain ⟨now, hnow⟩ : ∃ now, now = Hb.after Hb.zero (l.take k) := ⟨_, rfl⟩
      obtain ⟨cs, hcs⟩ : ∃ cs, cs = Hb.clks Hb.zero (l.take k) := ⟨_, rfl⟩
      obtain ⟨ev, hev⟩ : ∃ ev, ev = l[k] := ⟨_, rfl⟩
      rw [← hnow] at hS e1 e2 hle'
      rw [← hcs] at hS e1
      rw [← hev] at c0 c1 c2 c3 c4 c5 e1 e2
      have hcl := Hb.clk_length now ev hle'
      have HE := Lib.hid (And.intro e1 e2)
      have HW := Lib.hid hS.map.lt
      clear e1 e2 e3 hnow hcs hev ho hcc
      obtain ⟨kd, ac, ot, ce, wb, lb⟩ := ev
      dsimp only at c0 c1 c2 c3 c4 c5
      have hb1 : Below wr.heap.size wr (wr.alloc (.cells #[.int .i64 kd, .int .i64 ac, .int .i64 ot, .int .i64 ce, .bool wb, .int .i64 lb] 42)) := below_alloc (Below.refl _ _) _
      have S1 := hS.step hb1
      have hB1 : Blk (wr.alloc (.cells #[.int .i64 kd, .int .i64 ac, .int .i64 ot, .int .i64 ce, .bool wb, .int .i64 lb] 42)) wr.heap.size 42 [.int .i64 kd, .int .i64 ac, .int .i64 ot, .int .i64 ce, .bool wb, .int .i64 lb] := Blk.new _ _ _
      have hm63 : m < maxLen := by unfold maxLen; omega
      have HL := Lib.hid (And.intro hcl (And.intro hle' hm2))
      clear hS hb1 hcl hle' hm2
      rcases hk : decide (Hb.known ac) with _ | _
      · have hkn : ¬ Hb.known ac := of_decide_eq_false hk
        have hc0 : Hb.clk now ⟨kd, ac, ot, ce, wb, lb⟩ = [] := Hb.clk_nil hkn
        have hn0 : Hb.step now ⟨kd, ac, ot, ce, wb, lb⟩ = now := by unfold Hb.step; rw [if_neg hkn]
        have HC := Lib.hid (And.intro hc0 hn0)
        clear hc0 hn0 hkn hB1
        go_wp2_with fail
        refine (known_any _ _ hk _).mono ?_
        rintro _ _ ⟨rfl, rfl⟩
        have n63 : k + 1 ≤ maxLen := by unfold maxLen; omega
        have n47 : (k + 1) * 24 ≤ 140737488355328 := by omega
        have hrow := S1.row
        have hbase := S1.base
        go_wp2_with (first | (at_builtin; refine wp_push_at _ _ _ _ (by first | rfl | simp) _ _ _ _ _ _ Try.underlying44 info_row rfl (by decide) hrow [(.slice none 0 0)] rfl (by simp [Value.oneCell']) n63 n47 hbase rfl rfl rfl rfl ?_; intro v7 w7 hr7 hg7 hv7 hb7) | fail)
        have HP := Lib.hid (S1.push hr7 hg7 hv7 hb7 (sl_nil64 _) (FarV.nil _ _))
        clear hr7 hg7 hv7 hb7
        go_roundw
        case rel => exact ⟨k + 1, m, f, _, by omega, by go_num, by have := HL.out.2.2; omega, by rw [HE.out.1, HE.out.2, HC.out.1, HC.out.2]; exact HP.out⟩
        case measure => simp [intOf]; omega
      · have hkn : Hb.known ac := of_decide_eq_true hk
        have hwa : (Lit.int .i64 ac).wf = true := wf_i64' (by unfold Hb.known at hkn; omega)
        have hlook1 := S1.map.look hwa
        rcases ho : decide (Hb.known ot) with _ | _
        · have hon : ¬ Hb.known ot := of_decide_eq_false ho
          have hc0 : Hb.clk now ⟨kd, ac, ot, ce, wb, lb⟩ = Vec.tick (now ac) ac := by unfold Hb.clk; rw [if_pos hkn, if_neg (fun h => hon h.1)]
          have hn0 : Hb.step now ⟨kd, ac, ot, ce, wb, lb⟩ = Hb.upd now ac (Vec.tick (now ac) ac) := by unfold Hb.step Hb.one; rw [if_pos hkn, if_neg (fun h => hon h.1), if_pos hkn, hc0]
          have HC := Lib.hid (And.intro hc0 hn0)
          have hlc : (Vec.tick (now ac) ac).length ≤ 65536 := by rw [← hc0]; exact HL.out.1
          clear hc0 hn0 hkn hon
          go_wp2_with fail
          refine (known_any _ _ hk _).mono ?_
          rintro _ _ ⟨rfl, rfl⟩
          go_wp2_with fail
          refine (tick_new (f ac) (now ac) ac _ (S1.far ac).1 (by have := HL.out.2.1 ac; omega)).mono ?_
          rintro _ w2 ⟨u, rfl, ⟨hu, hvn⟩, hb2⟩
          have S2 := S1.step hb2
          have hB2 := hB1.below hb2
          have hfu : FarV (Hb.T w.heap.size u4) u (Vec.tick (now ac) ac) := FarV.new hvn S1.tlt
          have d0 : w2.cell? ⟨wr.heap.size, 0, none⟩ = some (.int .i64 kd) := by rw [hB2.cell]; rfl
          have d1 : w2.cell? ⟨wr.heap.size, 1, none⟩ = some (.int .i64 ac) := by rw [hB2.cell]; rfl
          have d2 : w2.cell? ⟨wr.heap.size, 2, none⟩ = some (.int .i64 ot) := by rw [hB2.cell]; rfl
          clear hvn
          go_wp2_with fail
          refine (known_any _ _ ho _).mono ?_
          rintro _ w2 ⟨rfl, rfl⟩
          have hMx := S2.map
          go_wp2_with (first | (at_mapUpdate; refine wp_mapset rfl _ rfl _ _ _ rfl w.heap.size m _ rfl hMx hm63 _ _ rfl rfl hwa ?_; intro w3 hM3 hg3; have S3 := S2.set hM3 hg3 (Hb.far_upd S2.far hu hfu); have h3 := hu.far (Keeps.of_grown hg3) (FarV.mono hfu (fun b hb => .inl (by injection hb))); have hB3 := hB2.grown hg3 (by intro e; injection e with e; have := HW.out; omega); have x0 : w3.cell? ⟨wr.heap.size, 0, none⟩ = some (.int .i64 kd) := (by rw [hB3.cell]; rfl); have x1 : w3.cell? ⟨wr.heap.size, 1, none⟩ = some (.int .i64 ac) := (by rw [hB3.cell]; rfl); have x2 : w3.cell? ⟨wr.heap.size, 2, none⟩ = some (.int .i64 ot) := (by rw [hB3.cell]; rfl); clear hM3 hg3) | fail)
          refine (known_any _ _ ho _).mono ?_
          rintro _ w3 ⟨rfl, rfl⟩
          go_wp2_with fail
          refine (clone_any u (Vec.tick (now ac) ac) _ h3 (by omega)).mono ?_
          rintro _ w5 ⟨uc, rfl, hown5, hb5⟩
          have S5 := S3.step hb5
          have huc := SlI.of_own hown5 h3.2
          have hfc : FarV (Hb.T w.heap.size u4) uc (Vec.tick (now ac) ac) := FarV.new (vnew_own hown5) S3.tlt
          obtain ⟨Ac, cc, rfl, -⟩ := own_slice hown5
          have n63 : k + 1 ≤ maxLen := by unfold maxLen; omega
          have n47 : (k + 1) * 24 ≤ 140737488355328 := by omega
          have hrow := S5.row
          have hbase := S5.base
          go_wp2_with (first | (at_builtin; refine wp_push_at _ _ _ _ (by first | rfl | simp) _ _ _ _ _ _ Try.underlying44 info_row rfl (by decide) hrow [(.slice Ac (Vec.tick (now ac) ac).length cc)] rfl (by simp [Value.oneCell']) n63 n47 hbase rfl rfl rfl rfl ?_; intro v7 w7 hr7 hg7 hv7 hb7) | fail)
          have HP := Lib.hid (S5.push hr7 hg7 hv7 hb7 huc hfc)
          clear hr7 hg7 hv7 hb7
          go_roundw
          case rel => exact ⟨k + 1, m + 1, _, _, by omega, by go_num, by have := HL.out.2.2; omega, by rw [HE.out.1, HE.out.2, HC.out.1, HC.out.2]; exact HP.out⟩
          case measure => simp [intOf]; omega
        · have hon : Hb.known ot := of_decide_eq_true ho
          have hwo : (Lit.int .i64 ot).wf = true := wf_i64' (by unfold Hb.known at hon; omega)
          have hlt1 : (Vec.tick (now ac) ac).length ≤ 65536 := by
            have := Hb.clk_length now ⟨0, ac, ot, ce, wb, lb⟩ HL.out.2.1
            rwa [show Hb.clk now ⟨0, ac, ot, ce, wb, lb⟩ = Vec.tick (now ac) ac from by unfold Hb.clk; rw [if_pos hkn, if_neg (fun h => by have := h.2; simp at this)]] at this
          rcases h4 : (kd == 4) with _ | _
          · have h4n : kd ≠ 4 := by simpa using h4
            have hc0 : Hb.clk now ⟨kd, ac, ot, ce, wb, lb⟩ = Vec.tick (now ac) ac := by unfold Hb.clk; rw [if_pos hkn, if_neg (fun h => h4n h.2)]
            rcases h2 : (kd == 2) with _ | _
            · have h2n : kd ≠ 2 := by simpa using h2
              have hn0 : Hb.step now ⟨kd, ac, ot, ce, wb, lb⟩ = Hb.upd now ac (Vec.tick (now ac) ac) := by unfold Hb.step Hb.one; rw [if_pos hkn, if_neg (fun h => h2n h.2), if_pos hkn, hc0]
              have HC := Lib.hid (And.intro hc0 hn0)
              clear hc0 hn0 hkn hon h4n h2n
              go_wp2_with fail
              refine (known_any _ _ hk _).mono ?_
              rintro _ _ ⟨rfl, rfl⟩
              go_wp2_with fail
              refine (tick_new (f ac) (now ac) ac _ (S1.far ac).1 (by have := HL.out.2.1 ac; omega)).mono ?_
              rintro _ w2 ⟨u, rfl, ⟨hu, hvn⟩, hb2⟩
              have S2 := S1.step hb2
              have hB2 := hB1.below hb2
              have hfu : FarV (Hb.T w.heap.size u4) u (Vec.tick (now ac) ac) := FarV.new hvn S1.tlt
              have d0 : w2.cell? ⟨wr.heap.size, 0, none⟩ = some (.int .i64 kd) := by rw [hB2.cell]; rfl
              have d1 : w2.cell? ⟨wr.heap.size, 1, none⟩ = some (.int .i64 ac) := by rw [hB2.cell]; rfl
              have d2 : w2.cell? ⟨wr.heap.size, 2, none⟩ = some (.int .i64 ot) := by rw [hB2.cell]; rfl
              clear hvn
              go_wp2_with fail
              refine (known_any _ _ ho _).mono ?_
              rintro _ w2 ⟨rfl, rfl⟩
              have hMx := S2.map
              go_wp2_with (first | (at_mapUpdate; refine wp_mapset rfl _ rfl _ _ _ rfl w.heap.size m _ rfl hMx hm63 _ _ rfl rfl hwa ?_; intro w3 hM3 hg3; have S3 := S2.set hM3 hg3 (Hb.far_upd S2.far hu hfu); have h3 := hu.far (Keeps.of_grown hg3) (FarV.mono hfu (fun b hb => .inl (by injection hb))); have hB3 := hB2.grown hg3 (by intro e; injection e with e; have := HW.out; omega); have x0 : w3.cell? ⟨wr.heap.size, 0, none⟩ = some (.int .i64 kd) := (by rw [hB3.cell]; rfl); have x1 : w3.cell? ⟨wr.heap.size, 1, none⟩ = some (.int .i64 ac) := (by rw [hB3.cell]; rfl); have x2 : w3.cell? ⟨wr.heap.size, 2, none⟩ = some (.int .i64 ot) := (by rw [hB3.cell]; rfl); clear hM3 hg3) | fail)
              refine (known_any _ _ ho _).mono ?_
              rintro _ w3 ⟨rfl, rfl⟩
              go_wp2_with fail
              refine (clone_any u (Vec.tick (now ac) ac) _ h3 (by omega)).mono ?_
              rintro _ w5 ⟨uc, rfl, hown5, hb5⟩
              have S5 := S3.step hb5
              have huc := SlI.of_own hown5 h3.2
              have hfc : FarV (Hb.T w.heap.size u4) uc (Vec.tick (now ac) ac) := FarV.new (vnew_own hown5) S3.tlt
              obtain ⟨Ac, cc, rfl, -⟩ := own_slice hown5
              have n63 : k + 1 ≤ maxLen := by unfold maxLen; omega
              have n47 : (k + 1) * 24 ≤ 140737488355328 := by omega
              have hrow := S5.row
              have hbase := S5.base
              go_wp2_with (first | (at_builtin; refine wp_push_at _ _ _ _ (by first | rfl | simp) _ _ _ _ _ _ Try.underlying44 info_row rfl (by decide) hrow [(.slice Ac (Vec.tick (now ac) ac).length cc)] rfl (by simp [Value.oneCell']) n63 n47 hbase rfl rfl rfl rfl ?_; intro v7 w7 hr7 hg7 hv7 hb7) | fail)
              have HP := Lib.hid (S5.push hr7 hg7 hv7 hb7 huc hfc)
              clear hr7 hg7 hv7 hb7
              go_roundw
              case rel => exact ⟨k + 1, m + 1, _, _, by omega, by go_num, by have := HL.out.2.2; omega, by rw [HE.out.1, HE.out.2, HC.out.1, HC.out.2]; exact HP.out⟩
              case measure => simp [intOf]; omega
            · obtain rfl : kd = 2 := by simpa using h2
              have hn0 : Hb.step now ⟨2, ac, ot, ce, wb, lb⟩ = Hb.upd (Hb.upd now ac (Vec.tick (now ac) ac)) ot (Vec.join (Hb.upd now ac (Vec.tick (now ac) ac) ot) (Vec.tick (now ac) ac)) := by
                have e1 : Hb.one now ⟨2, ac, ot, ce, wb, lb⟩ = Hb.upd now ac (Vec.tick (now ac) ac) := by unfold Hb.one; rw [if_pos hkn, hc0]
                unfold Hb.step
                rw [if_pos hkn, if_pos ⟨hon, rfl⟩, e1, hc0]
              have HC := Lib.hid (And.intro hc0 hn0)
              clear hc0 hn0 hkn hon h4n h2 h4
              go_wp2_with fail
              refine (known_any _ _ hk _).mono ?_
              rintro _ _ ⟨rfl, rfl⟩
              go_wp2_with fail
              refine (tick_new (f ac) (now ac) ac _ (S1.far ac).1 (by have := HL.out.2.1 ac; omega)).mono ?_
              rintro _ w2 ⟨u, rfl, ⟨hu, hvn⟩, hb2⟩
              have S2 := S1.step hb2
              have hB2 := hB1.below hb2
              have hfu : FarV (Hb.T w.heap.size u4) u (Vec.tick (now ac) ac) := FarV.new hvn S1.tlt
              have d0 : w2.cell? ⟨wr.heap.size, 0, none⟩ = some (.int .i64 2) := by rw [hB2.cell]; rfl
              have d1 : w2.cell? ⟨wr.heap.size, 1, none⟩ = some (.int .i64 ac) := by rw [hB2.cell]; rfl
              have d2 : w2.cell? ⟨wr.heap.size, 2, none⟩ = some (.int .i64 ot) := by rw [hB2.cell]; rfl
              clear hvn
              go_wp2_with fail
              refine (known_any _ _ ho _).mono ?_
              rintro _ w2 ⟨rfl, rfl⟩
              have hMx := S2.map
              go_wp2_with (first | (at_mapUpdate; refine wp_mapset rfl _ rfl _ _ _ rfl w.heap.size m _ rfl hMx hm63 _ _ rfl rfl hwa ?_; intro w3 hM3 hg3; have S3 := S2.set hM3 hg3 (Hb.far_upd S2.far hu hfu); have h3 := hu.far (Keeps.of_grown hg3) (FarV.mono hfu (fun b hb => .inl (by injection hb))); have hB3 := hB2.grown hg3 (by intro e; injection e with e; have := HW.out; omega); have x0 : w3.cell? ⟨wr.heap.size, 0, none⟩ = some (.int .i64 2) := (by rw [hB3.cell]; rfl); have x1 : w3.cell? ⟨wr.heap.size, 1, none⟩ = some (.int .i64 ac) := (by rw [hB3.cell]; rfl); have x2 : w3.cell? ⟨wr.heap.size, 2, none⟩ = some (.int .i64 ot) := (by rw [hB3.cell]; rfl); clear hM3 hg3) | fail)
              refine (known_any _ _ ho _).mono ?_
              rintro _ w3 ⟨rfl, rfl⟩
              obtain ⟨f3, S3⟩ : ∃ f3, Hb.St w w.heap.size w.heap.size w3 u4 f3 (Hb.upd now ac (Vec.tick (now ac) ac)) (m + 1) k vs cs := ⟨_, S3⟩
              have hl3 : (Hb.upd now ac (Vec.tick (now ac) ac) ot).length ≤ 65536 := by
                unfold Hb.upd
                split
                · exact hlt1
                · exact HL.out.2.1 ot
              obtain ⟨n3, hn3⟩ : ∃ n3, n3 = Hb.upd now ac (Vec.tick (now ac) ac) := ⟨_, rfl⟩
              rw [← hn3] at S3 hl3
              have HN := Lib.hid hn3
              clear hn3
              have keepS : ∀ w', Below w3.heap.size w3 w' → (Below w3.heap.size w3 w' ∧ w'.cell? ⟨wr.heap.size, 2, none⟩ = some (.int .i64 ot) ∧ (Instr.lookup 67 (.map (some w.heap.size)) (.int .i64 ot) false).run Try.prog w' = .ok (f3 ot) w') := fun w' hb =>
                ⟨hb, by rw [(hB3.below hb).cell]; rfl, (S3.map.next hb).look hwo⟩
              have hS0 := keepS _ (below_drew (Below.refl _ _))
              go_wp2_with fail
              refine wp_walk_last (by kernel_rfl) (by kernel_rfl) (fun w w' => Below w.heap.size w w') (fun w' => (Below w3.heap.size w3 w' ∧ w'.cell? ⟨wr.heap.size, 2, none⟩ = some (.int .i64 ot) ∧ (Instr.lookup 67 (.map (some w.heap.size)) (.int .i64 ot) false).run Try.prog w' = .ok (f3 ot) w')) hS0 ?_
              simp only [List.length_cons, List.length_nil, Nat.reduceAdd, Nat.reduceSub, List.take_succ_cons, List.take_zero, List.drop_succ_cons, List.drop_zero]
              repeat (first | (refine settle_skip (fun _ => by rfl) ?_; (simp only [Act.put, List.setIfInBounds_toArray, List.set_cons_zero, List.set_cons_succ])) | (refine' settle_run (fun _ _ => Below.refl _ _) (fun _ => by rfl) ?_ ?_; rotate_left; (focus (intro ρ w hS hF; (try dsimp only at hS); go_split_ands; go_simp; try with_reducible rfl)); (simp only [Act.put, List.setIfInBounds_toArray, List.set_cons_zero, List.set_cons_succ])))
              (refine settle_known (FJ w3.heap.size (Vec.join (n3 ot) (Vec.tick (now ac) ac))) (by rfl) (fun _ => by rfl)  ?_ ?_; (focus (intro ρ w hS hF K hK; (simp only [Act.put, List.setIfInBounds_toArray, List.set_cons_zero, List.set_cons_succ] at hK); go_simp; (refine (join_new (f3 ot) u _ _ _ ((S3.far ot).1.below hS.1) (h3.below hS.1) (by omega) (by omega)).mono ?_; rintro e w6 ⟨v, rfl, ⟨hF', hn'⟩, hb'⟩; exact hK _ _ ⟨hF', hn'.mono hS.1.size⟩ (keepS _ (below_next hb' hS.1)) hb'))); (simp only [Act.put, List.setIfInBounds_toArray, List.set_cons_zero, List.set_cons_succ]))
              repeat (first | (refine settle_skip (fun _ => by rfl) ?_; (simp only [Act.put, List.setIfInBounds_toArray, List.set_cons_zero, List.set_cons_succ])) | (refine' settle_run (fun _ _ => Below.refl _ _) (fun _ => by rfl) ?_ ?_; rotate_left; (focus (intro ρ w hS hF; (try dsimp only at hS); go_split_ands; go_simp; try with_reducible rfl)); (simp only [Act.put, List.setIfInBounds_toArray, List.set_cons_zero, List.set_cons_succ])))
              refine settle_nil ?_
              intro ρ w5 hS hF
              have hU : SlI .u64 w5 (ρ 63) (Vec.join (n3 ot) (Vec.tick (now ac) ac)) ∧ VNew w3.heap.size (ρ 63) := hF 63 (FJ w3.heap.size (Vec.join (n3 ot) (Vec.tick (now ac) ac))) (by repeat (first | exact List.mem_cons_self | apply List.mem_cons_of_mem))
              have hb5 := hS.1
              clear hF hS hS0 keepS
              dsimp only
              generalize ρ 63 = uj at hU ⊢
              have hfj : FarV (Hb.T w.heap.size u4) uj (Vec.join (n3 ot) (Vec.tick (now ac) ac)) := FarV.new hU.2 S3.tlt
              have S5 := S3.step hb5
              have h5 := h3.below hb5
              refine wp_mapset rfl _ rfl _ _ _ rfl w.heap.size (m + 1) _ rfl S5.map (by unfold maxLen; have := HL.out.2.2; omega) _ _ rfl rfl hwo ?_
              intro w6 hM6 hg6
              have S6 := S5.set hM6 hg6 (Hb.far_upd S5.far hU.1 hfj)
              have h6 := h5.far (Keeps.of_grown hg6) (FarV.mono hfu (fun b hb => .inl (by injection hb)))
              clear hM6 hg6 hU
              go_wp2_with fail
              refine (clone_any u (Vec.tick (now ac) ac) _ h6 (by omega)).mono ?_
              rintro _ w5 ⟨uc, rfl, hown5, hb5⟩
              have S5 := S6.step hb5
              have huc := SlI.of_own hown5 h6.2
              have hfc : FarV (Hb.T w.heap.size u4) uc (Vec.tick (now ac) ac) := FarV.new (vnew_own hown5) S6.tlt
              obtain ⟨Ac, cc, rfl, -⟩ := own_slice hown5
              have n63 : k + 1 ≤ maxLen := by unfold maxLen; omega
              have n47 : (k + 1) * 24 ≤ 140737488355328 := by omega
              have hrow := S5.row
              have hbase := S5.base
              go_wp2_with (first | (at_builtin; refine wp_push_at _ _ _ _ (by first | rfl | simp) _ _ _ _ _ _ Try.underlying44 info_row rfl (by decide) hrow [(.slice Ac (Vec.tick (now ac) ac).length cc)] rfl (by simp [Value.oneCell']) n63 n47 hbase rfl rfl rfl rfl ?_; intro v7 w7 hr7 hg7 hv7 hb7) | fail)
              have HP := Lib.hid (S5.push hr7 hg7 hv7 hb7 huc hfc)
              clear hr7 hg7 hv7 hb7
              go_roundw
              case rel => exact ⟨k + 1, m + 1 + 1, _, _, by omega, by go_num, by have := HL.out.2.2; omega, by rw [HE.out.1, HE.out.2, HC.out.1, HC.out.2, ← HN.out]; exact HP.out⟩
              case measure => simp [intOf]; omega
          · obtain rfl : kd = 4 := by simpa using h4
            have hc0 : Hb.clk now ⟨4, ac, ot, ce, wb, lb⟩ = Vec.join (Vec.tick (now ac) ac) (now ot) := by unfold Hb.clk; rw [if_pos hkn, if_pos ⟨hon, rfl⟩]
            have hn0 : Hb.step now ⟨4, ac, ot, ce, wb, lb⟩ = Hb.upd now ac (Vec.join (Vec.tick (now ac) ac) (now ot)) := by unfold Hb.step Hb.one; rw [if_pos hkn, if_neg (fun h => by have := h.2; simp at this), if_pos hkn, hc0]
            have HC := Lib.hid (And.intro hc0 hn0)
            have hlj : (Vec.join (Vec.tick (now ac) ac) (now ot)).length ≤ 65536 := by rw [← hc0]; exact HL.out.1
            clear hc0 hn0 hkn hon h4
            go_wp2_with fail
            refine (known_any _ _ hk _).mono ?_
            rintro _ _ ⟨rfl, rfl⟩
            go_wp2_with fail
            refine (tick_new (f ac) (now ac) ac _ (S1.far ac).1 (by have := HL.out.2.1 ac; omega)).mono ?_
            rintro _ w2 ⟨u, rfl, ⟨hu, hvn⟩, hb2⟩
            have S2 := S1.step hb2
            have hB2 := hB1.below hb2
            have hfu : FarV (Hb.T w.heap.size u4) u (Vec.tick (now ac) ac) := FarV.new hvn S1.tlt
            have d0 : w2.cell? ⟨wr.heap.size, 0, none⟩ = some (.int .i64 4) := by rw [hB2.cell]; rfl
            have d1 : w2.cell? ⟨wr.heap.size, 1, none⟩ = some (.int .i64 ac) := by rw [hB2.cell]; rfl
            have d2 : w2.cell? ⟨wr.heap.size, 2, none⟩ = some (.int .i64 ot) := by rw [hB2.cell]; rfl
            clear hvn
            go_wp2_with fail
            refine (known_any _ _ ho _).mono ?_
            rintro _ w2 ⟨rfl, rfl⟩
            have hlook2 := S2.map.look hwo
            go_wp2_with fail
            refine (join_new u (f ot) _ _ _ hu (S2.far ot).1 (by omega) (by have := HL.out.2.1 ot; omega)).mono ?_
            rintro _ w4 ⟨uj, rfl, ⟨huj, hvj⟩, hb4⟩
            have S4 := S2.step hb4
            have hB4 := hB2.below hb4
            have hfj : FarV (Hb.T w.heap.size u4) uj (Vec.join (Vec.tick (now ac) ac) (now ot)) := FarV.new hvj S2.tlt
            have d0' : w4.cell? ⟨wr.heap.size, 0, none⟩ = some (.int .i64 4) := by rw [hB4.cell]; rfl
            have d1' : w4.cell? ⟨wr.heap.size, 1, none⟩ = some (.int .i64 ac) := by rw [hB4.cell]; rfl
            have d2' : w4.cell? ⟨wr.heap.size, 2, none⟩ = some (.int .i64 ot) := by rw [hB4.cell]; rfl
            clear hvj
            have hMx := S4.map
            go_wp2_with (first | (at_mapUpdate; refine wp_mapset rfl _ rfl _ _ _ rfl w.heap.size m _ rfl hMx hm63 _ _ rfl rfl hwa ?_; intro w3 hM3 hg3; have S3 := S4.set hM3 hg3 (Hb.far_upd S4.far huj hfj); have h3 := huj.far (Keeps.of_grown hg3) (FarV.mono hfj (fun b hb => .inl (by injection hb))); have hB3 := hB4.grown hg3 (by intro e; injection e with e; have := HW.out; omega); have x0 : w3.cell? ⟨wr.heap.size, 0, none⟩ = some (.int .i64 4) := (by rw [hB3.cell]; rfl); have x1 : w3.cell? ⟨wr.heap.size, 1, none⟩ = some (.int .i64 ac) := (by rw [hB3.cell]; rfl); have x2 : w3.cell? ⟨wr.heap.size, 2, none⟩ = some (.int .i64 ot) := (by rw [hB3.cell]; rfl); clear hM3 hg3) | fail)
            refine (known_any _ _ ho _).mono ?_
            rintro _ w3 ⟨rfl, rfl⟩
            go_wp2_with fail
            refine (clone_any uj (Vec.join (Vec.tick (now ac) ac) (now ot)) _ h3 (by omega)).mono ?_
            rintro _ w5 ⟨uc, rfl, hown5, hb5⟩
            have S5 := S3.step hb5
            have huc := SlI.of_own hown5 h3.2
            have hfc : FarV (Hb.T w.heap.size u4) uc (Vec.join (Vec.tick (now ac) ac) (now ot)) := FarV.new (vnew_own hown5) S3.tlt
            obtain ⟨Ac, cc, rfl, -⟩ := own_slice hown5
            have n63 : k + 1 ≤ maxLen := by unfold maxLen; omega
            have n47 : (k + 1) * 24 ≤ 140737488355328 := by omega
            have hrow := S5.row
            have hbase := S5.base
            go_wp2_with (first | (at_builtin; refine wp_push_at _ _ _ _ (by first | rfl | simp) _ _ _ _ _ _ Try.underlying44 info_row rfl (by decide) hrow [(.slice Ac (Vec.join (Vec.tick (now ac) ac) (now ot)).length cc)] rfl (by simp [Value.oneCell']) n63 n47 hbase rfl rfl rfl rfl ?_; intro v7 w7 hr7 hg7 hv7 hb7) | fail)
            have HP := Lib.hid (S5.push hr7 hg7 hv7 hb7 huc hfc)
            clear hr7 hg7 hv7 hb7
            go_roundw
            case rel => exact ⟨k + 1, m + 1, _, _, by omega, by go_num, by have := HL.out.2.2; omega, by rw [HE.out.1, HE.out.2, HC.out.1, HC.out.2]; exact HP.out⟩
            case measure => simp [intOf]; omega
    · obtain rfl : k = l.length := by omega
      rw [List.take_length] at hS
      have hr := hS.row
      obtain ⟨Ao, co, rfl, -, -⟩ := own_slice hr
      have HS := Lib.hid hS
      clear hS
      go_wp2_with fail
      go_ret
      exact ⟨_, vs, rfl, ⟨hr, fun i u c h1 h2 => (HS.out.cks i u c h1 h2).1⟩, HS.out.below⟩
end Go.Proofs.Ytoddhfabeiimkaa


namespace Go.Proofs.Ytoddhfabeiimkaa
set_option linter.unusedVariables false
set_option linter.unusedSimpArgs false
set_option maxRecDepth 100000
open Go.RowKit Go.Maps

def Hb.actAt (l : List Hb.Ev) (i : Int) : Int := match l[i.toNat]? with | some e => e.act | none => 0
def Hb.cat (l : List Hb.Ev) (i : Int) : List Int := (Hb.clks Hb.zero l).getD i.toNat []
def Hb.ahead (l : List Hb.Ev) (i j : Int) : Bool := decide (0 ≤ i) && (decide (j < l.length) && (decide (i < j) && (decide (Hb.known (Hb.actAt l i)) && (decide (Hb.known (Hb.actAt l j)) && decide (Vec.hand (Hb.cat l i) (Hb.actAt l i) ≤ Vec.hand (Hb.cat l j) (Hb.actAt l i))))))
theorem Hb.actAt_nat (l : List Hb.Ev) {i : Nat} (h : i < l.length) : Hb.actAt l i = l[i].act := by
  unfold Hb.actAt
  rw [Int.toNat_natCast, List.getElem?_eq_getElem h]
theorem Hb.cat_nat (l : List Hb.Ev) {i : Nat} (h : i < l.length) : Hb.cat l i = Hb.clk (Hb.after Hb.zero (l.take i)) l[i] := by
  unfold Hb.cat
  rw [Int.toNat_natCast, List.getD_eq_getElem?_getD, Hb.clks_get l Hb.zero i h]
  rfl


set_option maxHeartbeats 1000000 in
theorem ahead_any (v : Value) (l : List Hb.Ev) (i j : Int) (r : Bool) (hr : Hb.ahead l i j = r) (w : World) (h : SlV w 6 v l.length (evcs l)) (hl : l.length ≤ 2932031007402) :
    Calls Try.prog 12 #[v, .int .i64 i, .int .i64 j] w fun e w' => e = .returned (.bool r) ∧ Below w.heap.size w w' := by
  obtain ⟨A, c, rfl, hle, hm, hlen, hc⟩ := id h
  unfold maxLen at hm
  clear hlen
  by_cases h0 : i < 0
  · have g0 : decide (i < 0) = true := by simpa using h0
    obtain rfl : r = false := by rw [← hr]; unfold Hb.ahead; rw [show decide (0 ≤ i) = false by simp; omega]; rfl
    clear hr h
    clear hc hm
    go_enter Try.func12, Try.ntmps12
    go_wp2
    go_ret
    exact ⟨rfl, Below.refl _ _⟩
  have p0 : decide (0 ≤ i) = true := by simp; omega
  by_cases h1 : (l.length : Int) ≤ j
  · obtain rfl : r = false := by rw [← hr]; unfold Hb.ahead; rw [show decide (j < (l.length : Int)) = false by simp; omega]; simp
    clear hr h
    clear hc hm
    go_enter Try.func12, Try.ntmps12
    go_wp2
    go_ret
    exact ⟨rfl, Below.refl _ _⟩
  have p1 : decide (j < (l.length : Int)) = true := by simp; omega
  by_cases h2 : j ≤ i
  · obtain rfl : r = false := by rw [← hr]; unfold Hb.ahead; rw [show decide (i < j) = false by simp; omega]; simp
    clear hr h p0 p1
    clear hc hm
    go_enter Try.func12, Try.ntmps12
    go_wp2
    go_ret
    exact ⟨rfl, Below.refl _ _⟩
  have p2 : decide (i < j) = true := by simp; omega
  obtain ⟨i, rfl⟩ := Int.eq_ofNat_of_zero_le (show 0 ≤ i by omega)
  obtain ⟨j, rfl⟩ := Int.eq_ofNat_of_zero_le (show 0 ≤ j by omega)
  have hil : i < l.length := by omega
  have hjl : j < l.length := by omega
  have hij : i < j := by omega
  have hr2 : (decide (Hb.known l[i].act) && (decide (Hb.known l[j].act) && decide (Vec.hand (Hb.cat l i) l[i].act ≤ Vec.hand (Hb.cat l j) l[i].act))) = r := by
    rw [← hr]
    unfold Hb.ahead
    rw [p0, p1, p2, Hb.actAt_nat l hil, Hb.actAt_nat l hjl]
    rfl
  have hmi := List.getElem?_eq_getElem hil
  have hmj := List.getElem?_eq_getElem hjl
  obtain ⟨b, off, rfl, hbl, -, ci1, -⟩ := ev_cells hc hmi
  obtain ⟨b', off', hA, -, -, cj1, -⟩ := ev_cells hc hmj
  injection hA with hA
  injection hA with hb' ho'
  subst hb' ho'
  obtain ⟨ai, hai⟩ : ∃ ai, ai = l[i].act := ⟨_, rfl⟩
  obtain ⟨aj, haj⟩ : ∃ aj, aj = l[j].act := ⟨_, rfl⟩
  rw [← hai] at ci1 hr2
  rw [← haj] at cj1 hr2
  clear hr p0 p1 p2 hmi hmj hai haj h0 h1 h2 hc
  rcases hki : decide (Hb.known ai) with _ | _
  · obtain rfl : r = false := by rw [← hr2, hki]; rfl
    clear hr2 h
    go_enter Try.func12, Try.ntmps12
    go_wp2_with fail
    refine (known_any _ _ hki _).mono ?_
    rintro _ _ ⟨rfl, rfl⟩
    go_wp2
    go_ret
    exact ⟨rfl, Below.refl _ _⟩
  rcases hkj : decide (Hb.known aj) with _ | _
  · obtain rfl : r = false := by rw [← hr2, hki, hkj]; rfl
    clear hr2 h
    go_enter Try.func12, Try.ntmps12
    go_wp2_with fail
    refine (known_any _ _ hki _).mono ?_
    rintro _ _ ⟨rfl, rfl⟩
    go_wp2_with fail
    refine (known_any _ _ hkj _).mono ?_
    rintro _ _ ⟨rfl, rfl⟩
    go_wp2
    go_ret
    exact ⟨rfl, Below.refl _ _⟩
  rw [hki, hkj, Bool.true_and, Bool.true_and] at hr2
  have hcl := clocks_any _ l w h hl
  have HR := Lib.hid hr2
  clear hr2
  go_enter Try.func12, Try.ntmps12
  go_wp2_with fail
  refine (known_any _ _ hki _).mono ?_
  rintro _ _ ⟨rfl, rfl⟩
  go_wp2_with fail
  refine (known_any _ _ hkj _).mono ?_
  rintro _ _ ⟨rfl, rfl⟩
  go_wp2_with fail
  refine hcl.mono ?_
  rintro _ w2 ⟨u, vs, rfl, ⟨hrow, hck⟩, hb2⟩
  have hvl : vs.length = l.length := by have := hrow.1; omega
  obtain ⟨g, cg, rfl, hg1, hg2, -, hg4⟩ := own_addr hrow (by omega)
  unfold maxLen at hg2
  have k1 := hrow.cellAt i (by omega)
  have k2 := hrow.cellAt j (by omega)
  rw [List.getElem?_eq_getElem (by omega)] at k1 k2
  have hcl1 := Hb.clks_length l Hb.zero
  have hui := hck i vs[i] (Hb.cat l i) (List.getElem?_eq_getElem _) (by unfold Hb.cat; rw [Int.toNat_natCast, List.getD_eq_getElem?_getD, List.getElem?_eq_getElem (by omega)]; rfl)
  have huj := hck j vs[j] (Hb.cat l j) (List.getElem?_eq_getElem _) (by unfold Hb.cat; rw [Int.toNat_natCast, List.getD_eq_getElem?_getD, List.getElem?_eq_getElem (by omega)]; rfl)
  generalize vs[i] = ui at k1 hui
  generalize vs[j] = uj at k2 huj
  have d1 : w2.cell? ⟨b, off + i * 6 + 1, none⟩ = some (.int .i64 ai) := by rw [hb2.cell (p := ⟨b, off + i * 6 + 1, none⟩) hbl]; exact ci1
  have keepS : ∀ w', Below w2.heap.size w2 w' → (Below w2.heap.size w2 w' ∧ w'.cell? ⟨b, off + i * 6 + 1, none⟩ = some (.int .i64 ai) ∧ w'.cell? ⟨g, i, none⟩ = some ui ∧ w'.cell? ⟨g, j, none⟩ = some uj) := fun w' hb =>
    ⟨hb, by rw [hb.cell (p := ⟨b, off + i * 6 + 1, none⟩) (Nat.lt_of_lt_of_le hbl hb2.size)]; exact d1, by rw [hb.cell (p := ⟨g, i, none⟩) hg4]; exact k1, by rw [hb.cell (p := ⟨g, j, none⟩) hg4]; exact k2⟩
  have hS0 := keepS _ (below_drew (Below.refl _ _))
  clear hrow hck hcl hcl1 hvl
  go_wp2_with fail
  refine wp_walk (by kernel_rfl) (by kernel_rfl) (fun _ _ => True) (fun w' => (Below w2.heap.size w2 w' ∧ w'.cell? ⟨b, off + i * 6 + 1, none⟩ = some (.int .i64 ai) ∧ w'.cell? ⟨g, i, none⟩ = some ui ∧ w'.cell? ⟨g, j, none⟩ = some uj)) hS0 ?_
  repeat (first | (refine settle_skip (fun _ => by rfl) ?_; (simp only [Act.put, List.setIfInBounds_toArray, List.set_cons_zero, List.set_cons_succ])) | (refine' settle_run (fun _ _ => trivial) (fun _ => by rfl) ?_ ?_; rotate_left; (focus (intro ρ w hS hF; (try dsimp only at hS); go_split_ands; go_simp; try with_reducible rfl)); (simp only [Act.put, List.setIfInBounds_toArray, List.set_cons_zero, List.set_cons_succ])))
  (refine' settle_step (fun _ => by rfl) ?_ ?_; rotate_left; (focus (intro ρ w hS hF K hK; (simp only [Act.put, List.setIfInBounds_toArray, List.set_cons_zero, List.set_cons_succ] at hK); go_simp; (refine (at_any ui _ ai _ (hui.below hS.1)).mono ?_; rintro e w6 ⟨rfl, rfl⟩; have hS' := hS; have hE' := True.intro); exact hK _ hS' hE')); (simp only [Act.put, List.setIfInBounds_toArray, List.set_cons_zero, List.set_cons_succ]))
  repeat (first | (refine settle_skip (fun _ => by rfl) ?_; (simp only [Act.put, List.setIfInBounds_toArray, List.set_cons_zero, List.set_cons_succ])) | (refine' settle_run (fun _ _ => trivial) (fun _ => by rfl) ?_ ?_; rotate_left; (focus (intro ρ w hS hF; (try dsimp only at hS); go_split_ands; go_simp; try with_reducible rfl)); (simp only [Act.put, List.setIfInBounds_toArray, List.set_cons_zero, List.set_cons_succ])))
  (refine' settle_step (fun _ => by rfl) ?_ ?_; rotate_left; (focus (intro ρ w hS hF K hK; (simp only [Act.put, List.setIfInBounds_toArray, List.set_cons_zero, List.set_cons_succ] at hK); go_simp; (refine (at_any uj _ ai _ (huj.below hS.1)).mono ?_; rintro e w6 ⟨rfl, rfl⟩; have hS' := hS; have hE' := True.intro); exact hK _ hS' hE')); (simp only [Act.put, List.setIfInBounds_toArray, List.set_cons_zero, List.set_cons_succ]))
  repeat (first | (refine settle_skip (fun _ => by rfl) ?_; (simp only [Act.put, List.setIfInBounds_toArray, List.set_cons_zero, List.set_cons_succ])) | (refine' settle_run (fun _ _ => trivial) (fun _ => by rfl) ?_ ?_; rotate_left; (focus (intro ρ w hS hF; (try dsimp only at hS); go_split_ands; go_simp; try with_reducible rfl)); (simp only [Act.put, List.setIfInBounds_toArray, List.set_cons_zero, List.set_cons_succ])))
  refine settle_nil ?_
  intro ρ w4 hS _
  have hbe := below_next hS.1 hb2
  clear hS hS0 keepS
  go_wp2
  go_ret
  exact ⟨ret_bool HR.out, hbe⟩
end Go.Proofs.Ytoddhfabeiimkaa
