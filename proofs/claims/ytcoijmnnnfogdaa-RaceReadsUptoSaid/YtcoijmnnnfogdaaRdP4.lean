/-
  Who only looks does not race: the law, walked.
-/
import Derived.Test.YtcoijmnnnfogdaaRdP1
import Derived.Test.YtcoijmnnnfogdaaRdP3
import Derived.Test.YtcoijmnnnfogdaaRdP2
import Derived.StillTail
import Derived.Laws.EntriesVeiled

namespace Go.Proofs.Ytcoijmnnnfogdaa.Rc
set_option linter.unusedVariables false
set_option linter.unusedSimpArgs false
set_option maxRecDepth 100000
open Sp (T Acc)

theorem acc_l {p : Bool} {a b : T} {i : Nat} (h : i < a.size) : acc (.two p a b) i = acc a i := by
  have h1 := acc_get (t := .two p a b) (n := i) (by rw [T.size_two]; omega)
  have h2 := acc_get (t := a) h
  rw [T.leaves, List.getElem?_append_left (by unfold T.size at h; exact h), h2] at h1
  injection h1 with h1
  exact h1.symm
theorem acc_r {p : Bool} {a b : T} {j : Nat} (h : j < b.size) : acc (.two p a b) (a.size + j) = acc b j := by
  have h1 := acc_get (t := .two p a b) (n := a.size + j) (by rw [T.size_two]; omega)
  have h2 := acc_get (t := b) h
  rw [T.leaves, List.getElem?_append_right (by unfold T.size; omega), show a.size + j - a.leaves.length = j by unfold T.size; omega, h2] at h1
  injection h1 with h1
  exact h1.symm
theorem hit_ll {p : Bool} {a b : T} {i j : Nat} (hi : i < a.size) (hj : j < a.size) : hit (.two p a b) i j = hit a i j := by
  unfold hit clash
  rw [acc_l hi, acc_l hj, Stl.rk_l hi, Stl.rk_l hj]
  congr 1
  rw [Bool.eq_iff_iff, decide_eq_true_iff, decide_eq_true_iff]
  omega
theorem hit_rr {p : Bool} {a b : T} {i j : Nat} (hi : i < b.size) (hj : j < b.size) : hit (.two p a b) (a.size + i) (a.size + j) = hit b i j := by
  unfold hit clash
  rw [acc_r hi, acc_r hj, Stl.rk_r (by omega), Stl.rk_r (by omega), show a.size + i - a.size = i by omega, show a.size + j - a.size = j by omega]
  congr 1
  rw [Bool.eq_iff_iff, decide_eq_true_iff, decide_eq_true_iff]
  omega
def clash2 (a b : T) (i j : Nat) : Bool := (acc a i).1 == (acc b j).1 && ((acc a i).2.1 || (acc b j).2.1)
theorem hit_seq {a b : T} {i j : Nat} (hi : i < a.size) (hj : j < b.size) : hit (.two false a b) i (a.size + j) = false := by
  unfold hit
  rw [Stl.rk_l hi, Stl.rk_r (by omega)]
  have h1 := a.rk_lt i hi
  have : decide ((b.rk (a.size + j - a.size) + if false = true then 0 else a.size) < a.rk i + if false = true then b.size else 0) = false := by
    simp
    omega
  rw [this, Bool.and_false]
theorem hit_par {a b : T} {i j : Nat} (hi : i < a.size) (hj : j < b.size) : hit (.two true a b) i (a.size + j) = clash2 a b i j := by
  unfold hit clash clash2
  rw [Stl.rk_l hi, Stl.rk_r (by omega), acc_l hi, acc_r hj, show a.size + j - a.size = j by omega]
  have h1 := b.rk_lt j hj
  have : decide ((b.rk j + if true = true then 0 else a.size) < a.rk i + if true = true then b.size else 0) = true := by
    simp
    omega
  rw [this, Bool.and_true]

def shift (n : Nat) (p : Nat × Nat) : Nat × Nat := (p.1 + n, p.2 + n)
/-- what clashes between the first k of one and the other -/
def crossR (a b : T) (i m : Nat) : List (Nat × Nat) := ((List.range m).filter (clash2 a b i)).map fun j => (i, j + a.size)
def crossK (a b : T) (k : Nat) : List (Nat × Nat) := (List.range k).flatMap fun i => crossR a b i b.size
theorem crossR_zero (a b : T) (i : Nat) : crossR a b i 0 = [] := rfl
theorem crossR_succ (a b : T) (i m : Nat) : crossR a b i (m + 1) = crossR a b i m ++ (if clash2 a b i m then [(i, m + a.size)] else []) := by
  unfold crossR
  rw [List.range_succ, List.filter_append, List.map_append]
  simp only [List.filter_cons, List.filter_nil]
  split <;> rfl
theorem crossK_zero (a b : T) : crossK a b 0 = [] := rfl
theorem crossK_succ (a b : T) (k : Nat) : crossK a b (k + 1) = crossK a b k ++ crossR a b k b.size := by
  unfold crossK
  rw [List.range_succ, List.flatMap_append]
  simp
theorem crossR_len (a b : T) (i m : Nat) : (crossR a b i m).length ≤ m := by
  unfold crossR
  rw [List.length_map]
  exact Nat.le_trans (List.length_filter_le _ _) (by simp)
theorem crossK_len (a b : T) : ∀ k, (crossK a b k).length ≤ k * b.size
  | 0 => by simp [crossK]
  | k + 1 => by
    rw [crossK_succ, List.length_append, Nat.add_mul, Nat.one_mul]
    exact Nat.add_le_add (crossK_len a b k) (crossR_len a b k _)
theorem cross_mem {a b : T} {p : Nat × Nat} : p ∈ crossK a b a.size ↔ p.1 < a.size ∧ ∃ j, j < b.size ∧ p.2 = j + a.size ∧ clash2 a b p.1 j = true := by
  unfold crossK crossR
  rw [List.mem_flatMap]
  constructor
  · rintro ⟨i, hi, hp⟩
    obtain ⟨j, hj, rfl⟩ := List.mem_map.1 hp
    have := List.mem_filter.1 hj
    exact ⟨List.mem_range.1 hi, j, List.mem_range.1 this.1, rfl, this.2⟩
  · rintro ⟨h1, j, h2, h3, h4⟩
    exact ⟨p.1, List.mem_range.2 h1, List.mem_map.2 ⟨j, List.mem_filter.2 ⟨List.mem_range.2 h2, h4⟩, by rw [← h3]⟩⟩
def seqL (a b : T) : List (Nat × Nat) := races a ++ (races b).map (shift a.size)

/-! ### rising pairs -/
def plt (p q : Nat × Nat) : Prop := p.1 < q.1 ∨ (p.1 = q.1 ∧ p.2 < q.2)
theorem plt_irr (p : Nat × Nat) : ¬ plt p p := fun h => by unfold plt at h; omega
theorem rowR_up (t : T) (i m : Nat) : (rowR t i m).Pairwise plt := by
  unfold rowR
  rw [List.pairwise_map]
  exact (List.pairwise_lt_range.filter _).imp fun h => .inr ⟨rfl, by show i + 1 + _ < i + 1 + _; omega⟩
theorem flat_up {f : Nat → List (Nat × Nat)} (h1 : ∀ i, (f i).Pairwise plt) (h2 : ∀ i, ∀ p ∈ f i, p.1 = i) : ∀ k, ((List.range k).flatMap f).Pairwise plt
  | 0 => by simp
  | k + 1 => by
    rw [List.range_succ, List.flatMap_append]
    refine List.pairwise_append.2 ⟨flat_up h1 h2 k, by simpa using h1 k, fun x hx y hy => ?_⟩
    obtain ⟨i, hi, hx⟩ := List.mem_flatMap.1 hx
    have e1 := h2 i x hx
    have e2 := h2 k y (by simpa using hy)
    have := List.mem_range.1 hi
    exact .inl (by omega)
theorem races_up (t : T) : (races t).Pairwise plt := flat_up (fun i => rowR_up t i _) (fun i p hp => (rowR_mem.1 hp).1) _
theorem up_nodup {l : List (Nat × Nat)} (h : l.Pairwise plt) : l.Nodup := h.imp fun h e => by subst e; exact plt_irr _ h
theorem plt_trans {p q r : Nat × Nat} (h1 : plt p q) (h2 : plt q r) : plt p r := by unfold plt at *; omega
/-- two lists of pairs that go up and have the same members -/
theorem up_same : ∀ {l m : List (Nat × Nat)}, l.Pairwise plt → m.Pairwise plt → (∀ x, x ∈ l ↔ x ∈ m) → l = m
  | [], [], _, _, _ => rfl
  | [], y :: m, _, _, h => by have := (h y).2 List.mem_cons_self; cases this
  | x :: l, [], _, _, h => by have := (h x).1 List.mem_cons_self; cases this
  | x :: l, y :: m, hl, hm, h => by
    have hl' := List.pairwise_cons.1 hl
    have hm' := List.pairwise_cons.1 hm
    have e : x = y := by
      rcases List.mem_cons.1 ((h x).1 List.mem_cons_self) with e | hx
      · exact e
      · rcases List.mem_cons.1 ((h y).2 List.mem_cons_self) with e | hy
        · exact e.symm
        · exact absurd (plt_trans (hm'.1 x hx) (hl'.1 y hy)) (plt_irr _)
    subst e
    congr 1
    refine up_same hl'.2 hm'.2 fun z => ⟨fun hz => ?_, fun hz => ?_⟩
    · rcases List.mem_cons.1 ((h z).1 (List.mem_cons_of_mem _ hz)) with e | h1
      · subst e
        exact absurd (hl'.1 z hz) (plt_irr _)
      · exact h1
    · rcases List.mem_cons.1 ((h z).2 (List.mem_cons_of_mem _ hz)) with e | h1
      · subst e
        exact absurd (hm'.1 z hz) (plt_irr _)
      · exact h1
theorem seqL_mem {a b : T} {p : Nat × Nat} : p ∈ seqL a b ↔ (p.1 < p.2 ∧ p.2 < a.size ∧ hit a p.1 p.2 = true) ∨ ∃ i j, p = (i + a.size, j + a.size) ∧ i < j ∧ j < b.size ∧ hit b i j = true := by
  unfold seqL
  rw [List.mem_append, races_mem, List.mem_map]
  refine or_congr Iff.rfl ⟨?_, ?_⟩
  · rintro ⟨x, hx, rfl⟩
    obtain ⟨h1, h2, h3⟩ := races_mem.1 hx
    exact ⟨x.1, x.2, rfl, h1, h2, h3⟩
  · rintro ⟨i, j, rfl, h1, h2, h3⟩
    exact ⟨(i, j), races_mem.2 ⟨h1, h2, h3⟩, rfl⟩
theorem seqL_up (a b : T) : (seqL a b).Pairwise plt := by
  unfold seqL
  refine List.pairwise_append.2 ⟨races_up a, ?_, fun x hx y hy => ?_⟩
  · rw [List.pairwise_map]
    exact (races_up b).imp fun h => by unfold plt shift at *; simp only; omega
  · obtain ⟨z, -, rfl⟩ := List.mem_map.1 hy
    have := races_mem.1 hx
    exact .inl (by show x.1 < z.1 + a.size; omega)
theorem races_two {p : Bool} {a b : T} {x : Nat × Nat} : x ∈ races (.two p a b) ↔ x ∈ seqL a b ∨ (x.1 < a.size ∧ ∃ j, j < b.size ∧ x.2 = j + a.size ∧ hit (.two p a b) x.1 (a.size + j) = true) := by
  obtain ⟨i, j⟩ := x
  rw [races_mem, seqL_mem, T.size_two]
  simp only
  constructor
  · rintro ⟨h1, h2, h3⟩
    by_cases hj : j < a.size
    · exact .inl (.inl ⟨h1, hj, by rw [← h3, hit_ll (by omega) hj]⟩)
    · obtain ⟨j', rfl⟩ : ∃ j', j = a.size + j' := ⟨j - a.size, by omega⟩
      by_cases hi : i < a.size
      · exact .inr ⟨hi, j', by omega, by omega, h3⟩
      · obtain ⟨i', rfl⟩ : ∃ i', i = a.size + i' := ⟨i - a.size, by omega⟩
        exact .inl (.inr ⟨i', j', by rw [Nat.add_comm i', Nat.add_comm j'], by omega, by omega, by rw [← h3, hit_rr (by omega) (by omega)]⟩)
  · rintro ((⟨h1, h2, h3⟩ | ⟨i', j', e, h1, h2, h3⟩) | ⟨h1, j', h2, e, h3⟩)
    · exact ⟨h1, by omega, by rw [hit_ll (by omega) h2]; exact h3⟩
    · injection e with e1 e2
      subst e1 e2
      exact ⟨by omega, by omega, by rw [Nat.add_comm i', Nat.add_comm j', hit_rr (by omega) h2]; exact h3⟩
    · subst e
      exact ⟨by omega, by omega, by rw [Nat.add_comm j']; exact h3⟩
/-- what is one behind the other does not race -/
theorem races_seq (a b : T) : races (.two false a b) = seqL a b := by
  refine up_same (races_up _) (seqL_up a b) fun x => ?_
  rw [races_two]
  refine ⟨fun h => h.elim id fun ⟨h1, j, h2, _, h3⟩ => ?_, .inl⟩
  rw [hit_seq h1 h2] at h3
  cases h3
def parL (a b : T) : List (Nat × Nat) := seqL a b ++ crossK a b a.size
theorem parL_mem {a b : T} {x : Nat × Nat} : x ∈ parL a b ↔ x ∈ races (.two true a b) := by
  unfold parL
  rw [List.mem_append, races_two, cross_mem]
  constructor
  · rintro (h | ⟨h1, j, h2, h3, h4⟩)
    · exact .inl h
    · exact .inr ⟨h1, j, h2, h3, by rw [hit_par h1 h2]; exact h4⟩
  · rintro (h | ⟨h1, j, h2, h3, h4⟩)
    · exact .inl h
    · exact .inr ⟨h1, j, h2, h3, by rw [← hit_par h1 h2]; exact h4⟩
theorem crossR_up (a b : T) (i m : Nat) : (crossR a b i m).Pairwise plt := by
  unfold crossR
  rw [List.pairwise_map]
  exact (List.pairwise_lt_range.filter _).imp fun h => .inr ⟨rfl, by show _ + a.size < _ + a.size; omega⟩
theorem crossK_up (a b : T) (k : Nat) : (crossK a b k).Pairwise plt := flat_up (fun i => crossR_up a b i _) (fun i p hp => by
  unfold crossR at hp
  obtain ⟨j, -, rfl⟩ := List.mem_map.1 hp
  rfl) _
theorem parL_nodup (a b : T) : (parL a b).Nodup := by
  unfold parL
  refine List.nodup_append.2 ⟨up_nodup (seqL_up a b), up_nodup (crossK_up a b _), fun x hx y hy e => ?_⟩
  subst e
  obtain ⟨h1, j, h2, h3, -⟩ := cross_mem.1 hy
  rcases seqL_mem.1 hx with ⟨h4, h5, -⟩ | ⟨i', j', e, -, -, -⟩
  · omega
  · rw [e] at h1
    simp only at h1
    omega
/-- what is side by side races as either does, and with what clashes between -/
theorem parL_len (a b : T) : (parL a b).length = (races (.two true a b)).length := by
  have h1 := (parL_nodup a b).length_le_of_subset (fun x hx => parL_mem.1 hx)
  have h2 := (up_nodup (races_up (.two true a b))).length_le_of_subset (fun x hx => parL_mem.2 hx)
  omega
theorem races_len (t : T) : (races t).length ≤ t.size * t.size := racesK_len t t.size
theorem seqL_len (a b : T) : (seqL a b).length = (races a).length + (races b).length := by
  unfold seqL
  rw [List.length_append, List.length_map]
end Go.Proofs.Ytcoijmnnnfogdaa.Rc


namespace Go.Proofs.Ytcoijmnnnfogdaa.Rc
set_option linter.unusedVariables false
set_option linter.unusedSimpArgs false
set_option maxRecDepth 100000
open Sp (T Acc)

theorem rise_int : ∀ {l m : List Int}, l.Pairwise (· < ·) → m.Pairwise (· < ·) → (∀ x, x ∈ l ↔ x ∈ m) → l = m
  | [], [], _, _, _ => rfl
  | [], y :: m, _, _, h => by have := (h y).2 List.mem_cons_self; cases this
  | x :: l, [], _, _, h => by have := (h x).1 List.mem_cons_self; cases this
  | x :: l, y :: m, hl, hm, h => by
    have hl' := List.pairwise_cons.1 hl
    have hm' := List.pairwise_cons.1 hm
    have e : x = y := by
      rcases List.mem_cons.1 ((h x).1 List.mem_cons_self) with e | hx
      · exact e
      · rcases List.mem_cons.1 ((h y).2 List.mem_cons_self) with e | hy
        · exact e.symm
        · have := hm'.1 x hx
          have := hl'.1 y hy
          omega
    subst e
    congr 1
    refine rise_int hl'.2 hm'.2 fun z => ⟨fun hz => ?_, fun hz => ?_⟩
    · rcases List.mem_cons.1 ((h z).1 (List.mem_cons_of_mem _ hz)) with e | h1
      · have := hl'.1 z hz; omega
      · exact h1
    · rcases List.mem_cons.1 ((h z).2 (List.mem_cons_of_mem _ hz)) with e | h1
      · have := hm'.1 z hz; omega
      · exact h1
theorem compact_rise {zs : List Int} (hs : zs.Pairwise (· ≤ ·)) : ∀ m, m ≤ zs.length → (Lib.compactUpTo zs.toArray m).Pairwise (· < ·) ∧ ∀ x, x ∈ Lib.compactUpTo zs.toArray m ↔ ∃ j, j < m ∧ zs[j]? = some x
  | 0, _ => by simp [Lib.compactUpTo]
  | m + 1, hm => by
    obtain ⟨h1, h2⟩ := compact_rise hs m (by omega)
    have hget : ∀ j, j < zs.length → zs.toArray[j]! = zs.getD j 0 := fun j hj => by simp [hj]
    have hat : ∀ j (hj : j < zs.length), zs[j]? = some (zs.getD j 0) := fun j hj => by
      rw [List.getD_eq_getElem?_getD, List.getElem?_eq_getElem hj]; rfl
    have hle : ∀ i j, i ≤ j → j < zs.length → zs.getD i 0 ≤ zs.getD j 0 := fun i j hij hj => by
      rcases Nat.lt_or_ge i j with h | h
      · have := List.pairwise_iff_getElem.1 hs i j (by omega) hj h
        rw [List.getD_eq_getElem?_getD, List.getD_eq_getElem?_getD, List.getElem?_eq_getElem hj, List.getElem?_eq_getElem (by omega : i < zs.length)]
        exact this
      · have : i = j := by omega
        subst this
        exact Int.le_refl _
    rw [Lib.compactUpTo_succ]
    have hm' : m < zs.length := by omega
    rcases hk : Lib.keeps zs.toArray m with _ | _
    · have hm0 : 0 < m := by
        rcases Nat.eq_zero_or_pos m with e | e
        · rw [Lib.keeps_lt_one _ m (by omega)] at hk
          cases hk
        · exact e
      have heq : zs.toArray[m]! = zs.toArray[m - 1]! := by
        refine Decidable.byContradiction fun hne => ?_
        rw [Lib.keeps_pos hne] at hk
        cases hk
      rw [hget m hm', hget (m - 1) (by omega)] at heq
      refine ⟨by simpa using h1, fun x => ?_⟩
      simp only [Bool.false_eq_true, if_false, List.append_nil]
      rw [h2]
      constructor
      · rintro ⟨j, hj, hx⟩
        exact ⟨j, by omega, hx⟩
      · rintro ⟨j, hj, hx⟩
        by_cases e : j = m
        · subst e
          exact ⟨j - 1, by omega, by rw [hat _ (by omega), ← heq, ← hat _ hm']; exact hx⟩
        · exact ⟨j, by omega, hx⟩
    · simp only [if_true]
      refine ⟨List.pairwise_append.2 ⟨h1, by simp, fun x hx y hy => ?_⟩, fun x => ?_⟩
      · rw [List.mem_singleton] at hy
        subst hy
        obtain ⟨j, hj, hxj⟩ := (h2 x).1 hx
        rw [hget m hm']
        rw [hat j (by omega)] at hxj
        injection hxj with hxj
        subst hxj
        have hne : zs.getD m 0 ≠ zs.getD (m - 1) 0 := fun e => by
          have := Lib.keeps_neg (d := zs.toArray) (m := m) (by omega) (by rw [hget m hm', hget (m - 1) (by omega)]; exact e)
          rw [this] at hk
          cases hk
        have e1 := hle j (m - 1) (by omega) (by omega)
        have e2 := hle (m - 1) m (by omega) hm'
        omega
      · rw [List.mem_append, h2, List.mem_singleton, hget m hm']
        constructor
        · rintro (⟨j, hj, hx⟩ | rfl)
          · exact ⟨j, by omega, hx⟩
          · exact ⟨m, by omega, hat m hm'⟩
        · rintro ⟨j, hj, hx⟩
          by_cases e : j = m
          · subst e
            rw [hat j hm'] at hx
            injection hx with hx
            exact .inr hx.symm
          · exact .inl ⟨j, by omega, hx⟩
theorem compact_srt (l : List Int) : (Lib.compact (srt l)).Pairwise (· < ·) ∧ ∀ x, x ∈ Lib.compact (srt l) ↔ x ∈ l := by
  have hs : (srt l).Pairwise (· ≤ ·) := (List.pairwise_mergeSort (le := fun x y => decide (x ≤ y)) (fun a b c h1 h2 => by simp at *; omega) (fun a b => by simp; omega) l).imp fun h => by simpa using h
  obtain ⟨h1, h2⟩ := compact_rise hs (srt l).length (Nat.le_refl _)
  refine ⟨h1, fun x => ?_⟩
  have hp : x ∈ srt l ↔ x ∈ l := (List.mergeSort_perm l _).mem_iff
  rw [← hp]
  refine (h2 x).trans ⟨fun ⟨j, _, hx⟩ => List.mem_of_getElem? hx, fun hx => ?_⟩
  obtain ⟨j, hj⟩ := List.getElem?_of_mem hx
  exact ⟨j, (List.getElem?_eq_some_iff.1 hj).1, hj⟩
theorem cellsL_rise (t : T) : (cellsL t).Pairwise (· < ·) := (compact_srt _).1
theorem cellsL_mem {t : T} {x : Int} : x ∈ cellsL t ↔ ∃ p ∈ races t, (acc t p.1).1 = x := by
  unfold cellsL
  rw [(compact_srt _).2]
  unfold rcel
  rw [List.take_length, List.mem_map]

/-! ### calm -/
def calmA (c : Int) (a : Acc) : Acc := (a.1, if a.1 = c then false else a.2.1, a.2.2)
def calm (c : Int) : T → T
  | .nil => .nil
  | .one x b l => .one x (if x = c then false else b) l
  | .two p l r => .two p (calm c l) (calm c r)
theorem calm_leaves (c : Int) : ∀ t : T, (calm c t).leaves = t.leaves.map (calmA c)
  | .nil => rfl
  | .one _ _ _ => rfl
  | .two p l r => by simp [calm, T.leaves, calm_leaves c l, calm_leaves c r]
theorem calm_size (c : Int) (t : T) : (calm c t).size = t.size := by
  unfold T.size
  rw [calm_leaves, List.length_map]
theorem calm_rk (c : Int) : ∀ (t : T) (i : Nat), (calm c t).rk i = t.rk i
  | .nil, i => rfl
  | .one _ _ _, i => rfl
  | .two p l r, i => by
    simp only [calm]
    by_cases h : i < l.size
    · rw [Stl.rk_l h, Stl.rk_l (by rw [calm_size]; exact h), calm_rk c l, calm_size]
    · rw [Stl.rk_r (l := l) (by omega), Stl.rk_r (l := calm c l) (by rw [calm_size]; omega), calm_size, calm_rk c r]
theorem calm_acc {c : Int} {t : T} {n : Nat} (h : n < t.size) : acc (calm c t) n = calmA c (acc t n) := by
  have h1 := acc_get (t := calm c t) (n := n) (by rw [calm_size]; exact h)
  rw [calm_leaves, List.getElem?_map, acc_get h] at h1
  injection h1 with h1
  exact h1.symm
theorem calm_hit {c : Int} {t : T} {i j : Nat} (hi : i < t.size) (hj : j < t.size) : hit (calm c t) i j = true ↔ hit t i j = true ∧ (acc t i).1 ≠ c := by
  unfold hit clash
  rw [calm_acc hi, calm_acc hj, calm_rk, calm_rk]
  unfold calmA
  simp only [Bool.and_eq_true, Bool.or_eq_true, beq_iff_eq]
  constructor
  · rintro ⟨⟨h1, h2⟩, h3⟩
    by_cases e : (acc t i).1 = c
    · rw [if_pos e, if_pos (h1.symm.trans e)] at h2
      simp at h2
    · rw [if_neg e, if_neg (fun e' => e (h1.trans e'))] at h2
      exact ⟨⟨⟨h1, h2⟩, h3⟩, e⟩
  · rintro ⟨⟨⟨h1, h2⟩, h3⟩, e⟩
    refine ⟨⟨h1, ?_⟩, h3⟩
    rw [if_neg e, if_neg (fun e' => e (h1.trans e'))]
    exact h2
theorem calm_races {c : Int} {t : T} {p : Nat × Nat} : p ∈ races (calm c t) ↔ p ∈ races t ∧ (acc t p.1).1 ≠ c := by
  rw [races_mem, races_mem, calm_size]
  constructor
  · rintro ⟨h1, h2, h3⟩
    obtain ⟨h4, h5⟩ := (calm_hit (by omega) h2).1 h3
    exact ⟨⟨h1, h2, h4⟩, h5⟩
  · rintro ⟨⟨h1, h2, h4⟩, h5⟩
    exact ⟨h1, h2, (calm_hit (by omega) h2).2 ⟨h4, h5⟩⟩
/-- without who writes it, a cell races no more; the others do -/
theorem calm_cells (c : Int) (t : T) : cellsL (calm c t) = (cellsL t).filter fun x => x != c := by
  refine rise_int (cellsL_rise _) ((cellsL_rise t).filter _) fun x => ?_
  rw [List.mem_filter, cellsL_mem, cellsL_mem]
  constructor
  · rintro ⟨p, hp, hx⟩
    obtain ⟨h1, h2⟩ := calm_races.1 hp
    have hr := races_mem.1 h1
    rw [calm_acc (by omega)] at hx
    have hx : (acc t p.1).1 = x := hx
    exact ⟨⟨p, h1, hx⟩, by rw [bne_iff_ne, ← hx]; exact h2⟩
  · rintro ⟨⟨p, h1, hx⟩, h2⟩
    rw [bne_iff_ne] at h2
    have hr := races_mem.1 h1
    refine ⟨p, calm_races.2 ⟨h1, by rw [hx]; exact h2⟩, ?_⟩
    rw [calm_acc (by omega)]
    exact hx
end Go.Proofs.Ytcoijmnnnfogdaa.Rc


namespace Go.Proofs.Ytcoijmnnnfogdaa
set_option linter.unusedVariables false
set_option linter.unusedSimpArgs false
set_option maxRecDepth 100000
open Go.RowKit

/-- a row of terms: a term's fields, its kids, the rest of the row -/
inductive Ks
  | nil
  | cons (k c : Int) (b : Bool) (l : Int) (kids rest : Ks)
namespace Ks
def len : Ks → Nat
  | nil => 0
  | cons _ _ _ _ _ rest => rest.len + 1
def calm (x : Int) : Ks → Ks
  | nil => nil
  | cons k c b l kids rest => cons k c (if c = x then false else b) l (calm x kids) (calm x rest)
theorem calm_len (x : Int) : ∀ s : Ks, (calm x s).len = s.len
  | nil => rfl
  | cons _ _ _ _ _ rest => by simp [calm, len, calm_len x rest]
/-- what package sp sees in a term -/
def mk (k c : Int) (b : Bool) (l : Int) (ts : List Sp.T) : Sp.T :=
  if k = 1 then .one c b l else if k = 2 ∨ k = 3 then (match ts with | t0 :: t1 :: _ => .two (decide (k = 3)) t0 t1 | _ => .nil) else .nil
def tt : Ks → List Sp.T
  | nil => []
  | cons k c b l kids rest => mk k c b l kids.tt :: rest.tt
theorem tt_len : ∀ s : Ks, s.tt.length = s.len
  | nil => rfl
  | cons _ _ _ _ _ rest => by simp [tt, len, tt_len rest]
theorem mk_calm (x k c : Int) (b : Bool) (l : Int) (ts : List Sp.T) : mk k c (if c = x then false else b) l (ts.map (Rc.calm x)) = Rc.calm x (mk k c b l ts) := by
  unfold mk
  split
  · rfl
  · split
    · match ts with
      | [] => rfl
      | [_] => rfl
      | _ :: _ :: _ => rfl
    · rfl
theorem tt_calm (x : Int) : ∀ s : Ks, (calm x s).tt = s.tt.map (Rc.calm x)
  | nil => rfl
  | cons k c b l kids rest => by
    simp only [calm, tt, List.map_cons]
    rw [tt_calm x kids, tt_calm x rest, mk_calm]
def sizes (ts : List Sp.T) : Nat := (ts.map Sp.T.size).sum
theorem mk_size (k c : Int) (b : Bool) (l : Int) (ts : List Sp.T) : (mk k c b l ts).size ≤ sizes ts + 1 := by
  unfold mk
  split
  · simp [Sp.T.size, Sp.T.leaves]
  · split
    · match ts with
      | [] => simp [Sp.T.size, Sp.T.leaves]
      | [_] => simp [Sp.T.size, Sp.T.leaves]
      | t0 :: t1 :: ts =>
        show (Sp.T.two _ t0 t1).size ≤ _
        rw [Sp.T.size_two]
        simp [sizes]
        omega
    · simp [Sp.T.size, Sp.T.leaves]
end Ks

inductive KsR (B : Nat) (w : World) : List Value → Ks → Prop
  | nil : KsR B w [] .nil
  | cons (k c : Int) (b : Bool) (l : Int) (A : Option Addr) (cap : Nat) (ds cs : List Value) (kids rest : Ks) : kids.len ≤ cap → cap ≤ maxLen → Cells w B A ds → KsR B w ds kids → KsR B w cs rest → KsR B w (tcells k c b l A kids.len cap ++ cs) (.cons k c b l kids rest)
theorem KsR.length {B : Nat} {w : World} {cs : List Value} {s : Ks} (h : KsR B w cs s) : cs.length = s.len * 5 := by
  induction h with
  | nil => rfl
  | cons k c b l A cap ds cs kids rest _ _ _ _ _ _ ih =>
    rw [List.length_append, ih, Ks.len]
    simp [tcells]
    omega
theorem TmR.mk {B : Nat} {w : World} {k c : Int} {b : Bool} {l : Int} {A : Option Addr} {n cap : Nat} {ds : List Value} {ts : List Sp.T} (hn : n = ts.length) (h1 : n ≤ cap) (h2 : cap ≤ maxLen) (hc : Cells w B A ds) (hl : ds.length = n * 5) (hk : ∀ (i : Nat) (t : Sp.T), ts[i]? = some t → TmR B w ((ds.drop (i * 5)).take 5) t) : TmR B w (tcells k c b l A n cap) (Ks.mk k c b l ts) := by
  unfold Ks.mk
  split
  · rename_i e
    subst e
    exact .one c b l A n cap h1 h2
  · rename_i e1
    split
    · rename_i e2
      match ts, hn, hk with
      | [], hn, _ => exact .nil k c b l A n cap h1 h2 e1 (by simp at hn; omega)
      | [_], hn, _ => exact .nil k c b l A n cap h1 h2 e1 (by simp at hn; omega)
      | t0 :: t1 :: ts, hn, hk =>
        have r0 := hk 0 t0 rfl
        have r1 := hk 1 t1 rfl
        simp only [List.length_cons] at hn
        obtain ⟨g, o, h3, h4⟩ := hc
        obtain ⟨rfl, hg⟩ := h3 (fun e => by rw [e] at hl; simp at hl; omega)
        have q0 : ∀ j u, ((ds.drop (0 * 5)).take 5)[j]? = some u → w.cell? ⟨g, o + j, none⟩ = some u := fun j u hu => by
          rw [List.getElem?_take] at hu
          split at hu
          · rw [List.getElem?_drop] at hu
            simpa using h4 _ _ hu
          · cases hu
        have q1 : ∀ j u, ((ds.drop (1 * 5)).take 5)[j]? = some u → w.cell? ⟨g, o + 5 + j, none⟩ = some u := fun j u hu => by
          rw [List.getElem?_take] at hu
          split at hu
          · rw [List.getElem?_drop] at hu
            have := h4 _ _ hu
            rwa [← Nat.add_assoc] at this
          · cases hu
        have := TmR.two (decide (k = 3)) c b l g o n cap _ _ t0 t1 h1 h2 (by omega) hg q0 q1 r0 r1
        rcases e2 with rfl | rfl
        · exact this
        · exact this
    · rename_i e2
      exact .nil k c b l A n cap h1 h2 e1 (by rintro ⟨h, _⟩; exact e2 h)
theorem KsR.terms {B : Nat} {w : World} {cs : List Value} {s : Ks} (h : KsR B w cs s) : ∀ (i : Nat) (t : Sp.T), s.tt[i]? = some t → TmR B w ((cs.drop (i * 5)).take 5) t := by
  induction h with
  | nil => intro i t h; simp [Ks.tt] at h
  | cons k c b l A cap ds cs kids rest h1 h2 h3 h4 h5 ih1 ih2 =>
    intro i t hi
    rw [Ks.tt] at hi
    rcases i with _ | i
    · simp only [List.getElem?_cons_zero, Option.some.injEq] at hi
      subst hi
      have : ((tcells k c b l A kids.len cap ++ cs).drop (0 * 5)).take 5 = tcells k c b l A kids.len cap := by simp [tcells]
      rw [this]
      exact TmR.mk (Ks.tt_len kids).symm h1 h2 h3 h4.length ih1
    · rw [List.getElem?_cons_succ] at hi
      have : ((tcells k c b l A kids.len cap ++ cs).drop ((i + 1) * 5)).take 5 = (cs.drop (i * 5)).take 5 := by
        rw [show (i + 1) * 5 = (tcells k c b l A kids.len cap).length + i * 5 by simp [tcells]; omega, List.drop_append, List.drop_eq_nil_of_le (by omega)]
        simp
      rw [this]
      exact ih2 i t hi
end Go.Proofs.Ytcoijmnnnfogdaa


namespace Go.Proofs.Ytcoijmnnnfogdaa
set_option linter.unusedVariables false
set_option linter.unusedSimpArgs false
set_option maxRecDepth 100000
open Go.ChangeShapes Go.WideShapes Go.ChangeAt Go.RowKit
set_option maxRecDepth 100000

namespace Ks
def tot : Ks → Nat
  | nil => 0
  | cons _ _ _ _ kids rest => kids.tot + rest.tot + 1
theorem len_le : ∀ s : Ks, s.len ≤ s.tot
  | nil => Nat.le_refl _
  | cons _ _ _ _ kids rest => by
    have := len_le rest
    simp only [len, tot]
    omega
theorem tt_sizes : ∀ s : Ks, sizes s.tt ≤ s.tot
  | nil => by simp [sizes, tt]
  | cons k c b l kids rest => by
    have h1 := tt_sizes kids
    have h2 := tt_sizes rest
    have h3 := mk_size k c b l kids.tt
    simp only [tt, tot]
    unfold sizes at h1 h2 h3 ⊢
    rw [List.map_cons, List.sum_cons]
    omega
theorem size_tot (k c : Int) (b : Bool) (l : Int) (kids : Ks) : (mk k c b l kids.tt).size ≤ kids.tot + 1 := Nat.le_trans (mk_size k c b l kids.tt) (Nat.succ_le_succ (tt_sizes kids))
end Ks

theorem open_term_ks {H : Type} {enc : TypeId × Value → H} {w : World} : ∀ (fuel : Nat) (cs : List Value) (x : DataW H × List MemPlace), DataW.trod enc Try.prog w 0 (fun _ => true) true fuel 26 cs = some x → (∀ p ∈ x.2, p.block < w.heap.size) →
    ∃ (k c : Int) (b : Bool) (l : Int) (kids : Ks), KsR w.heap.size w cs (.cons k c b l kids .nil) ∧ kids.tot + 1 ≤ Rows.uptoBulk x.1 := by
  intro fuel
  induction fuel using Nat.strongRecOn with
  | _ fuel ih =>
    intro cs x h hlt
    have hT : Try.prog.underlying 26 = some (.struct (fieldsOf Try.prog 26)) := by kernel_rfl
    have hA : Try.prog.underlying 23 = some (.struct (fieldsOf Try.prog 23)) := by kernel_rfl
    obtain ⟨xs, m, rfl, rfl, hl, hxl, hfs⟩ := DataW.trod_struct hT h
    have e0 : (fieldsOf Try.prog 26)[0]?.map (fun f => (f.type, f.offset)) = some (3, 0) := by kernel_rfl
    have e1 : (fieldsOf Try.prog 26)[1]?.map (fun f => (f.type, f.offset)) = some (23, 1) := by kernel_rfl
    have e2 : (fieldsOf Try.prog 26)[2]?.map (fun f => (f.type, f.offset)) = some (24, 4) := by kernel_rfl
    have hsz : (fieldsOf Try.prog 26).size = 3 := by kernel_rfl
    obtain ⟨f0, g0, q0⟩ := Option.map_eq_some_iff.1 e0
    obtain ⟨f1, g1, q1⟩ := Option.map_eq_some_iff.1 e1
    obtain ⟨f2, g2, q2⟩ := Option.map_eq_some_iff.1 e2
    injection q0 with q0 q0'
    injection q1 with q1 q1'
    injection q2 with q2 q2'
    have h0 := hfs 0 f0 g0
    have h1 := hfs 1 f1 g1
    have h2 := hfs 2 f2 g2
    have c0 : Try.prog.cellsOf 3 = 1 := by kernel_rfl
    have c1 : Try.prog.cellsOf 23 = 3 := by kernel_rfl
    have c2 : Try.prog.cellsOf 24 = 1 := by kernel_rfl
    have cT : Try.prog.cellsOf 26 = 5 := by kernel_rfl
    have cB : Try.prog.cellsOf 4 = 1 := by kernel_rfl
    rw [q0, q0', c0] at h0
    rw [q1, q1', c1] at h1
    rw [q2, q2', c2] at h2
    rw [cT] at hl
    rw [hsz] at hxl
    match xs, hxl, cs, hl with
    | [x0, x1, x2], _, [v0, v1, v2, v3, v4], _ =>
      simp only [List.drop_succ_cons, List.drop_zero, List.take_succ_cons, List.take_zero, List.getElem?_cons_zero, List.getElem?_cons_succ] at h0 h1 h2
      obtain ⟨k, hk, -, -⟩ := DataW.trod_int Try.underlying3 h0
      obtain ⟨ys, m1, rfl, -, hl1, hyl, hys⟩ := DataW.trod_struct hA h1
      have d0 : (fieldsOf Try.prog 23)[0]?.map (fun f => (f.type, f.offset)) = some (3, 0) := by kernel_rfl
      have d1 : (fieldsOf Try.prog 23)[1]?.map (fun f => (f.type, f.offset)) = some (4, 1) := by kernel_rfl
      have d2 : (fieldsOf Try.prog 23)[2]?.map (fun f => (f.type, f.offset)) = some (3, 2) := by kernel_rfl
      have hsy : (fieldsOf Try.prog 23).size = 3 := by kernel_rfl
      obtain ⟨u0, w0, p0⟩ := Option.map_eq_some_iff.1 d0
      obtain ⟨u1, w1, p1⟩ := Option.map_eq_some_iff.1 d1
      obtain ⟨u2, w2, p2⟩ := Option.map_eq_some_iff.1 d2
      injection p0 with p0 p0'
      injection p1 with p1 p1'
      injection p2 with p2 p2'
      have y0 := hys 0 u0 w0
      have y1 := hys 1 u1 w1
      have y2 := hys 2 u2 w2
      rw [p0, p0', c0] at y0
      rw [p1, p1', cB] at y1
      rw [p2, p2', c0] at y2
      rw [hsy] at hyl
      match ys, hyl with
      | [z0, z1, z2], _ =>
        simp only [List.drop_succ_cons, List.drop_zero, List.take_succ_cons, List.take_zero, List.getElem?_cons_zero, List.getElem?_cons_succ] at y0 y1 y2
        obtain ⟨c, hc, -, hcw⟩ := DataW.trod_int Try.underlying3 y0
        obtain ⟨b, hb, -⟩ := DataW.trod_bool Try.underlying4 y1
        obtain ⟨l, hl', -, -⟩ := DataW.trod_int Try.underlying3 y2
        simp only [List.cons.injEq, and_true] at hk hc hb hl'
        subst hk hc hb hl'
        have bulk1 : Rows.uptoBulk (DataW.agg (H := H) [x0.1, x1.1, x2.1]) = Rows.uptoBulk x0.1 + (Rows.uptoBulk x1.1 + Rows.uptoBulk x2.1) + 1 := by
          simp [Rows.uptoBulk, Rows.uptoBulkAll]
        have pos : ∀ d : DataW H, 1 ≤ Rows.uptoBulk d := fun d => by
          cases d with
          | lit x => cases x <;> simp [Rows.uptoBulk]
          | _ => simp [Rows.uptoBulk]
        rcases DataW.trod_slice Try.underlying24 h2 with ⟨hcs, hx⟩ | ⟨a, len, cap, el, rest, n, hn, hcs, hx, -, hle, hm, hlen, hel, hsp, -⟩
        · simp only [List.cons.injEq, and_true] at hcs
          subst hcs
          exact ⟨k, c, b, l, .nil, .cons k c b l none 0 [] [] .nil .nil (Nat.le_refl _) (Nat.zero_le _) (Cells.nil _ _ _) .nil .nil, by simp [Ks.tot, bulk1]⟩
        · simp only [List.cons.injEq, and_true] at hcs
          subst hcs
          have hspn : 0 < len → ∃ g o, a = ⟨g, o, none⟩ := fun h0 => by
            have h3 := hel 0 h0
            rw [cT, List.getElem?_eq_getElem (by omega)] at h3
            obtain ⟨cs', hc', -⟩ := Option.bind_eq_some_iff.1 h3
            obtain ⟨-, hl5, hat⟩ := World.cells?_some hc'
            obtain ⟨g, o, sp⟩ := a
            have := hat 0 (by omega)
            rw [List.getElem?_eq_getElem (by omega)] at this
            have hsp0 : sp = none := by simpa [Addr.add] using World.cell?_spot this
            exact ⟨g, o, by rw [hsp0]⟩
          have suf : ∀ m, m ≤ len → ∃ (ds : List Value) (s : Ks), KsR w.heap.size w ds s ∧ s.len = m ∧ ds.length = m * 5 ∧ (∀ j u, ds[j]? = some u → w.cell? ((a.add ((len - m) * 5)).add j) = some u) ∧ s.tot ≤ Rows.uptoBulkAll ((el.drop (len - m)).map (·.1)) := by
            intro m
            induction m with
            | zero => intro _; exact ⟨[], .nil, .nil, rfl, rfl, fun j u hu => by simp at hu, Nat.zero_le _⟩
            | succ m ihm =>
              intro hm1
              obtain ⟨ds, s, r1, r2, r3, r4, r5⟩ := ihm (by omega)
              have h3 := hel (len - (m + 1)) (by omega)
              rw [cT, List.getElem?_eq_getElem (by omega)] at h3
              obtain ⟨cs', hc', htr⟩ := Option.bind_eq_some_iff.1 h3
              obtain ⟨hb0, hl5, hat⟩ := World.cells?_some hc'
              obtain ⟨k', c', b', l', kids', q1, q2⟩ := ih n (by omega) cs' _ htr (fun p hp => hlt p (by
                rw [hx]
                simp only [List.flatMap_cons, List.flatMap_nil, List.mem_append, List.append_nil]
                exact .inr (.inr (.inr (List.mem_flatMap.2 ⟨_, List.mem_append_left _ (List.getElem_mem _), hp⟩)))))
              cases q1 with
              | cons _ _ _ _ A1 cap1 ds1 cs1 _ _ p1 p2 p3 p4 p5 =>
                cases p5 with
                | nil =>
                  rw [List.append_nil] at hat hl5
                  refine ⟨tcells k' c' b' l' A1 kids'.len cap1 ++ ds, .cons k' c' b' l' kids' s, .cons k' c' b' l' A1 cap1 ds1 ds kids' s p1 p2 p3 p4 r1, by simp [Ks.len, r2], by rw [List.length_append, hl5, r3]; omega, fun j u hu => ?_, ?_⟩
                  · rcases Nat.lt_or_ge j 5 with hj | hj
                    · rw [List.getElem?_append_left (by rw [hl5]; exact hj)] at hu
                      rw [hat j hj, hu]
                    · rw [List.getElem?_append_right (by rw [hl5]; exact hj), hl5] at hu
                      have := r4 _ _ hu
                      obtain ⟨g, o, rfl⟩ := hspn (by omega)
                      rw [Addr.add_lit, Addr.add_lit] at this ⊢
                      rwa [show o + (len - m) * 5 + (j - 5) = o + (len - (m + 1)) * 5 + j by omega] at this
                  · rw [show el.drop (len - (m + 1)) = el[len - (m + 1)] :: el.drop (len - m) by
                      rw [List.drop_eq_getElem_cons (by omega), show len - (m + 1) + 1 = len - m by omega], List.map_cons, Rows.uptoBulkAll, Ks.tot]
                    omega
          obtain ⟨ds, s, r1, r2, r3, r4, r5⟩ := suf len (Nat.le_refl _)
          rw [Nat.sub_self] at r4 r5
          rw [List.drop_zero] at r5
          have hC : Cells w w.heap.size (some a) ds := by
            obtain ⟨g, o, sp⟩ := a
            rcases ds with _ | ⟨d0, ds⟩
            · exact ⟨0, 0, fun h => absurd rfl h, fun j u hu => by simp at hu⟩
            · have h0 := r4 0 d0 rfl
              have hsp0 : sp = none := by simpa [Addr.add] using World.cell?_spot h0
              subst hsp0
              refine ⟨g, o, fun _ => ⟨rfl, ?_⟩, fun j u hu => ?_⟩
              · have := World.block_lt_of_cell? w _ h0
                simpa [Addr.add] using this
              · have := r4 j u hu
                simpa [Addr.add_lit] using this
          subst r2
          exact ⟨k, c, b, l, s, .cons k c b l _ cap ds [] s .nil hle hm hC r1 .nil, by
            have hx1 : x2.1 = .slice (el.map (·.1)) (rest.map (·.1)) := by rw [hx]
            show _ ≤ Rows.uptoBulk (DataW.agg (H := H) [x0.1, x1.1, x2.1])
            rw [bulk1, hx1]
            simp only [Rows.uptoBulk]
            omega⟩

theorem KsR.keep {B B' : Nat} {w w' : World} {cs : List Value} {s : Ks} (h : KsR B w cs s) (hB : B ≤ B') (hk : ∀ p : Addr, p.block < B → w'.cell? p = w.cell? p) : KsR B' w' cs s := by
  induction h with
  | nil => exact .nil
  | cons k c b l A cap ds cs kids rest h1 h2 h3 h4 h5 ih1 ih2 =>
    refine .cons k c b l A cap ds cs kids rest h1 h2 ?_ ih1 ih2
    obtain ⟨g, o, h6, h7⟩ := h3
    refine ⟨g, o, fun hne => ⟨(h6 hne).1, Nat.lt_of_lt_of_le (h6 hne).2 hB⟩, fun j u hu => ?_⟩
    have hne : ds ≠ [] := fun e => by rw [e] at hu; simp at hu
    exact (hk ⟨g, o + j, none⟩ (h6 hne).2).trans (h7 j u hu)
theorem KsR.later {B : Nat} {w w' : World} {cs : List Value} {s : Ks} (h : KsR B w cs s) (hb : Below B w w') : KsR B w' cs s := h.keep (Nat.le_refl _) (fun _ hp => hb.cell hp)
theorem KsR.up {B B' : Nat} {w : World} {cs : List Value} {s : Ks} (h : KsR B w cs s) (hB : B ≤ B') : KsR B' w cs s := h.keep hB (fun _ _ => rfl)
theorem open_arg_ks {H : Type} {enc : TypeId × Value → H} {W : World} {base : Nat} {v : Value} {d : DataW H} {p : List MemPlace} (hv : Value.okWide Try.prog W .any base 26 v) (h : DataW.Trod enc Try.prog W 0 (fun _ => true) true 26 v d p) (hlt : ∀ x ∈ p, x.block < W.heap.size) :
    ∃ (cs : List Value) (k c : Int) (b : Bool) (l : Int) (kids : Ks), v = .agg cs.toArray ∧ KsR W.heap.size W cs (.cons k c b l kids .nil) ∧ kids.tot + 1 ≤ Rows.uptoBulk d := by
  have hT : Try.prog.underlying 26 = some (.struct (fieldsOf Try.prog 26)) := by kernel_rfl
  obtain ⟨cs, rfl, hcs⟩ := okWide_struct hT hv
  obtain ⟨fuel, hf⟩ := h
  obtain ⟨k, c, b, l, kids, h2⟩ := open_term_ks fuel cs.toList (d, p) (by simpa [Value.cells] using hf) hlt
  exact ⟨cs.toList, k, c, b, l, kids, by simp, h2⟩
end Go.Proofs.Ytcoijmnnnfogdaa


namespace Go.Proofs.Ytcoijmnnnfogdaa
set_option linter.unusedVariables false
set_option linter.unusedSimpArgs false
set_option maxRecDepth 100000
open Go Go.RowKit

open Classical in
/-- those blocks alone -/
noncomputable def only (w : World) (S : Nat → Prop) : World := { w with heap := w.heap.mapIdx fun i o => if S i then o else .cells #[] 0 (0, 0) }
theorem only_size (w : World) (S : Nat → Prop) : (only w S).heap.size = w.heap.size := by simp [only]
theorem only_some {w : World} {S : Nat → Prop} {p : Addr} {v : Value} : (only w S).cell? p = some v ↔ S p.block ∧ w.cell? p = some v := by
  unfold World.cell? only
  simp only [Array.getElem?_mapIdx]
  rcases h : w.heap[p.block]? with _ | o
  · simp
  · by_cases hs : S p.block
    · simp [hs]
    · simp [hs]

section
variable {S S' : Nat → Prop} {w w' : World}
theorem only_up {r : Option Nat} (hg : w.grownBy w' r) (hS : ∀ g, g < w.heap.size → S g → S' g ∧ some g ≠ r) : ∀ (p : Addr) (v : Value), p.block < w.heap.size → (only w S).cell? p = some v → (only w' S').cell? p = some v := fun p v hp hv => by
  obtain ⟨h1, h2⟩ := only_some.1 hv
  obtain ⟨h3, h4⟩ := hS _ hp h1
  exact only_some.2 ⟨h3, (World.cell?_of_block (hg.block _ hp h4)).trans h2⟩
end
end Go.Proofs.Ytcoijmnnnfogdaa


namespace Go.Proofs.Ytcoijmnnnfogdaa
set_option linter.unusedVariables false
set_option linter.unusedSimpArgs false
set_option maxRecDepth 100000
open Go.RowKit

namespace Ks
def app : Ks → Ks → Ks
  | nil, s => s
  | cons k c b l kids rest, s => cons k c b l kids (rest.app s)
theorem app_nil : ∀ s : Ks, s.app nil = s
  | nil => rfl
  | cons k c b l kids rest => by rw [app, app_nil rest]
theorem app_assoc : ∀ a b c : Ks, (a.app b).app c = a.app (b.app c)
  | nil, _, _ => rfl
  | cons k c b l kids rest, _, _ => by simp [app, app_assoc rest]
theorem app_len : ∀ a b : Ks, (a.app b).len = a.len + b.len
  | nil, b => by simp [app, len]
  | cons _ _ _ _ _ rest, b => by simp [app, len, app_len rest]; omega
theorem app_tot : ∀ a b : Ks, (a.app b).tot = a.tot + b.tot
  | nil, b => by simp [app, tot]
  | cons _ _ _ _ _ rest, b => by simp [app, tot, app_tot rest]; omega
theorem calm_app (x : Int) : ∀ a b : Ks, calm x (a.app b) = (calm x a).app (calm x b)
  | nil, _ => rfl
  | cons _ _ _ _ _ rest, b => by simp [app, calm, calm_app x rest]
theorem len_zero : ∀ {s : Ks}, s.len = 0 → s = nil
  | nil, _ => rfl
  | cons _ _ _ _ _ _, h => by simp [len] at h
end Ks

section
variable {B B' lo lo' : Nat} {w w' : World} {cs cs' : List Value} {s s' : Ks}
theorem KsR.mono (h : KsR B w cs s) (hB : B ≤ B') (hk : ∀ (p : Addr) (v : Value), p.block < B → w.cell? p = some v → w'.cell? p = some v) : KsR B' w' cs s := by
  induction h with
  | nil => exact .nil
  | cons k c b l A cap ds cs kids rest h1 h2 h3 h4 h5 ih1 ih2 =>
    refine .cons k c b l A cap ds cs kids rest h1 h2 ?_ ih1 ih2
    obtain ⟨g, o, h6, h7⟩ := h3
    refine ⟨g, o, fun hne => ⟨(h6 hne).1, Nat.lt_of_lt_of_le (h6 hne).2 hB⟩, fun j u hu => ?_⟩
    have hne : ds ≠ [] := fun e => by rw [e] at hu; simp at hu
    exact hk ⟨g, o + j, none⟩ u (h6 hne).2 (h7 j u hu)
theorem KsR.app (h : KsR B w cs s) (h' : KsR B w cs' s') : KsR B w (cs ++ cs') (s.app s') := by
  induction h with
  | nil => exact h'
  | cons k c b l A cap ds cs kids rest h1 h2 h3 h4 h5 ih1 ih2 =>
    rw [List.append_assoc]
    exact .cons k c b l A cap ds _ kids _ h1 h2 h3 h4 ih2
theorem KsR.one (h : KsR B w cs s) : ∀ u ∈ cs, u.oneCell' = true := by
  induction h with
  | nil => intro u hu; cases hu
  | cons k c b l A cap ds cs kids rest h1 h2 h3 h4 h5 ih1 ih2 =>
    intro u hu
    rcases List.mem_append.1 hu with h | h
    · simp only [tcells, List.mem_cons, List.not_mem_nil, or_false] at h
      rcases h with rfl | rfl | rfl | rfl | rfl <;> rfl
    · exact ih2 u h
/-- the first of them, and what is behind it -/
theorem KsR.head {k c : Int} {b : Bool} {l : Int} {kids rest : Ks} (h : KsR B w cs (.cons k c b l kids rest)) : ∃ A cap ds, cs = tcells k c b l A kids.len cap ++ ds ∧ kids.len ≤ cap ∧ cap ≤ maxLen ∧ KsR B w (tcells k c b l A kids.len cap) (.cons k c b l kids .nil) ∧ KsR B w ds rest := by
  cases h with
  | cons _ _ _ _ A cap ds cs _ _ h1 h2 h3 h4 h5 => exact ⟨A, cap, cs, rfl, h1, h2, by have := KsR.cons (B := B) (w := w) k c b l A cap ds [] kids .nil h1 h2 h3 h4 .nil; rwa [List.append_nil] at this, h5⟩

/-- read, in the blocks from lo on alone -/
def KN (lo : Nat) (w : World) (cs : List Value) (s : Ks) : Prop := KsR w.heap.size (only w fun g => lo ≤ g) cs s
theorem KN.nil : KN lo w [] .nil := KsR.nil
theorem KN.read (h : KN lo w cs s) : KsR w.heap.size w cs s := KsR.mono h (Nat.le_refl _) fun p v _ hv => (only_some.1 hv).2
theorem KN.low (h : KN lo w cs s) (hl : lo' ≤ lo) : KN lo' w cs s := KsR.mono h (Nat.le_refl _) fun p v _ hv => only_some.2 ⟨Nat.le_trans hl (only_some.1 hv).1, (only_some.1 hv).2⟩
theorem KN.below (h : KN lo w cs s) (hb : Below w.heap.size w w') : KN lo w' cs s := KsR.mono h hb.size fun p v hp hv => only_some.2 ⟨(only_some.1 hv).1, (hb.cell hp).trans (only_some.1 hv).2⟩
theorem KN.grown {g : Nat} (h : KN lo w cs s) (hg : w.grownBy w' (some g)) (hl : g < lo) : KN lo w' cs s := KsR.mono h hg.size (only_up hg fun i _ hi => ⟨hi, fun e => by injection e; omega⟩)
theorem KN.app (h : KN lo w cs s) (h' : KN lo w cs' s') : KN lo w (cs ++ cs') (s.app s') := KsR.app h h'
theorem KN.len (h : KN lo w cs s) : cs.length = s.len * 5 := KsR.length h
/-- a term whose kids lie in a row of the call's own -/
theorem KN.term {e : TypeId} {A : Option Addr} {cap : Nat} {k c : Int} {b : Bool} {l : Int} {kids : Ks} {ds : List Value} (hr : w.ownsRow lo e 5 (.slice A kids.len cap) kids.len ds) (h : KN lo w ds kids) : KN lo w (tcells k c b l A kids.len cap) (.cons k c b l kids .nil) := by
  obtain ⟨A', c', he, h1, h2⟩ := own_slice hr
  injection he with e1 e2 e3
  subst e1 e3
  have hC : Cells (only w fun g => lo ≤ g) w.heap.size A ds := by
    obtain ⟨g, o, h3, h4⟩ := Cells.of_own hr
    refine ⟨g, o, h3, fun j u hu => only_some.2 ⟨?_, h4 j u hu⟩⟩
    have hne : ds ≠ [] := fun e => by rw [e] at hu; simp at hu
    have := own_ge hr g (by rw [(h3 hne).1]; rfl)
    exact this
  have := KsR.cons (B := w.heap.size) (w := only w fun g => lo ≤ g) k c b l A cap ds [] kids .nil h1 h2 hC h .nil
  rw [List.append_nil] at this
  exact this
end

def FKN (lo : Nat) (s : Ks) : Fact (fun w w' => Below w.heap.size w w') := ⟨fun v w => ∃ cs, v = .agg cs.toArray ∧ KN lo w cs s, fun v w w' h k => by
  obtain ⟨cs, h1, h2⟩ := h
  exact ⟨cs, h1, h2.below k⟩⟩
end Go.Proofs.Ytcoijmnnnfogdaa


namespace Go.Proofs.Ytcoijmnnnfogdaa
set_option linter.unusedVariables false
set_option linter.unusedSimpArgs false
set_option maxRecDepth 100000
open Go Go.RowKit

theorem part_get {α : Type} (l vs : List α) (off k : Nat) (h : off + k ≤ l.length) (hv : vs.length = k) (i : Nat) : (l.take off ++ vs ++ l.drop (off + k))[i]? = if i < off then l[i]? else if i < off + k then vs[i - off]? else l[i]? := by
  have l1 : (l.take off).length = off := by simp; omega
  have l2 : (l.take off ++ vs).length = off + k := by simp [hv]; omega
  by_cases h1 : i < off
  · rw [if_pos h1, List.getElem?_append_left (by omega), List.getElem?_append_left (by omega), List.getElem?_take_of_lt h1]
  · rw [if_neg h1]
    by_cases h2 : i < off + k
    · rw [if_pos h2, List.getElem?_append_left (by omega), List.getElem?_append_right (by omega), l1]
    · rw [if_neg h2, List.getElem?_append_right (by omega), l2, List.getElem?_drop]
      congr 1; omega

section
variable {P : Go.Program} {w w' : World} {base : Nat} {e : TypeId} {size g n c : Nat} {xs : List Value} {ops : Array Oper} {rest : List Oper} {o : Oper} {a : Act} {Q : Exit → Act → World → Prop}
theorem row_blk (h : w.ownsRow base e size (.slice (some ⟨g, 0, none⟩) n c) n xs) : ∃ cs, Blk w g e cs ∧ cs.length = c * size ∧ cs.take (n * size) = xs ∧ n ≤ c ∧ c ≤ maxLen ∧ base ≤ g := by
  rcases h.2 with ⟨h', _⟩ | ⟨g1, cap, cur, he, hb, hh, hle, hm, hs, ht⟩
  · cases h'
  · cases he
    exact ⟨cur.toList, hh, by simpa using hs, ht, hle, hm, hb⟩
theorem row_of_blk {cs : List Value} (h : Blk w g e cs) (hl : cs.length = c * size) (hb : base ≤ g) (hn : n ≤ c) (hm : c ≤ maxLen) : w.ownsRow base e size (.slice (some ⟨g, 0, none⟩) n c) n (cs.take (n * size)) :=
  ⟨by rw [List.length_take, hl]; exact Nat.min_eq_left (Nat.mul_le_mul_right _ hn), .inr ⟨g, c, cs.toArray, rfl, hb, h, hn, hm, by simpa using hl, by simp⟩⟩

theorem wpl_set_row (h : w.ownsRow base e size (.slice (some ⟨g, 0, none⟩) n c) n xs) (i : Nat) (u : Value) {ty : TypeId} (hi : (P.info? ty).map (·.size) = some 1) (hk : i < n * size) (hu : u.cells = #[u]) (h1 : u.oneCell' = true)
    (hgd : Region.wanted o (yielded ops a.tmps) = true) {x y : Operand} (ho : o.op = .store ty x y) (hx : a.eval x = .pointer (some ⟨g, i, none⟩)) (hy : a.eval y = u)
    (hK : ∀ w', w'.ownsRow base e size (.slice (some ⟨g, 0, none⟩) n c) n (xs.set i u) → w.grownBy w' (some g) → wpList P ops Q rest (a.put o.dst undef) w') : wpList P ops Q (o :: rest) a w := by
  obtain ⟨cs, hB, hl, rfl, hn, hm, hb⟩ := row_blk h
  have hcn := Nat.mul_le_mul_right size hn
  refine wpl_set_blk hB i u hi (by omega) hu h1 hgd ho hx hy fun w' hB' hg => hK w' ?_ hg
  have := row_of_blk (size := size) (c := c) (n := n) hB' (by simpa using hl) hb hn hm
  rw [List.take_set] at this
  exact this
/-- a store of some of its cells -/
theorem wpl_put_row (h : w.ownsRow base e size (.slice (some ⟨g, 0, none⟩) n c) n xs) (off k : Nat) (vs : List Value) {ty : TypeId} (hi : (P.info? ty).map (·.size) = some k) (hv : vs.length = k) (hk : off + k ≤ n * size) (h1 : ∀ v ∈ vs, v.oneCell' = true)
    (hgd : Region.wanted o (yielded ops a.tmps) = true) {x y : Operand} (ho : o.op = .store ty x y) (hx : a.eval x = .pointer (some ⟨g, off, none⟩)) (hy : a.eval y = .agg vs.toArray)
    (hK : ∀ w', w'.ownsRow base e size (.slice (some ⟨g, 0, none⟩) n c) n (xs.take off ++ vs ++ xs.drop (off + k)) → w.grownBy w' (some g) → wpList P ops Q rest (a.put o.dst undef) w') : wpList P ops Q (o :: rest) a w := by
  obtain ⟨cs, hB, hl, rfl, hn, hm, hb⟩ := row_blk h
  have hcn := Nat.mul_le_mul_right size hn
  refine wpl_store_blk hB ty off k vs hi hv (by omega) h1 hgd ho hx hy fun w' hB' hg => hK w' ?_ hg
  have := row_of_blk (size := size) (c := c) (n := n) hB' (by simp [hl, hv]; omega) hb hn hm
  have e : (cs.take off ++ vs ++ cs.drop (off + k)).take (n * size) = (cs.take (n * size)).take off ++ vs ++ (cs.take (n * size)).drop (off + k) := by
    apply List.ext_getElem?
    intro i
    have hl2 : (cs.take (n * size)).length = n * size := by rw [List.length_take]; omega
    rw [List.getElem?_take, part_get _ _ _ _ (by omega) hv, part_get _ _ _ _ (by omega) hv, List.getElem?_take]
    by_cases hi : i < n * size
    · rw [if_pos hi, if_pos hi]
    · rw [if_neg hi, if_neg hi, if_neg (by omega), if_neg (by omega)]
  rw [← e]
  exact this
end
end Go.Proofs.Ytcoijmnnnfogdaa


namespace Go.Proofs.Ytcoijmnnnfogdaa
set_option linter.unusedVariables false
set_option linter.unusedSimpArgs false
set_option maxRecDepth 100000
open Go

section
variable {P : Program} {ops : Array Oper} {Q : Exit → Act → World → Prop} {S : World → Prop} {E : World → World → Prop}

theorem wpAny_seq_more {md : Region.Mode} (x : Nat) : ∀ (l : List Oper) (k : Nat) (listed : Array Bool) (a : Act) (w : World), (∀ j, l[j]? = ops[k + j]?) →
    Region.seqB md ops l.length k listed = true → wpList P ops Q l a w → wpAny P md ops Q (l.length + x) listed a w
  | [], _, listed, _, _, _, hB, h => by
    have hr : Region.ready md ops listed = [] := by simpa [Region.seqB] using hB
    rcases x with _ | x
    · exact ⟨hr, h⟩
    · rw [show ([] : List Oper).length + (x + 1) = x + 1 by simp]
      exact ⟨fun _ => h, fun i hi => by rw [hr] at hi; cases hi⟩
  | o :: l, k, listed, a, w, hl, hB, h => by
    have h0 : ops[k]? = some o := by simpa using (hl 0).symm
    simp only [List.length_cons, Region.seqB, Bool.and_eq_true, decide_eq_true_eq] at hB
    rw [show (o :: l).length + x = (l.length + x) + 1 by simp only [List.length_cons]; omega]
    refine ⟨fun h1 => (by rw [hB.1] at h1; cases h1), fun i hi => ?_⟩
    rw [hB.1] at hi
    have hik : i = k := by simpa using hi
    subst hik
    have hw : wpOp P ops Q i (wpList P ops Q l) a w := by unfold wpOp; simp only [h0]; exact h
    exact wpOp_mono (fun a' w' h' => wpAny_seq_more x l (i + 1) _ a' w' (fun j => by have := hl (j + 1); simpa [Nat.add_assoc, Nat.add_comm 1 j] using this) hB.2 h') hw

/-- of the first n operations: the order of the text is one, and what is not apart waits -/
def linearNB (ops : Array Oper) (n : Nat) : Bool :=
  Region.noSelect ops && (List.range n).all fun j =>
    match ops[j]? with
    | none => true
    | some oj => oj.after.all (fun e => !Region.binds .any e || decide (e.on < j)) && !((oj.dst.map fun d => (oj.looksAt ops).contains d).getD false) && (List.range j).all fun i =>
      match ops[i]? with
      | none => true
      | some oi => (oi.apart ops oj || oj.after.any (fun e => Region.binds .any e && e.on == i)) && (match oi.dst with | some d => oj.dst != some d | none => true)

structure LinearN (ops : Array Oper) (n : Nat) : Prop where
  sel : ∀ (j : Nat) (o : Oper) cs b, ops[j]? = some o → o.op ≠ .select cs b
  back : ∀ (j : Nat) (o : Oper), j < n → ops[j]? = some o → ∀ e ∈ o.after, Region.binds .any e = true → e.on < j
  self : ∀ (j : Nat) (o : Oper) d, j < n → ops[j]? = some o → o.dst = some d → d ∉ o.looksAt ops
  wait : ∀ (i j : Nat) (oi oj : Oper), i < j → j < n → ops[i]? = some oi → ops[j]? = some oj → oi.apart ops oj = true ∨ ∃ e ∈ oj.after, Region.binds .any e = true ∧ e.on = i
  dist : ∀ (i j : Nat) (oi oj : Oper) d, i < j → j < n → ops[i]? = some oi → ops[j]? = some oj → oi.dst = some d → oj.dst ≠ some d

theorem linearN_of {n : Nat} (h : linearNB ops n = true) : LinearN ops n := by
  unfold linearNB at h
  rw [Bool.and_eq_true, List.all_eq_true] at h
  obtain ⟨h0, h⟩ := h
  have key : ∀ (j : Nat) (oj : Oper), j < n → ops[j]? = some oj → _ := fun j oj hjn hj => by
    have := h j (List.mem_range.2 hjn)
    rw [hj] at this
    simp only [Bool.and_eq_true] at this
    exact this
  refine ⟨Region.noSelect_spec h0, fun j o hjn ho e he hb => ?_, fun j o d hjn ho hd hmem => ?_, fun i j oi oj hij hjn hi hj => ?_, fun i j oi oj d hij hjn hi hj hd => ?_⟩
  · have := (key j o hjn ho).1.1
    rw [Array.all_eq_true_iff_forall_mem] at this
    have := this e he
    simpa [hb] using this
  · have := (key j o hjn ho).1.2
    rw [hd] at this
    simp [hmem] at this
  · have := (List.all_eq_true.1 (key j oj hjn hj).2) i (List.mem_range.2 hij)
    rw [hi] at this
    simp only [Bool.and_eq_true, Bool.or_eq_true] at this
    rcases this.1 with h | h
    · exact .inl h
    · obtain ⟨n, hn, hb⟩ := Array.any_eq_true.1 h
      simp only [Bool.and_eq_true, beq_iff_eq] at hb
      exact .inr ⟨_, Array.getElem_mem hn, hb.1, hb.2⟩
  · have := (List.all_eq_true.1 (key j oj hjn hj).2) i (List.mem_range.2 hij)
    rw [hi] at this
    simp only [Bool.and_eq_true] at this
    have h2 := this.2
    rw [hd] at h2
    simpa using h2

theorem getD_ext {x y : Array Bool} (hs : x.size = y.size) (h : ∀ i, x.getD i false = y.getD i false) : x = y := by
  apply Array.ext hs
  intro i h1 h2
  have := h i
  simpa [h1, h2] using this

theorem any_order_tail {a0 : Act} {full : List (Oper × Kind E)} {n : Nat} (hn : n < ops.size) (hops : full.map (·.1) = ops.toList.take n) (hlin : LinearN ops n) (hsk : Region.sinkB .any ops n = true) (hch : Region.chainB .any ops n = true)
    (hsq : ∀ listed : Array Bool, listed.size = ops.size → (∀ i, i < n → listed.getD i false = true) → (∀ i, n ≤ i → listed.getD i false = false) → Region.seqB .any ops (ops.size - n) n listed = true) (hp : Plan P ops S a0 full)
    (hZ : ∀ ρ w, S w → (∀ t F, (t, F) ∈ factsOf full → F.holds (ρ t) w) → wpList P ops Q (ops.toList.drop n) (actOf a0 ρ full) w) :
    ∀ (fuel : Nat) (listed : Array Bool) (a : Act) (w : World) (ρ : Env), HeadInv .any ops n listed →
      (∃ todo : List Nat, todo.length ≤ fuel ∧ ∀ i, i < n → listed.getD i false = false → i ∈ todo) →
      Holds a0 full (fun i => listed.getD i false = true) ρ a → S w → (∀ (i : Nat) (p : Oper × Kind E) (F : Fact E) (d : Tmp), listed.getD i false = true → full[i]? = some p → p.2 = .fresh F → p.1.dst = some d → F.holds (ρ d) w) →
      wpAny P .any ops Q (fuel + (ops.size - n)) listed a w := by
  have hget : ∀ (i : Nat) (p : Oper × Kind E), full[i]? = some p → ops[i]? = some p.1 := fun i p h => by
    have : (full.map (·.1))[i]? = some p.1 := by simp [h]
    rw [hops, List.getElem?_take] at this
    split at this
    · simpa using this
    · cases this
  have hlen : full.length = n := by
    have := congrArg List.length hops
    simp only [List.length_map, List.length_take, Array.length_toList] at this
    omega
  have hget' : ∀ (i : Nat) (o : Oper), i < n → ops[i]? = some o → ∃ p : Oper × Kind E, full[i]? = some p ∧ p.1 = o := fun i o hin h => by
    have hi : i < full.length := by rw [hlen]; exact hin
    have h1 := hget i _ (List.getElem?_eq_getElem hi)
    rw [h] at h1
    injection h1 with h1
    exact ⟨_, List.getElem?_eq_getElem hi, h1.symm⟩
  have hdist : ∀ (i j : Nat) (p q : Oper × Kind E) (d : Tmp), i < j → full[i]? = some p → full[j]? = some q → p.1.dst = some d → q.1.dst ≠ some d := fun i j p q d hij h1 h2 => hlin.dist i j _ _ d hij (by have := (List.getElem?_eq_some_iff.1 h2).1; omega) (hget i p h1) (hget j q h2)
  have hdist2 : ∀ (i j : Nat) (p q : Oper × Kind E) (d : Tmp), i ≠ j → full[i]? = some p → full[j]? = some q → p.1.dst = some d → q.1.dst ≠ some d := fun i j p q d hij h1 h2 hd hd' => by
    rcases Nat.lt_or_gt_of_ne hij with h | h
    · exact hdist i j p q d h h1 h2 hd hd'
    · exact hdist j i q p d h h2 h1 hd' hd
  -- all have come up
  have fin : ∀ (fuel : Nat) (listed : Array Bool) (a : Act) (w : World) (ρ : Env), HeadInv .any ops n listed → (∀ i, i < n → listed.getD i false = true) → Holds a0 full (fun i => listed.getD i false = true) ρ a → S w →
      (∀ (i : Nat) (p : Oper × Kind E) (F : Fact E) (d : Tmp), listed.getD i false = true → full[i]? = some p → p.2 = .fresh F → p.1.dst = some d → F.holds (ρ d) w) → wpAny P .any ops Q (fuel + (ops.size - n)) listed a w := fun fuel listed a w ρ inv hall hH hS hF => by
    have h1 : Holds a0 full (fun i => i < full.length) ρ (actOf a0 ρ full) := by
      have := holds_prefix a0 full ρ hdist full.length (Nat.le_refl _)
      rwa [List.take_length] at this
    have h2 : Holds a0 full (fun i => i < full.length) ρ a :=
      ⟨hH.defers, hH.size, fun t ht => hH.far t fun i p hi hp => ht i p (List.getElem?_eq_some_iff.1 hp).1 hp, fun i p t hi => hH.near i p t (hall i (by omega))⟩
    rw [h2.unique h1]
    have hz := hZ ρ w hS fun t F hm => by
      rcases mem_facts hm with h | ⟨i, p, h1, h2, h3⟩
      · cases h
      · exact hF i p F t (hall i (by have := (List.getElem?_eq_some_iff.1 h1).1; omega)) h1 h2 h3
    have hdl : (ops.toList.drop n).length = ops.size - n := by simp
    have hs := hsq listed inv.size hall (fun i hi => by
      rcases Nat.lt_or_ge i ops.size with h | h
      · exact getD_both (inv.tail i hi h)
      · simp [Array.getD, inv.size, Nat.not_lt.2 h])
    have := wpAny_seq_more fuel (ops.toList.drop n) n listed (actOf a0 ρ full) w (fun j => by simp [List.getElem?_drop]) (by rw [hdl]; exact hs) hz
    rwa [hdl, Nat.add_comm] at this
  have none_left : ∀ listed : Array Bool, HeadInv .any ops n listed → Region.ready .any ops listed = [] → ∀ m i, i < m → i < n → listed.getD i false = true := by
    intro listed inv hr m
    induction m with
    | zero => intro i h; omega
    | succ m ih =>
      intro i hi hin
      cases hli : listed.getD i false with
      | true => rfl
      | false =>
        have hlt : i < ops.size := by omega
        have ho : ops[i]? = some ops[i] := Array.getElem?_eq_getElem hlt
        have hmem : i ∈ Region.ready .any ops listed := by
          rw [mem_ready]
          refine ⟨?_, _, ho, fun e he hb => ?_⟩
          · simp only [Array.getD, inv.size, hlt, dif_pos] at hli ⊢
            exact hli
          · have := hlin.back i _ hin ho e he hb
            exact ih e.on (by omega) (by omega)
        rw [hr] at hmem
        cases hmem
  have some_left : ∀ listed : Array Bool, (∀ i, i < n → listed.getD i false = true) ∨ ∃ i, i < n ∧ listed.getD i false = false := fun listed => by
    by_cases h : ∃ i, i < n ∧ listed.getD i false = false
    · exact .inr h
    · exact .inl fun i hi => by
        cases hl : listed.getD i false with
        | true => rfl
        | false => exact (h ⟨i, hi, hl⟩).elim
  intro fuel
  induction fuel with
  | zero =>
    intro listed a w ρ inv ⟨todo, htodo, hin⟩ hH hS hF
    have hall : ∀ i, i < n → listed.getD i false = true := fun i hi => by
      cases hli : listed.getD i false with
      | true => rfl
      | false =>
        have := hin i hi hli
        rw [List.eq_nil_of_length_eq_zero (Nat.le_zero.1 htodo)] at this
        cases this
    exact fin 0 listed a w ρ inv hall hH hS hF
  | succ fuel ih =>
    intro listed a w ρ inv ⟨todo, htodo, hin⟩ hH hS hF
    rcases some_left listed with hall | ⟨i0, hi0, hl0⟩
    · exact fin (fuel + 1) listed a w ρ inv hall hH hS hF
    have hsz := inv.size
    rw [show fuel + 1 + (ops.size - n) = (fuel + (ops.size - n)) + 1 by omega]
    refine ⟨fun hr => ?_, fun i hi => ?_⟩
    · have := none_left listed inv hr (i0 + 1) i0 (by omega) hi0
      rw [hl0] at this
      cases this
    have hilt : i < n := by
      rcases Nat.lt_or_ge i n with h | h
      · exact h
      · exact absurd hi (tail_waits hsk hch hn inv _ i0 rfl hi0 (getD_in (by omega) hl0) i h)
    obtain ⟨h0, o, ho, hall⟩ := mem_ready.1 hi
    have hlt := (Array.getElem?_eq_some_iff.1 ho).1
    have h0' : listed.getD i false = false := by
      simp only [Array.getD, hsz, hlt, dif_pos] at h0 ⊢
      exact h0
    obtain ⟨p, hpi, rfl⟩ := hget' i o hilt ho
    have hil : i < full.length := by omega
    have hpre : Holds a0 full (fun j => j < i) ρ (actOf a0 ρ (full.take i)) := holds_prefix a0 full ρ hdist i (by omega)
    have hsplit : full = full.take i ++ p :: full.drop (i + 1) := by
      have : full[i] = p := by have := List.getElem?_eq_getElem hil; rw [hpi] at this; injection this with this; exact this.symm
      rw [← this, List.getElem_cons_drop, List.take_append_drop]
    have hstep := hp.step _ p _ hsplit ρ w hS
    have conf : ∀ (j : Nat) (q : Oper × Kind E), full[j]? = some q → ∀ t, q.1.dst = some t → t ∈ p.1.looksAt ops → (listed.getD j false = true ↔ j < i) := by
      intro j q hq t hd hl
      have hoj := hget j q hq
      have hjn : j < n := by have := (List.getElem?_eq_some_iff.1 hq).1; omega
      rcases Nat.lt_trichotomy j i with h | h | h
      · refine ⟨fun _ => h, fun _ => ?_⟩
        rcases hlin.wait j i _ _ h hilt hoj ho with hap | ⟨e, he, hb, hon⟩
        · exact absurd hl ((Oper.apart_spec hap).1 t hd)
        · rw [← hon]; exact hall e he hb
      · subst h
        rw [hpi] at hq
        injection hq with hq
        subst hq
        exact absurd hl (hlin.self j _ t hilt ho hd)
      · refine ⟨fun hj => ?_, fun h' => by omega⟩
        exfalso
        rcases hlin.wait i j _ _ h hjn ho hoj with hap | ⟨e, he, hb, hon⟩
        · exact absurd hl ((Oper.apart_spec hap).2.2 t hd)
        · have := inv.closed j _ hoj hj e he hb
          rw [hon, h0'] at this
          cases this
    have hfacts : FactsOK (p.1.looksAt ops) ρ w (factsOf (full.take i)) := factsOK_of _ fun t F hm hl => by
      rcases mem_facts hm with h | ⟨j, q, h1, h2, h3⟩
      · cases h
      · have hji : j < i := by
          have := (List.getElem?_eq_some_iff.1 h1).1
          rw [List.length_take] at this
          omega
        have hq : full[j]? = some q := by
          rw [List.getElem?_take, if_pos hji] at h1
          exact h1
        exact hF j q F t ((conf j q hq t h3 (by simpa using hl)).2 hji) hq h2 h3
    have hst := hstep hfacts
    have hag : ∀ t, t ∈ p.1.looksAt ops → a.tmps[t]? = (actOf a0 ρ (full.take i)).tmps[t]? := fun t ht =>
      hH.agree hpre t fun j q hq hd => conf j q hq t hd ht
    have hexec : execOp a.eval p.1 = execOp (actOf a0 ρ (full.take i)).eval p.1 := execOp_congr p.1 (fun cs b => hlin.sel i _ cs b ho) fun x hx => by
      cases x with
      | tmp t =>
        have := hag t (List.mem_append_left _ (List.mem_filterMap.2 ⟨.tmp t, by simpa using hx, rfl⟩))
        simp only [Act.eval, Array.getD_eq_getD_getElem?]
        rw [this]
      | _ => rfl
    have hwant : Region.wanted p.1 (yielded ops a.tmps) = Region.wanted p.1 (yielded ops (actOf a0 ρ (full.take i)).tmps) := by
      unfold Region.wanted
      cases hg : p.1.guard with
      | none => rfl
      | some gw =>
        obtain ⟨g, want⟩ := gw
        have : yielded ops a.tmps g = yielded ops (actOf a0 ρ (full.take i)).tmps g := by
          unfold yielded
          cases ht : (ops[g]?).bind (·.dst) with
          | none => rfl
          | some t =>
            have := hag t (List.mem_append_right _ (by simp [hg, ht]))
            simp only [Option.bind_some, this]
        simp only [this]
    have size_eq : (actOf a0 ρ (full.take i)).tmps.size = a.tmps.size := hpre.size.trans hH.size.symm
    -- the way on
    have go : ∀ v w', p.2.rel v w' → S w' → (∀ (j : Nat) (q : Oper × Kind E) (F : Fact E) (d : Tmp), listed.getD j false = true → full[j]? = some q → q.2 = .fresh F → q.1.dst = some d → F.holds (ρ d) w') →
        wpAny P .any ops Q (fuel + (ops.size - n)) (listed.setIfInBounds i true) (a.put p.1.dst v) w' := by
      intro v w' hR hS' hF'
      have next : ∀ ρ' : Env, p.2.val ρ' p.1 = v → (∀ j q, j ≠ i → full[j]? = some q → q.2.val ρ' q.1 = q.2.val ρ q.1) → (∀ j q F d, j ≠ i → full[j]? = some q → q.2 = .fresh F → q.1.dst = some d → ρ' d = ρ d) → (∀ F d, p.2 = .fresh F → p.1.dst = some d → F.holds (ρ' d) w') →
          wpAny P .any ops Q (fuel + (ops.size - n)) (listed.setIfInBounds i true) (a.put p.1.dst v) w' := by
        intro ρ' hv hothers hd' hself
        have hset : ∀ j, (listed.setIfInBounds i true).getD j false = true ↔ j = i ∨ listed.getD j false = true := fun j => by
          by_cases hji : j = i
          · subst hji
            simp [Array.getD, hsz, hlt]
          · rw [getD_set_ne false (Ne.symm hji)]
            simp [hji]
        refine ih _ _ _ ρ' (inv.set hi hilt) ⟨todo.filter (· != i), ?_, fun j hj hjl => ?_⟩ ?_ hS' (fun j q F d hj hq hf hd => ?_)
        · have : (todo.filter (· != i)).length < todo.length := by
            rw [List.length_filter_lt_length_iff_exists]
            exact ⟨i, hin i hilt h0', by simp⟩
          omega
        · have hne : j ≠ i := fun e => by
            have := (hset j).2 (.inl e)
            rw [this] at hjl
            cases hjl
          refine List.mem_filter.2 ⟨hin j hj ?_, by simpa using hne⟩
          rwa [getD_set_ne false (Ne.symm hne)] at hjl
        · have := hH.put (ρ' := ρ') hpi hset (fun j q hj hq d hd => hdist2 j i q p d (fun e => by rw [e, h0'] at hj; cases hj) hq hpi hd) (fun j q hj hq => hothers j q (fun e => by rw [e, h0'] at hj; cases hj) hq)
          rwa [hv] at this
        · rcases (hset j).1 hj with rfl | hj
          · rw [hpi] at hq
            injection hq with hq
            subst hq
            exact hself F d hf hd
          · have hne : j ≠ i := fun e => by rw [e, h0'] at hj; cases hj
            rw [hd' j q F d hne hq hf hd]
            exact hF' j q F d hj hq hf hd
      cases hk : p.2 with
      | fixed v0 =>
        have hv : v = v0 := by rw [hk] at hR; exact hR
        exact next ρ (by rw [hk]; exact hv.symm) (fun _ _ _ _ => rfl) (fun _ _ _ _ _ _ _ _ => rfl) (fun F d hf => by rw [hk] at hf; cases hf)
      | fresh F =>
        obtain ⟨d, hd⟩ := hp.dst p (by rw [hsplit]; simp) ⟨F, hk⟩
        have hR' : F.holds v w' := by rw [hk] at hR; exact hR
        have hne : ∀ j q d', j ≠ i → full[j]? = some q → q.1.dst = some d' → d' ≠ d := fun j q d' hji hq hd' e => hdist2 j i q p d' hji hq hpi hd' (by rw [hd, e])
        refine next (fun t => if t = d then v else ρ t) (by rw [hk]; simp [Kind.val, hd]) (fun j q hji hq => ?_) (fun j q F' d' hji hq _ hd' => if_neg (hne j q d' hji hq hd')) (fun F' d' hf hd' => ?_)
        · cases hkq : q.2 with
          | fixed v0 => rfl
          | fresh F' =>
            obtain ⟨d', hd'⟩ := hp.dst q (List.mem_of_getElem? hq) ⟨F', hkq⟩
            simp only [Kind.val, hd']
            exact if_neg (hne j q d' hji hq hd')
        · rw [hk] at hf
          injection hf with hf
          rw [hd] at hd'
          injection hd' with hd'
          subst hf hd'
          simpa using hR'
    unfold wpOp
    simp only [ho]
    unfold StepTo at hst
    rw [← hwant] at hst
    split
    · rename_i hw
      rw [if_pos hw] at hst
      refine .inl (wp_carry (R := fun v w' => p.2.rel v w' ∧ S w' ∧ E w w') hexec size_eq (hst _ fun v w' h1 h2 h3 => ⟨v, rfl, h1, h2, h3⟩) fun v w' ⟨h1, h2, h3⟩ => go v w' h1 h2 fun j q F d hj hq hf hd => F.keep _ _ _ (hF j q F d hj hq hf hd) h3)
    · rename_i hw
      rw [if_neg hw] at hst
      exact go undef w hst hS hF


/-- what is asked of the operations, n of them ahead of the tail -/
def tailB (ops : Array Oper) (n : Nat) : Bool :=
  decide (n < ops.size) && linearNB ops n && Region.sinkB .any ops n && Region.chainB .any ops n && Region.seqB .any ops (ops.size - n) n ((Array.replicate n true) ++ (Array.replicate (ops.size - n) false))

/-- THE RULE, with a tail -/
theorem wp_walk_tail {id : Nat} {a : Act} {w : World} {l : List Oper} (n : Nat) (hm : P.follows .mixedOrders = true) (hB : tailB l.toArray n = true) (E : World → World → Prop) (S : World → Prop) (hS : S w.drew)
    (h : Walk P l.toArray S E (fun A Fs => ∀ ρ w', S w' → (∀ t F, (t, F) ∈ Fs → F.holds (ρ t) w') → wpList P l.toArray Q (l.drop n) (A ρ) w') (l.take n) (fun _ => a) []) : (Code.region id l.toArray true).wp P Q a w := by
  simp only [tailB, Bool.and_eq_true, decide_eq_true_eq] at hB
  obtain ⟨⟨⟨⟨hn, hlin⟩, hs⟩, hc⟩, hq⟩ := hB
  obtain ⟨full, hp, he, hZ⟩ := settle_plan (l.take n) [] ⟨(fun _ h => by cases h), (fun pre p post he => by simp at he)⟩ h.out
  have inv0 : HeadInv .any l.toArray n (Array.replicate l.toArray.size false) :=
    ⟨by simp, fun j oj _ hl => (by rw [getD_replicate_false] at hl; cases hl), fun t _ ht => getD_in (by simpa using ht) (getD_replicate_false _ _)⟩
  have := any_order_tail (P := P) (Q := Q) hn (by simpa using he) (linearN_of hlin) hs hc (fun listed hsz h1 h2 => by
    have hn' := hn
    rw [show listed = (Array.replicate n true) ++ (Array.replicate (l.toArray.size - n) false) from getD_ext (by simp only [Array.size_append, Array.size_replicate]; omega) fun i => by
      rw [Array.getD_eq_getD_getElem? (xs := _ ++ _), Array.getElem?_append]
      rcases Nat.lt_or_ge i n with h | h
      · rw [h1 i h]
        simp [h]
      · rw [h2 i h]
        simp only [Array.size_replicate, Nat.not_lt.2 h, if_false, Array.getElem?_replicate]
        split <;> rfl]
    exact hq) hp hZ n _ a w.drew (fun _ => undef) inv0 ⟨List.range n, by simp, fun i hi _ => List.mem_range.2 hi⟩ ⟨rfl, rfl, fun _ _ => rfl, fun i p t hi => ?_⟩ hS fun i p F d hi => ?_
  · refine wp_region_any hm ?_
    rwa [show n + (l.toArray.size - n) = l.toArray.size by omega] at this
  · exfalso; rw [getD_replicate_false] at hi; cases hi
  · exfalso; rw [getD_replicate_false] at hi; cases hi

/-- all but the last one -/
theorem wp_walk_last {id : Nat} {a : Act} {w : World} {l : List Oper} (hm : P.follows .mixedOrders = true) (hB : tailB l.toArray (l.length - 1) = true) (E : World → World → Prop) (S : World → Prop) (hS : S w.drew)
    (h : Walk P l.toArray S E (fun A Fs => ∀ ρ w', S w' → (∀ t F, (t, F) ∈ Fs → F.holds (ρ t) w') → wpList P l.toArray Q (l.drop (l.length - 1)) (A ρ) w') (l.take (l.length - 1)) (fun _ => a) []) : (Code.region id l.toArray true).wp P Q a w :=
  wp_walk_tail (l.length - 1) hm hB E S hS h
end
end Go.Proofs.Ytcoijmnnnfogdaa


namespace Go.Proofs.Ytcoijmnnnfogdaa
set_option linter.unusedVariables false
set_option linter.unusedSimpArgs false
set_option maxRecDepth 100000
open Go.RowKit

theorem info_term5 : (Try.prog.info? 26).map (fun i => (i.zero, i.size, i.bytes)) = some (some (.agg #[.int .i64 0, .int .i64 0, .bool false, .int .i64 0, .slice none 0 0]), 5, 56) := by kernel_rfl
theorem clone_term5 (v : Value) (n : Nat) (xs : List Value) (w : World) (h : SlV w 5 v n xs) (h1 : ∀ u ∈ xs, u.oneCell' = true) (hr : n * 56 ≤ 140737488355328) :
    Calls Try.prog 17 #[v] w fun e w' => ∃ u, e = .returned u ∧ w'.ownsRow w.heap.size 26 5 u n xs ∧ Below w.heap.size w w' := by
  obtain ⟨A, c, rfl, hle, hm, hlen, hc⟩ := h
  unfold maxLen at hm
  have heq := fun (w : World) (A : Option Addr) (n c : Nat) => Lib.run_eql_slice_nil (P := Try.prog) w _ _ A n c 0 0 Try.underlying24
  rcases A with _ | a
  · have h0 : xs = [] := by
      rcases xs with _ | ⟨x, xs⟩
      · rfl
      · obtain ⟨b, o, h1, _⟩ := hc
        have := (h1 (by simp)).1
        cases this
    have hn : n = 0 := by subst h0; simp at hlen; omega
    subst h0
    subst hn
    go_enter Try.func17, Try.ntmps17
    go_wp2
    go_ret
    exact ⟨_, rfl, World.ownsRow_nil _ _ _ _, Below.refl _ _⟩
  · go_enter Try.func17, Try.ntmps17
    have hmade := World.ownsRow_made (e := 26) (size := 5) (base := w.heap.size) w #[] 0 (Nat.le_refl _) (Nat.zero_le _) rfl
    have hc' := hc.keep (w' := w.alloc (.cells #[] 26)) (Nat.le_refl _) (fun p hp => World.cell?_alloc_lt w _ p hp)
    have n63 : 0 + n ≤ maxLen := by unfold maxLen; omega
    have n47 : (0 + n) * 56 ≤ 140737488355328 := by omega
    go_wp2_with (at_builtin; refine wp_append _ _ _ _ _ _ _ _ _ Try.underlying24 info_term5 rfl (by decide) hmade hc' hlen h1 n63 n47 (by simp) rfl rfl rfl rfl ?_; intro v' w' hown _ _ hb)
    go_ret
    refine ⟨_, rfl, by simpa using hown, ((Below.refl _ _).alloc (Nat.le_refl _) _).trans hb⟩

def calmv (gc gf : Nat) : Value := .func (.func 16) #[] #[.pointer (some ⟨gc, 0, none⟩), .pointer (some ⟨gf, 0, none⟩)]
def CalmOK (x : Int) (k c : Int) (b : Bool) (l : Int) (kids : Ks) : Prop := ∀ (w : World) (cs : List Value) (gc gf : Nat), KsR w.heap.size w cs (.cons k c b l kids .nil) → w.cell? ⟨gc, 0, none⟩ = some (.int .i64 x) → w.cell? ⟨gf, 0, none⟩ = some (calmv gc gf) →
  Calls Try.prog 16 #[.agg cs.toArray, .pointer (some ⟨gc, 0, none⟩), .pointer (some ⟨gf, 0, none⟩)] w fun e w' => ∃ v, e = .returned v ∧ (FKN w.heap.size (Ks.calm x (.cons k c b l kids .nil))).holds v w' ∧ Below w.heap.size w w'

/-- the loop's state: the first pre are calm, in blocks behind the row's; the others as they were -/
def Half (x : Int) (w : World) (V : Option Addr) (cV : Nat) (G : Nat) (kids : Ks) (wr : World) (i : Nat) : Prop :=
  ∃ (pre post : Ks) (cs ds : List Value), kids = pre.app post ∧ pre.len = i ∧ wr.ownsRow w.heap.size 26 5 (.slice V kids.len cV) kids.len (cs ++ ds) ∧ KN (G + 1) wr cs (Ks.calm x pre) ∧ KsR w.heap.size wr ds post
theorem Half.step {x : Int} {w wr : World} {V : Option Addr} {cV G : Nat} {kids : Ks} {i : Nat} (h : Half x w V cV G kids wr i) (hi : i < kids.len) :
    ∃ (pre : Ks) (k c : Int) (b : Bool) (l : Int) (ks rest : Ks) (cs ds : List Value) (A : Option Addr) (cap : Nat), kids = pre.app (.cons k c b l ks rest) ∧ pre.len = i ∧ ks.tot < kids.tot ∧ wr.ownsRow w.heap.size 26 5 (.slice V kids.len cV) kids.len (cs ++ (tcells k c b l A ks.len cap ++ ds)) ∧ KN (G + 1) wr cs (Ks.calm x pre) ∧ KsR w.heap.size wr (tcells k c b l A ks.len cap) (.cons k c b l ks .nil) ∧ KsR w.heap.size wr ds rest := by
  obtain ⟨pre, post, cs, ds, h1, h2, h3, h4, h5⟩ := h
  match post with
  | .nil =>
    rw [h1, Ks.app_nil] at hi
    omega
  | .cons k c b l ks rest =>
    obtain ⟨A, cap, ds', rfl, -, -, h6, h7⟩ := h5.head
    refine ⟨pre, k, c, b, l, ks, rest, cs, ds', A, cap, h1, h2, ?_, h3, h4, h6, h7⟩
    rw [h1, Ks.app_tot, Ks.tot]
    omega

set_option maxHeartbeats 8000000 in
theorem calm_loop (x : Int) (w : World) (V : Option Addr) (cV G : Nat) (kids : Ks) (wr w5 w6 : World) (i : Nat) (pre : Ks) (k c : Int) (b : Bool) (l : Int) (ks rest : Ks) (cs ds cs' : List Value) (A : Option Addr) (cap : Nat)
    (h1 : kids = pre.app (.cons k c b l ks rest)) (h2 : pre.len = i) (h4 : KN (G + 1) wr cs (Ks.calm x pre)) (h7 : KsR w.heap.size wr ds rest) (hb : Below wr.heap.size wr w5) (hG : G < wr.heap.size) (hwG : w.heap.size ≤ G) (hw : w.heap.size ≤ wr.heap.size)
    (h9 : KN wr.heap.size w5 cs' (Ks.calm x (.cons k c b l ks .nil))) (hr : w6.ownsRow w.heap.size 26 5 (.slice V kids.len cV) kids.len (cs ++ (cs' ++ ds))) (hg : w5.grownBy w6 (some G)) : Half x w V cV G kids w6 (i + 1) := by
  refine ⟨pre.app (.cons k c b l ks .nil), rest, cs ++ cs', ds, by rw [h1, Ks.app_assoc]; rfl, by rw [Ks.app_len, h2]; rfl, by rwa [List.append_assoc], ?_, ?_⟩
  · rw [Ks.calm_app]
    exact ((h4.below hb).grown hg (by omega)).app ((h9.grown hg hG).low hG)
  · exact (h7.later (hb.mono hw)).mono (Nat.le_refl _) fun p v hp hv => (World.cell?_of_block (hg.block _ (by have := hb.size; omega) (fun e => by injection e; omega))).trans hv

theorem KN.form1 {lo : Nat} {w : World} {cs : List Value} {k c : Int} {b : Bool} {l : Int} {kids : Ks} (h : KN lo w cs (.cons k c b l kids .nil)) : ∃ A cap, cs = tcells k c b l A kids.len cap := by
  obtain ⟨A, cap, ds, rfl, -, -, -, h2⟩ := KsR.head h
  cases h2
  exact ⟨A, cap, by simp⟩
theorem put_mid {cs ds cs' : List Value} {A : Option Addr} {k c : Int} {b : Bool} {l : Int} {n cap m : Nat} (hl : cs.length = m) (h5 : cs'.length = 5) : (cs ++ (tcells k c b l A n cap ++ ds)).take m ++ cs' ++ (cs ++ (tcells k c b l A n cap ++ ds)).drop (m + 5) = cs ++ (cs' ++ ds) := by
  subst hl
  rw [List.take_left, List.append_assoc]
  congr 2
  rw [List.drop_append, List.drop_eq_nil_of_le (by omega), List.nil_append, show cs.length + 5 - cs.length = (tcells k c b l A n cap).length by simp [tcells], List.drop_left]
theorem half_cells {w : World} {B G n c m : Nat} {e : TypeId} {cs ds : List Value} {A : Option Addr} {k c1 : Int} {b : Bool} {l : Int} {nn cap : Nat} (hr : w.ownsRow B e 5 (.slice (some ⟨G, 0, none⟩) n c) n (cs ++ (tcells k c1 b l A nn cap ++ ds))) (hl : cs.length = m) :
    w.cell? ⟨G, m, none⟩ = some (.int .i64 k) ∧ w.cell? ⟨G, m + 1, none⟩ = some (.int .i64 c1) ∧ w.cell? ⟨G, m + 2, none⟩ = some (.bool b) ∧ w.cell? ⟨G, m + 3, none⟩ = some (.int .i64 l) ∧ w.cell? ⟨G, m + 4, none⟩ = some (.slice A nn cap) := by
  subst hl
  obtain ⟨g, o, h1, h2⟩ := Cells.of_own hr
  have h1' := (h1 (by simp [tcells])).1
  injection h1' with h1'
  injection h1' with e1 e2 e3
  subst e1 e2
  have key : ∀ j u, (tcells k c1 b l A nn cap)[j]? = some u → w.cell? ⟨G, cs.length + j, none⟩ = some u := fun j u hu => by
    have := h2 (cs.length + j) u (by
      rw [List.getElem?_append_right (by omega), Nat.add_sub_cancel_left, List.getElem?_append_left (by obtain ⟨h, -⟩ := List.getElem?_eq_some_iff.1 hu; exact h)]
      exact hu)
    rwa [Nat.zero_add] at this
  exact ⟨key 0 _ rfl, key 1 _ rfl, key 2 _ rfl, key 3 _ rfl, key 4 _ rfl⟩

theorem tcells_one5 (k c : Int) (b : Bool) (l : Int) (A : Option Addr) (n cap : Nat) : ∀ u ∈ tcells k c b l A n cap, u.oneCell' = true := by
  intro u hu
  simp only [tcells, List.mem_cons, List.not_mem_nil, or_false] at hu
  rcases hu with rfl | rfl | rfl | rfl | rfl <;> rfl
theorem calm_end {x : Int} {w wr w7 w8 : World} {P G cV : Nat} {V : Option Addr} {k c : Int} {b b' : Bool} {l : Int} {kids : Ks} {cs : List Value} (hP : P = w.heap.size) (hG : P + 1 + 1 ≤ G) (hb' : (if c = x then false else b) = b') (hVo : ∀ g, (Value.slice V kids.len cV).ownBlock = some g → P + 1 + 1 ≤ g)
    (hPr : P < wr.heap.size) (hr : wr.ownsRow w.heap.size 26 5 (.slice V kids.len cV) kids.len cs) (hd : KN (G + 1) wr cs (Ks.calm x kids)) (hb : Below w.heap.size w wr) (hg7 : wr.grownBy w7 (some P)) (hg8 : w7.grownBy w8 (some (P + 1))) :
    (FKN w.heap.size (Ks.calm x (.cons k c b l kids .nil))).holds (.agg (tcells k c b' l V kids.len cV).toArray) w8 ∧ Below w.heap.size w w8 := by
  have hl7 := hg7.size
  refine ⟨⟨_, rfl, ?_⟩, (hb.trans (below_of_grown hg7 (by omega) (by omega))).trans (below_of_grown hg8 (by omega) (by omega))⟩
  have h7 := own_keeps hr (Keeps.of_grown hg7) (fun g hg e => by have := hVo g hg; injection e; omega)
  have h8 := own_keeps h7 (Keeps.of_grown hg8) (fun g hg e => by have := hVo g hg; injection e; omega)
  have d8 := ((hd.grown hg7 (by omega)).grown hg8 (by omega)).low (show w.heap.size ≤ G + 1 by omega)
  have := KN.term (kids := Ks.calm x kids) (k := k) (c := c) (b := b') (l := l) (by rw [Ks.calm_len]; exact h8) d8
  rw [Ks.calm_len] at this
  rw [Ks.calm, hb', Ks.calm]
  exact this


set_option maxRecDepth 20000 in
set_option maxHeartbeats 16000000 in
theorem calm_rest (x : Int) (N : Nat) (ih : ∀ (k c : Int) (b : Bool) (l : Int) (kids : Ks), kids.tot < N → kids.tot ≤ 1048576 → CalmOK x k c b l kids) (k c : Int) (b : Bool) (l : Int) (kids : Ks) (hN : kids.tot < N + 1) (hn : kids.tot ≤ 1048576)
    (w : World) (A : Option Addr) (cap gc gf : Nat) (ds : List Value) (hle : kids.len ≤ cap) (hm : cap ≤ maxLen) (hC : Cells w w.heap.size A ds) (hds : KsR w.heap.size w ds kids) (hc : w.cell? ⟨gc, 0, none⟩ = some (.int .i64 x)) (hf : w.cell? ⟨gf, 0, none⟩ = some (calmv gc gf)) (b' : Bool) (hb' : (c == x) = b') :
    Calls Try.prog 16 #[.agg (tcells k c b l A kids.len cap).toArray, .pointer (some ⟨gc, 0, none⟩), .pointer (some ⟨gf, 0, none⟩)] w fun e w' => ∃ v, e = .returned v ∧ (FKN w.heap.size (Ks.calm x (.cons k c b l kids .nil))).holds v w' ∧ Below w.heap.size w w' := by
  obtain ⟨q0, q1, hz, hkw⟩ := two_allocs w (tcells k c b l A kids.len cap) (tcells 0 0 false 0 none 0 0) 26 26
  have hbw := hkw.below (Nat.le_refl _) (fun i h => h.elim)
  clear hkw
  have lc := World.block_lt_of_cell? w _ hc
  have lf := World.block_lt_of_cell? w _ hf
  have hltot := Ks.len_le kids
  obtain ⟨P, hP⟩ : ∃ P, P = w.heap.size := ⟨_, rfl⟩
  have hcW := (hbw.cell lc).trans hc
  have hfW := (hbw.cell lf).trans hf
  have hCW := hC.below hbw hbw.size
  have hdW := hds.later hbw
  unfold tcells at q0 q1 hz hbw hcW hfW hCW hdW
  unfold maxLen at hm
  go_enter Try.func16, Try.ntmps16
  unfold tcells
  go_upto_region 1 with (fail)
  generalize (w.alloc (.cells [Value.int .i64 k, .int .i64 c, .bool b, .int .i64 l, .slice A kids.len cap].toArray 26)).alloc (.cells [Value.int .i64 0, .int .i64 0, .bool false, .int .i64 0, .slice none 0 0].toArray 26) = W at q0 q1 hz hbw hcW hfW hCW hdW ⊢
  rw [← hP] at q0 q1 hz ⊢
  have HP := Lib.hid hP
  clear hP
  have c1 : W.cell? ⟨P, 1, none⟩ = some (.int .i64 c) := (q0.cell 1).trans rfl
  replace hz : P + 1 + 1 ≤ W.heap.size := Nat.le_of_eq hz.symm
  rcases b' with _ | _
  · go_upto_region 3 with (fail)
    -- at slices.Clone: W the world, q0 the box
    have hsl : SlV W 5 (.slice A kids.len cap) kids.len ds := ⟨A, cap, rfl, hle, by unfold maxLen; omega, hdW.length, hCW⟩
    have hd1 := hdW.one
    have hx4 : W.cell? ⟨P, 4, none⟩ = some (.slice A kids.len cap) := (q0.cell 4).trans rfl
    have n47 : kids.len * 56 ≤ 140737488355328 := by omega
    have HW := Lib.hid (And.intro hds (And.intro hbw (And.intro hcW hfW)))
    clear hds hdW hCW hcW hfW hC
    go_wp2_with fail
    refine (clone_term5 _ _ _ W hsl hd1 n47).mono ?_
    rintro e w2 ⟨u, rfl, hown, hb2⟩
    obtain ⟨hds, hbw, hcW, hfW⟩ := HW.out
    have hP := HP.out
    have hbw2 := below_next hb2 hbw
    have hBx := q0.below hb2
    have hBr := q1.below hb2
    have hc2 : w2.cell? ⟨gc, 0, none⟩ = some (.int .i64 x) := (hb2.cell (World.block_lt_of_cell? W _ hcW)).trans hcW
    have hf2 : w2.cell? ⟨gf, 0, none⟩ = some (calmv gc gf) := (hb2.cell (World.block_lt_of_cell? W _ hfW)).trans hfW
    have hds2 := hds.later hbw2
    have hs2 := hb2.size
    obtain ⟨G, hGP, hGV⟩ : ∃ G, P + 1 + 1 ≤ G ∧ (0 < kids.len → u = u ∧ G < w2.heap.size ∧ ∃ c, u = .slice (some ⟨G, 0, none⟩) kids.len c) := by
      by_cases h0 : 0 < kids.len
      · obtain ⟨g, c, rfl, -, -, h4, h5⟩ := own_addr hown h0
        exact ⟨g, by omega, fun _ => ⟨rfl, h5, c, rfl⟩⟩
      · exact ⟨P + 1 + 1, Nat.le_refl _, fun h => absurd h h0⟩
    obtain ⟨V, cV, rfl, hlV, hmV⟩ := own_slice hown
    have HVo := Lib.hid (show ∀ g, (Value.slice V kids.len cV).ownBlock = some g → P + 1 + 1 ≤ g from fun g hg => by have := own_ge hown g hg; omega)
    have hown' := own_base hown (show w.heap.size ≤ W.heap.size by omega)
    have hH0 : Half x w V cV G kids w2 0 := ⟨.nil, kids, [], ds, rfl, rfl, by simpa using hown', KN.nil, hds2⟩
    have HGP := Lib.hid (And.intro (show w.heap.size + 1 + 1 ≤ G by omega) (show w.heap.size ≤ w2.heap.size by omega))
    clear hown hown' hx4 hsl hd1 n47 HW hcW hfW hP
    go_wp2_with fail
    go_loopw [19] (fun i wr => ∃ j : Nat, j ≤ kids.len ∧ i = .int .i64 (j : Int) ∧ Half x w V cV G kids wr j ∧ Keeps (fun g => g = G) w2 wr) (fun i _ => kids.len - (intOf i).toNat)
    case atStart => exact ⟨0, Nat.zero_le _, rfl, hH0, Keeps.refl _ _⟩
    case round =>
      obtain ⟨j, hj, rfl, hH, hk⟩ := hrel
      clear hH0
      have hsr := hk.size
      have hGw := HGP.out.1
      have hww := HGP.out.2
      have hbwr : Below w.heap.size w wr := hbw2.trans (hk.below (by omega) (fun i hi => by omega))
      have hcr : wr.cell? ⟨gc, 0, none⟩ = some (.int .i64 x) := hk.cell hc2 (fun h => by have h : gc = G := h; omega)
      have hfr : wr.cell? ⟨gf, 0, none⟩ = some (calmv gc gf) := hk.cell hf2 (fun h => by have h : gf = G := h; omega)
      by_cases hlt : j < kids.len
      · obtain ⟨pre, k1, c1, b1, l1, ks, rest, cs, ds1, A1, cap1, e1, e2, e3, hr, hd, h6, h7⟩ := hH.step hlt
        obtain ⟨-, hGlt, cc, hGe⟩ := hGV (by omega)
        injection hGe with hGe1 hGe2 hGe3
        subst hGe1 hGe3
        clear hGe2
        have hl5 : cs.length = j * 5 := by rw [hd.len, Ks.calm_len, e2]
        have hcell := fun (w' : World) (hr' : w'.ownsRow w.heap.size 26 5 (.slice (some ⟨G, 0, none⟩) kids.len cV) kids.len (cs ++ (tcells k1 c1 b1 l1 A1 ks.len cap1 ++ ds1))) => half_cells hr' hl5
        have h6' := h6.up (B' := wr.heap.size) hbwr.size
        have gE : ∀ w', Below wr.heap.size wr w' → Calls Try.prog 16 #[.agg #[.int .i64 k1, .int .i64 c1, .bool b1, .int .i64 l1, .slice A1 ks.len cap1], .pointer (some ⟨gc, 0, none⟩), .pointer (some ⟨gf, 0, none⟩)] w' fun e w'' => ∃ v, e = .returned v ∧ (FKN wr.heap.size (Ks.calm x (.cons k1 c1 b1 l1 ks .nil))).holds v w'' ∧ Below w'.heap.size w' w'' := fun w' hb => by
          have := ih k1 c1 b1 l1 ks (by omega) (by omega) w' _ gc gf ((h6'.later hb).up hb.size) ((hb.cell (World.block_lt_of_cell? wr _ hcr)).trans hcr) ((hb.cell (World.block_lt_of_cell? wr _ hfr)).trans hfr)
          refine this.mono ?_
          rintro e w'' ⟨v, rfl, ⟨cs', rfl, h9⟩, h10⟩
          exact ⟨_, rfl, ⟨cs', rfl, h9.low hb.size⟩, h10⟩
        have keepS : ∀ w', Below wr.heap.size wr w' → Below wr.heap.size wr w' ∧ w'.cell? ⟨gf, 0, none⟩ = some (.func (.func 16) #[] #[.pointer (some ⟨gc, 0, none⟩), .pointer (some ⟨gf, 0, none⟩)]) ∧ w'.cell? ⟨G, j * 5, none⟩ = some (.int .i64 k1) ∧ w'.cell? ⟨G, j * 5 + 1, none⟩ = some (.int .i64 c1) ∧ w'.cell? ⟨G, j * 5 + 2, none⟩ = some (.bool b1) ∧ w'.cell? ⟨G, j * 5 + 3, none⟩ = some (.int .i64 l1) ∧ w'.cell? ⟨G, j * 5 + 4, none⟩ = some (.slice A1 ks.len cap1) := fun w' hb =>
          ⟨hb, (hb.cell (World.block_lt_of_cell? wr _ hfr)).trans hfr, hcell w' (own_keeps hr (keeps_below hb) (fun _ _ => id))⟩
        have hS0 := keepS _ (below_drew (Below.refl _ _))
        have HR := Lib.hid (And.intro hr (And.intro hd (And.intro h6' (And.intro h7 (And.intro hl5 (And.intro e1 (And.intro e2 (And.intro hk (And.intro hbwr (And.intro hBx hBr))))))))))
        have HG := Lib.hid hGV
        clear hr hd h6 h6' h7 hl5 e1 e2 hcell hH hk hbwr hBx hBr hGV hbw2 hb2 hcr hfr hc2 hf2 hds2 hds hz hbw q0 q1 ih
        go_wp2_with fail
        refine wp_walk_last (by kernel_rfl) (by kernel_rfl) (fun w w' => Below w.heap.size w w') (fun w' => (Below wr.heap.size wr w' ∧ w'.cell? ⟨gf, 0, none⟩ = some (.func (.func 16) #[] #[.pointer (some ⟨gc, 0, none⟩), .pointer (some ⟨gf, 0, none⟩)]) ∧ w'.cell? ⟨G, j * 5, none⟩ = some (.int .i64 k1) ∧ w'.cell? ⟨G, j * 5 + 1, none⟩ = some (.int .i64 c1) ∧ w'.cell? ⟨G, j * 5 + 2, none⟩ = some (.bool b1) ∧ w'.cell? ⟨G, j * 5 + 3, none⟩ = some (.int .i64 l1) ∧ w'.cell? ⟨G, j * 5 + 4, none⟩ = some (.slice A1 ks.len cap1))) hS0 ?_
        simp only [List.length_cons, List.length_nil, Nat.reduceAdd, Nat.reduceSub, List.take_succ_cons, List.take_zero, List.drop_succ_cons, List.drop_zero]
        repeat (first | (refine settle_skip (fun _ => by rfl) ?_; (simp only [Act.put, List.setIfInBounds_toArray, List.set_cons_zero, List.set_cons_succ])) | (refine' settle_run (fun _ _ => Below.refl _ _) (fun _ => by rfl) ?_ ?_; rotate_left; (focus (intro ρ w hS hF; (try dsimp only at hS); go_split_ands; go_simp; try with_reducible rfl)); (simp only [Act.put, List.setIfInBounds_toArray, List.set_cons_zero, List.set_cons_succ])))
        (refine settle_known (FKN wr.heap.size (Ks.calm x (.cons k1 c1 b1 l1 ks .nil))) (by rfl) (fun _ => by rfl)  ?_ ?_; (focus (intro ρ w hS hF K hK; (simp only [Act.put, List.setIfInBounds_toArray, List.set_cons_zero, List.set_cons_succ] at hK); go_simp; (refine (gE _ hS.1).mono ?_; rintro e w' ⟨v, rfl, hF', hb'⟩; exact hK _ _ hF' (keepS _ (below_next hb' hS.1)) hb'))); (simp only [Act.put, List.setIfInBounds_toArray, List.set_cons_zero, List.set_cons_succ]))
        repeat (first | (refine settle_skip (fun _ => by rfl) ?_; (simp only [Act.put, List.setIfInBounds_toArray, List.set_cons_zero, List.set_cons_succ])) | (refine' settle_run (fun _ _ => Below.refl _ _) (fun _ => by rfl) ?_ ?_; rotate_left; (focus (intro ρ w hS hF; (try dsimp only at hS); go_split_ands; go_simp; try with_reducible rfl)); (simp only [Act.put, List.setIfInBounds_toArray, List.set_cons_zero, List.set_cons_succ])))
        refine settle_nil ?_
        intro ρ w5 hS hF
        obtain ⟨cs', e29, h29⟩ := hF 29 (FKN wr.heap.size (Ks.calm x (.cons k1 c1 b1 l1 ks .nil))) (by repeat (first | exact List.mem_cons_self | apply List.mem_cons_of_mem))
        have hb5 := hS.1
        clear hF hS hS0 keepS gE
        dsimp only
        rw [e29]
        clear e29
        obtain ⟨A9, cap9, rfl⟩ := KN.form1 h29
        obtain ⟨hr, hd, h6', h7, hl5, e1, e2, hk, hbwr, hBx, hBr⟩ := HR.out
        have hr5 := own_keeps hr (keeps_below hb5) (fun _ _ => id)
        refine wpl_put_row hr5 (j * 5) 5 _ (by kernel_rfl) (by simp [tcells]) (by omega) h29.one (by rfl) (by rfl) (by rfl) (by rfl) ?_
        intro w6 hr6 hg6
        rw [put_mid hl5 (by simp [tcells])] at hr6
        have hH6 := calm_loop x w _ cV G kids wr w5 w6 j pre k1 c1 b1 l1 ks rest cs ds1 _ A1 cap1 e1 e2 hd h7 hb5 (by omega) (by omega) hbwr.size h29 hr6 hg6
        have hk6 : Keeps (fun g => g = G) w2 w6 := hk.trans (((keeps_below hb5).mono (S' := fun g => g = G) (fun _ h => h.elim)).trans ((Keeps.of_grown hg6).mono (S' := fun g => g = G) fun i hi => by injection hi))
        clear hr6 hg6 hr5 hb5 h29 hr hd h6' h7 hl5 e1 e2 hk hbwr hBx hBr HR
        go_wp2_with fail
        go_roundw
        case rel => exact ⟨j + 1, by omega, by go_num, hH6, hk6⟩
        case measure => simp [intOf]; omega
      · have hjn : j = kids.len := by omega
        subst hjn
        obtain ⟨pre, post, cs, dd, e1, e2, hr, hd, -⟩ := hH
        have hp0 : post = .nil := Ks.len_zero (by rw [e1, Ks.app_len] at e2; omega)
        subst hp0
        rw [Ks.app_nil] at e1
        subst e1
        have hdd : dd = [] := List.eq_nil_of_length_eq_zero (by have h1 := hr.1; have h2 := hd.len; rw [Ks.calm_len] at h2; rw [List.length_append] at h1; omega)
        subst hdd
        rw [List.append_nil] at hr
        have hBx' := hBx.keeps hk (fun h => by have h : P = G := h; omega)
        have hBr' := hBr.keeps hk (fun h => by have h : P + 1 = G := h; omega)
        have HE := Lib.hid (And.intro hr (And.intro hd (And.intro hbwr HVo.out)))
        have hPr := hBx'.lt
        clear hr hd hbwr hBx hBr hk hGV hbw2 hb2 hcr hfr hc2 hf2 hds2 hds hz hbw q0 q1 ih
        go_wp2_with (first | (refine wpl_set_blk hBx' 4 (.slice V kids.len cV) (by kernel_rfl) (by simp) (by rfl) (by rfl) (by rfl) (by rfl) (by rfl) (by rfl) ?_; intro w7 hB7 hg7; have hR7 := hBr'.grown hg7 (fun e => by injection e; omega)) | (refine wpl_get_blk (ty := 26) hB7 (by kernel_rfl) (by kernel_rfl) (by rfl) (by rfl) (by rfl) ?_) | (refine wpl_put_blk hR7 [.int .i64 k, .int .i64 c, .bool b, .int .i64 l, .slice V kids.len cV] (by kernel_rfl) (by rfl) (tcells_one5 k c b l V kids.len cV) (by rfl) (by rfl) (by rfl) (by rfl) ?_; intro w8 hB8 hg8) | fail)
        obtain ⟨hr, hd, hbwr, hVo⟩ := HE.out
        exact ret_blk hB8 rfl rfl Try.underlying26 rfl (by kernel_rfl) rfl ⟨_, rfl, calm_end (b := b) HP.out hGP (by rw [if_neg (by simpa using hb')]) hVo hPr hr hd hbwr hg7 hg8⟩
  · go_upto_region 3 with (refine wpl_set_blk q0 2 (.bool false) (by kernel_rfl) (by simp) rfl rfl rfl rfl rfl rfl ?_; intro W1 hB1 hg1)
    have hb1 := below_of_grown (B := w.heap.size) hg1 hbw.size (by have := HP.out; omega)
    have q1' := q1.grown hg1 (fun e => by injection e; omega)
    have hz1 : P + 1 + 1 ≤ W1.heap.size := by have := hg1.size; omega
    have hbw1 : Below w.heap.size w W1 := hbw.trans hb1
    have hcW1 : W1.cell? ⟨gc, 0, none⟩ = some (.int .i64 x) := (hb1.cell lc).trans hcW
    have hfW1 : W1.cell? ⟨gf, 0, none⟩ = some (calmv gc gf) := (hb1.cell lf).trans hfW
    have hCW1 := hC.below hbw1 hbw1.size
    have hdW1 := hds.later hbw1
    clear hbw hcW hfW hCW hdW q0 q1 c1 hg1 hz hb1
    have hz := hz1
    have hbw := hbw1
    have hcW := hcW1
    have hfW := hfW1
    have hCW := hCW1
    have hdW := hdW1
    have q1 := q1'
    clear hz1 hbw1 hcW1 hfW1 hCW1 hdW1 q1'
    clear W
    obtain ⟨W, hWW⟩ : ∃ W, W = W1 := ⟨_, rfl⟩
    subst hWW
    -- at slices.Clone: W the world, hB1 the box
    have hsl : SlV W 5 (.slice A kids.len cap) kids.len ds := ⟨A, cap, rfl, hle, by unfold maxLen; omega, hdW.length, hCW⟩
    have hd1 := hdW.one
    have hx4 : W.cell? ⟨P, 4, none⟩ = some (.slice A kids.len cap) := (hB1.cell 4).trans rfl
    have n47 : kids.len * 56 ≤ 140737488355328 := by omega
    have HW := Lib.hid (And.intro hds (And.intro hbw (And.intro hcW hfW)))
    clear hds hdW hCW hcW hfW hC
    go_wp2_with fail
    refine (clone_term5 _ _ _ W hsl hd1 n47).mono ?_
    rintro e w2 ⟨u, rfl, hown, hb2⟩
    obtain ⟨hds, hbw, hcW, hfW⟩ := HW.out
    have hP := HP.out
    have hbw2 := below_next hb2 hbw
    have hBx := hB1.below hb2
    have hBr := q1.below hb2
    have hc2 : w2.cell? ⟨gc, 0, none⟩ = some (.int .i64 x) := (hb2.cell (World.block_lt_of_cell? W _ hcW)).trans hcW
    have hf2 : w2.cell? ⟨gf, 0, none⟩ = some (calmv gc gf) := (hb2.cell (World.block_lt_of_cell? W _ hfW)).trans hfW
    have hds2 := hds.later hbw2
    have hs2 := hb2.size
    obtain ⟨G, hGP, hGV⟩ : ∃ G, P + 1 + 1 ≤ G ∧ (0 < kids.len → u = u ∧ G < w2.heap.size ∧ ∃ c, u = .slice (some ⟨G, 0, none⟩) kids.len c) := by
      by_cases h0 : 0 < kids.len
      · obtain ⟨g, c, rfl, -, -, h4, h5⟩ := own_addr hown h0
        exact ⟨g, by omega, fun _ => ⟨rfl, h5, c, rfl⟩⟩
      · exact ⟨P + 1 + 1, Nat.le_refl _, fun h => absurd h h0⟩
    obtain ⟨V, cV, rfl, hlV, hmV⟩ := own_slice hown
    have HVo := Lib.hid (show ∀ g, (Value.slice V kids.len cV).ownBlock = some g → P + 1 + 1 ≤ g from fun g hg => by have := own_ge hown g hg; omega)
    have hown' := own_base hown (show w.heap.size ≤ W.heap.size by omega)
    have hH0 : Half x w V cV G kids w2 0 := ⟨.nil, kids, [], ds, rfl, rfl, by simpa using hown', KN.nil, hds2⟩
    have HGP := Lib.hid (And.intro (show w.heap.size + 1 + 1 ≤ G by omega) (show w.heap.size ≤ w2.heap.size by omega))
    clear hown hown' hx4 hsl hd1 n47 HW hcW hfW hP
    go_wp2_with fail
    go_loopw [19] (fun i wr => ∃ j : Nat, j ≤ kids.len ∧ i = .int .i64 (j : Int) ∧ Half x w V cV G kids wr j ∧ Keeps (fun g => g = G) w2 wr) (fun i _ => kids.len - (intOf i).toNat)
    case atStart => exact ⟨0, Nat.zero_le _, rfl, hH0, Keeps.refl _ _⟩
    case round =>
      obtain ⟨j, hj, rfl, hH, hk⟩ := hrel
      clear hH0
      have hsr := hk.size
      have hGw := HGP.out.1
      have hww := HGP.out.2
      have hbwr : Below w.heap.size w wr := hbw2.trans (hk.below (by omega) (fun i hi => by omega))
      have hcr : wr.cell? ⟨gc, 0, none⟩ = some (.int .i64 x) := hk.cell hc2 (fun h => by have h : gc = G := h; omega)
      have hfr : wr.cell? ⟨gf, 0, none⟩ = some (calmv gc gf) := hk.cell hf2 (fun h => by have h : gf = G := h; omega)
      by_cases hlt : j < kids.len
      · obtain ⟨pre, k1, c1, b1, l1, ks, rest, cs, ds1, A1, cap1, e1, e2, e3, hr, hd, h6, h7⟩ := hH.step hlt
        obtain ⟨-, hGlt, cc, hGe⟩ := hGV (by omega)
        injection hGe with hGe1 hGe2 hGe3
        subst hGe1 hGe3
        clear hGe2
        have hl5 : cs.length = j * 5 := by rw [hd.len, Ks.calm_len, e2]
        have hcell := fun (w' : World) (hr' : w'.ownsRow w.heap.size 26 5 (.slice (some ⟨G, 0, none⟩) kids.len cV) kids.len (cs ++ (tcells k1 c1 b1 l1 A1 ks.len cap1 ++ ds1))) => half_cells hr' hl5
        have h6' := h6.up (B' := wr.heap.size) hbwr.size
        have gE : ∀ w', Below wr.heap.size wr w' → Calls Try.prog 16 #[.agg #[.int .i64 k1, .int .i64 c1, .bool b1, .int .i64 l1, .slice A1 ks.len cap1], .pointer (some ⟨gc, 0, none⟩), .pointer (some ⟨gf, 0, none⟩)] w' fun e w'' => ∃ v, e = .returned v ∧ (FKN wr.heap.size (Ks.calm x (.cons k1 c1 b1 l1 ks .nil))).holds v w'' ∧ Below w'.heap.size w' w'' := fun w' hb => by
          have := ih k1 c1 b1 l1 ks (by omega) (by omega) w' _ gc gf ((h6'.later hb).up hb.size) ((hb.cell (World.block_lt_of_cell? wr _ hcr)).trans hcr) ((hb.cell (World.block_lt_of_cell? wr _ hfr)).trans hfr)
          refine this.mono ?_
          rintro e w'' ⟨v, rfl, ⟨cs', rfl, h9⟩, h10⟩
          exact ⟨_, rfl, ⟨cs', rfl, h9.low hb.size⟩, h10⟩
        have keepS : ∀ w', Below wr.heap.size wr w' → Below wr.heap.size wr w' ∧ w'.cell? ⟨gf, 0, none⟩ = some (.func (.func 16) #[] #[.pointer (some ⟨gc, 0, none⟩), .pointer (some ⟨gf, 0, none⟩)]) ∧ w'.cell? ⟨G, j * 5, none⟩ = some (.int .i64 k1) ∧ w'.cell? ⟨G, j * 5 + 1, none⟩ = some (.int .i64 c1) ∧ w'.cell? ⟨G, j * 5 + 2, none⟩ = some (.bool b1) ∧ w'.cell? ⟨G, j * 5 + 3, none⟩ = some (.int .i64 l1) ∧ w'.cell? ⟨G, j * 5 + 4, none⟩ = some (.slice A1 ks.len cap1) := fun w' hb =>
          ⟨hb, (hb.cell (World.block_lt_of_cell? wr _ hfr)).trans hfr, hcell w' (own_keeps hr (keeps_below hb) (fun _ _ => id))⟩
        have hS0 := keepS _ (below_drew (Below.refl _ _))
        have HR := Lib.hid (And.intro hr (And.intro hd (And.intro h6' (And.intro h7 (And.intro hl5 (And.intro e1 (And.intro e2 (And.intro hk (And.intro hbwr (And.intro hBx hBr))))))))))
        have HG := Lib.hid hGV
        clear hr hd h6 h6' h7 hl5 e1 e2 hcell hH hk hbwr hBx hBr hGV hbw2 hb2 hcr hfr hc2 hf2 hds2 hds hz hbw hB1 q1 ih
        go_wp2_with fail
        refine wp_walk_last (by kernel_rfl) (by kernel_rfl) (fun w w' => Below w.heap.size w w') (fun w' => (Below wr.heap.size wr w' ∧ w'.cell? ⟨gf, 0, none⟩ = some (.func (.func 16) #[] #[.pointer (some ⟨gc, 0, none⟩), .pointer (some ⟨gf, 0, none⟩)]) ∧ w'.cell? ⟨G, j * 5, none⟩ = some (.int .i64 k1) ∧ w'.cell? ⟨G, j * 5 + 1, none⟩ = some (.int .i64 c1) ∧ w'.cell? ⟨G, j * 5 + 2, none⟩ = some (.bool b1) ∧ w'.cell? ⟨G, j * 5 + 3, none⟩ = some (.int .i64 l1) ∧ w'.cell? ⟨G, j * 5 + 4, none⟩ = some (.slice A1 ks.len cap1))) hS0 ?_
        simp only [List.length_cons, List.length_nil, Nat.reduceAdd, Nat.reduceSub, List.take_succ_cons, List.take_zero, List.drop_succ_cons, List.drop_zero]
        repeat (first | (refine settle_skip (fun _ => by rfl) ?_; (simp only [Act.put, List.setIfInBounds_toArray, List.set_cons_zero, List.set_cons_succ])) | (refine' settle_run (fun _ _ => Below.refl _ _) (fun _ => by rfl) ?_ ?_; rotate_left; (focus (intro ρ w hS hF; (try dsimp only at hS); go_split_ands; go_simp; try with_reducible rfl)); (simp only [Act.put, List.setIfInBounds_toArray, List.set_cons_zero, List.set_cons_succ])))
        (refine settle_known (FKN wr.heap.size (Ks.calm x (.cons k1 c1 b1 l1 ks .nil))) (by rfl) (fun _ => by rfl)  ?_ ?_; (focus (intro ρ w hS hF K hK; (simp only [Act.put, List.setIfInBounds_toArray, List.set_cons_zero, List.set_cons_succ] at hK); go_simp; (refine (gE _ hS.1).mono ?_; rintro e w' ⟨v, rfl, hF', hb'⟩; exact hK _ _ hF' (keepS _ (below_next hb' hS.1)) hb'))); (simp only [Act.put, List.setIfInBounds_toArray, List.set_cons_zero, List.set_cons_succ]))
        repeat (first | (refine settle_skip (fun _ => by rfl) ?_; (simp only [Act.put, List.setIfInBounds_toArray, List.set_cons_zero, List.set_cons_succ])) | (refine' settle_run (fun _ _ => Below.refl _ _) (fun _ => by rfl) ?_ ?_; rotate_left; (focus (intro ρ w hS hF; (try dsimp only at hS); go_split_ands; go_simp; try with_reducible rfl)); (simp only [Act.put, List.setIfInBounds_toArray, List.set_cons_zero, List.set_cons_succ])))
        refine settle_nil ?_
        intro ρ w5 hS hF
        obtain ⟨cs', e29, h29⟩ := hF 29 (FKN wr.heap.size (Ks.calm x (.cons k1 c1 b1 l1 ks .nil))) (by repeat (first | exact List.mem_cons_self | apply List.mem_cons_of_mem))
        have hb5 := hS.1
        clear hF hS hS0 keepS gE
        dsimp only
        rw [e29]
        clear e29
        obtain ⟨A9, cap9, rfl⟩ := KN.form1 h29
        obtain ⟨hr, hd, h6', h7, hl5, e1, e2, hk, hbwr, hBx, hBr⟩ := HR.out
        have hr5 := own_keeps hr (keeps_below hb5) (fun _ _ => id)
        refine wpl_put_row hr5 (j * 5) 5 _ (by kernel_rfl) (by simp [tcells]) (by omega) h29.one (by rfl) (by rfl) (by rfl) (by rfl) ?_
        intro w6 hr6 hg6
        rw [put_mid hl5 (by simp [tcells])] at hr6
        have hH6 := calm_loop x w _ cV G kids wr w5 w6 j pre k1 c1 b1 l1 ks rest cs ds1 _ A1 cap1 e1 e2 hd h7 hb5 (by omega) (by omega) hbwr.size h29 hr6 hg6
        have hk6 : Keeps (fun g => g = G) w2 w6 := hk.trans (((keeps_below hb5).mono (S' := fun g => g = G) (fun _ h => h.elim)).trans ((Keeps.of_grown hg6).mono (S' := fun g => g = G) fun i hi => by injection hi))
        clear hr6 hg6 hr5 hb5 h29 hr hd h6' h7 hl5 e1 e2 hk hbwr hBx hBr HR
        go_wp2_with fail
        go_roundw
        case rel => exact ⟨j + 1, by omega, by go_num, hH6, hk6⟩
        case measure => simp [intOf]; omega
      · have hjn : j = kids.len := by omega
        subst hjn
        obtain ⟨pre, post, cs, dd, e1, e2, hr, hd, -⟩ := hH
        have hp0 : post = .nil := Ks.len_zero (by rw [e1, Ks.app_len] at e2; omega)
        subst hp0
        rw [Ks.app_nil] at e1
        subst e1
        have hdd : dd = [] := List.eq_nil_of_length_eq_zero (by have h1 := hr.1; have h2 := hd.len; rw [Ks.calm_len] at h2; rw [List.length_append] at h1; omega)
        subst hdd
        rw [List.append_nil] at hr
        have hBx' := hBx.keeps hk (fun h => by have h : P = G := h; omega)
        have hBr' := hBr.keeps hk (fun h => by have h : P + 1 = G := h; omega)
        have HE := Lib.hid (And.intro hr (And.intro hd (And.intro hbwr HVo.out)))
        have hPr := hBx'.lt
        clear hr hd hbwr hBx hBr hk hGV hbw2 hb2 hcr hfr hc2 hf2 hds2 hds hz hbw hB1 q1 ih
        go_wp2_with (first | (refine wpl_set_blk hBx' 4 (.slice V kids.len cV) (by kernel_rfl) (by simp) (by rfl) (by rfl) (by rfl) (by rfl) (by rfl) (by rfl) ?_; intro w7 hB7 hg7; have hR7 := hBr'.grown hg7 (fun e => by injection e; omega)) | (refine wpl_get_blk (ty := 26) hB7 (by kernel_rfl) (by kernel_rfl) (by rfl) (by rfl) (by rfl) ?_) | (refine wpl_put_blk hR7 [.int .i64 k, .int .i64 c, .bool false, .int .i64 l, .slice V kids.len cV] (by kernel_rfl) (by rfl) (tcells_one5 k c false l V kids.len cV) (by rfl) (by rfl) (by rfl) (by rfl) ?_; intro w8 hB8 hg8) | fail)
        obtain ⟨hr, hd, hbwr, hVo⟩ := HE.out
        exact ret_blk hB8 rfl rfl Try.underlying26 rfl (by kernel_rfl) rfl ⟨_, rfl, calm_end (b := b) HP.out hGP (by rw [if_pos (by simpa using hb')]) hVo hPr hr hd hbwr hg7 hg8⟩

/-- the closure of RaceReads -/
theorem calm_clo (x : Int) : ∀ (N : Nat) (k c : Int) (b : Bool) (l : Int) (kids : Ks), kids.tot < N → kids.tot ≤ 1048576 → CalmOK x k c b l kids := by
  intro N
  induction N with
  | zero => intro k c b l kids h; omega
  | succ N ih =>
    intro k c b l kids hN hn w cs gc gf h hc hf
    cases h with
    | cons _ _ _ _ A cap ds cs _ _ h1 h2 h3 h4 h5 =>
      cases h5
      rw [List.append_nil]
      exact calm_rest x N ih k c b l kids hN hn w A cap gc gf ds h1 h2 h3 h4 hc hf _ rfl
end Go.Proofs.Ytcoijmnnnfogdaa


namespace Go.Proofs.Ytcoijmnnnfogdaa
set_option linter.unusedVariables false
set_option linter.unusedSimpArgs false
set_option maxRecDepth 100000
open Go.RowKit

theorem cellsL_len (t : Sp.T) (hn : t.size ≤ 1048576) : (Rc.cellsL t).length ≤ 1048576 * 1048576 := by
  have h1 : (Rc.cellsL t).length ≤ (Rc.races t).length := by
    unfold Rc.cellsL
    refine Nat.le_trans (compact_le _) ?_
    unfold srt
    rw [List.length_mergeSort]
    simp [Rc.rcel]
  exact Nat.le_trans h1 (Nat.le_trans (Rc.racesK_len t t.size) (Nat.mul_le_mul hn hn))
theorem rr_get {l : List Int} {j : Nat} {c : Int} (h : l[j]? = some c) : (ints .i64 l)[j]? = some (.int .i64 c) := by simp [ints, h]
theorem KsR.tm {B : Nat} {w : World} {cs : List Value} {k c : Int} {b : Bool} {l : Int} {kids : Ks} (h : KsR B w cs (.cons k c b l kids .nil)) : TmR B w cs (Ks.mk k c b l kids.tt) := by
  have h0 := h.terms 0 (Ks.mk k c b l kids.tt) rfl
  have h5 := h.length
  rwa [Nat.zero_mul, List.drop_zero, List.take_of_length_le (by rw [h5]; simp [Ks.len])] at h0
theorem filt_keep {l : List Int} {j : Nat} {c x : Int} (h : l[j]? = some c) (hx : (c != x) = true) : (l.take (j + 1)).filter (fun y => y != x) = (l.take j).filter (fun y => y != x) ++ [c] := by
  obtain ⟨h', rfl⟩ := List.getElem?_eq_some_iff.1 h
  rw [List.take_succ_eq_append_getElem h', List.filter_append]
  simp [List.filter, hx]
theorem filt_drop {l : List Int} {j : Nat} {c x : Int} (h : l[j]? = some c) (hx : (c != x) = false) : (l.take (j + 1)).filter (fun y => y != x) = (l.take j).filter (fun y => y != x) := by
  obtain ⟨h', rfl⟩ := List.getElem?_eq_some_iff.1 h
  rw [List.take_succ_eq_append_getElem h', List.filter_append]
  simp [List.filter, hx]
/-- the two boxes, and the closure's -/
structure Held (W : World) (q Q : Nat) (k c : Int) (b : Bool) (l x : Int) (A : Option Addr) (n cap : Nat) (kids : Ks) : Prop where
  bt : Blk W q 26 [.int .i64 k, .int .i64 c, .bool b, .int .i64 l, .slice A n cap]
  bx : Blk W (q + 1) 3 [.int .i64 x]
  bc : Blk W Q 50 [calmv (q + 1) Q]
  ks : KsR W.heap.size W [.int .i64 k, .int .i64 c, .bool b, .int .i64 l, .slice A n cap] (.cons k c b l kids .nil)
theorem Held.below {W W' : World} {q Q : Nat} {k c : Int} {b : Bool} {l x : Int} {A : Option Addr} {n cap : Nat} {kids : Ks} (h : Held W q Q k c b l x A n cap kids) (hb : Below W.heap.size W W') : Held W' q Q k c b l x A n cap kids :=
  ⟨h.bt.below hb, h.bx.below hb, h.bc.below hb, (h.ks.later hb).up hb.size⟩

set_option maxRecDepth 20000 in
set_option maxHeartbeats 8000000 in
theorem raceReads_walk (k c : Int) (b : Bool) (l : Int) (kids : Ks) (x : Int) (w : World) (cs : List Value) (hT : KsR w.heap.size w cs (.cons k c b l kids .nil)) (hn : kids.tot + 1 ≤ 1048576) :
    Calls Try.prog 6 #[.agg cs.toArray, .int .i64 x] w fun e w' => e = .returned (.bool true) ∧ Below w.heap.size w w' := by
  obtain ⟨A, cap, ds, rfl, hle, hm, hT1, hds⟩ := hT.head
  cases hds
  clear hT
  rw [List.append_nil]
  obtain ⟨T, hTT⟩ : ∃ T, T = Ks.mk k c b l kids.tt := ⟨_, rfl⟩
  have hTn : T.size ≤ 1048576 := by rw [hTT]; exact Nat.le_trans (Ks.size_tot k c b l kids) hn
  have hcn := cellsL_len T hTn
  obtain ⟨x0, x1, hz, hk⟩ := two_allocs w (tcells k c b l A kids.len cap) [.int .i64 x] 26 3
  have hb0 := hk.below (Nat.le_refl _) (fun i h => h.elim)
  have hT0 := (hT1.later hb0).up hb0.size
  unfold tcells at x0 x1 hz hk hb0 hT0 ⊢
  go_enter Try.func6, Try.ntmps6
  go_wp2_with fail
  obtain ⟨q, hq⟩ : ∃ q, q = w.heap.size := ⟨_, rfl⟩
  generalize (w.alloc (.cells [Value.int .i64 k, .int .i64 c, .bool b, .int .i64 l, .slice A kids.len cap].toArray 26)).alloc (.cells [Value.int .i64 x].toArray 3) = W0 at x0 x1 hz hk hb0 hT0 ⊢
  rw [← hq] at x0 x1 hz ⊢
  refine (alive15_any _).mono ?_
  rintro e w1 ⟨rfl, hb1⟩
  have y0 := x0.below hb1
  have y1 := x1.below hb1
  have hK1 := (hT0.later hb1).up hb1.size
  have hbw := below_next hb1 hb0
  have d2 := Blk.new w1 50 [.nilFunc]
  obtain ⟨Q, hQ⟩ : ∃ Q, Q = w1.heap.size := ⟨_, rfl⟩
  have HQ := Lib.hid (And.intro hq hQ)
  have HX := Lib.hid (And.intro y0 (And.intro y1 (And.intro hK1 hbw)))
  clear x0 x1 hz hk hb0 hT0 hb1 hq hT1 y0 y1 hK1 hbw
  rw [← hQ] at d2
  have n1 : (w1.alloc (.cells [Value.nilFunc].toArray 50)).heap.size = Q + 1 := by rw [hQ]; simp
  have hbA : Below Q w1 (w1.alloc (.cells [Value.nilFunc].toArray 50)) := by rw [hQ]; exact below_alloc (Below.refl _ _) _
  clear hQ
  go_upto_region 4 with (fail)
  rw [← HQ.out.2]
  generalize (w1.alloc (.cells #[Value.nilFunc] 50)) = W2 at d2 n1 hbA ⊢
  go_upto_region 6 with (first | (refine wpl_set_blk d2 0 (.func (.func 16) #[] #[.pointer (some ⟨q + 1, 0, none⟩), .pointer (some ⟨Q, 0, none⟩)]) (by kernel_rfl) (by simp) rfl rfl rfl rfl rfl rfl ?_; intro w5 hB5 hg5) | fail)
  obtain ⟨y0, y1, hK1, hbw⟩ := HX.out
  have hb15 : Below w1.heap.size w1 w5 := by
    rw [← HQ.out.2]
    exact hbA.trans (below_of_grown hg5 (by omega) (Nat.le_refl _))
  have H5 : Held w5 q Q k c b l x A kids.len cap kids := ⟨y0.below hb15, y1.below hb15, hB5, (hK1.later hb15).up hb15.size⟩
  have hbw5 := below_next hb15 hbw
  have hTm : TmR w5.heap.size w5 [.int .i64 k, .int .i64 c, .bool b, .int .i64 l, .slice A kids.len cap] T := by rw [hTT]; exact H5.ks.tm
  have z0 : w5.cell? ⟨q, 0, none⟩ = some (.int .i64 k) := (H5.bt.cell 0).trans rfl
  have z1 : w5.cell? ⟨q, 1, none⟩ = some (.int .i64 c) := (H5.bt.cell 1).trans rfl
  have z2 : w5.cell? ⟨q, 2, none⟩ = some (.bool b) := (H5.bt.cell 2).trans rfl
  have z3 : w5.cell? ⟨q, 3, none⟩ = some (.int .i64 l) := (H5.bt.cell 3).trans rfl
  have z4 : w5.cell? ⟨q, 4, none⟩ = some (.slice A kids.len cap) := (H5.bt.cell 4).trans rfl
  have HT := Lib.hid hTT
  clear hTT y0 y1 hK1 hbw hb15 hB5 hg5 d2 n1 hbA HX
  go_wp2_with fail
  refine (race_cells T w5 _ hTm hTn).mono ?_
  rintro e w6 ⟨u6, rfl, hs6, hb6⟩
  have H6 := H5.below hb6
  have hbw6 := below_next hb6 hbw5
  obtain ⟨L, hL⟩ : ∃ L, L = Rc.cellsL T := ⟨_, rfl⟩
  rw [← hL] at hs6 hcn
  have HL := Lib.hid hL
  obtain ⟨A6, c6, rfl, hle6, hm6, -, hc6⟩ := hs6
  unfold maxLen at hm6
  clear z0 z1 z2 z3 z4 hTm H5 hbw5 hb6 hL
  go_wp2_with fail
  go_loopw [6, 15] (fun out i wr => ∃ j : Nat, j ≤ L.length ∧ i = .int .i64 (j : Int) ∧ Below w6.heap.size w6 wr ∧ wr.ownsRow w6.heap.size 3 1 out ((L.take j).filter (fun y => y != x)).length (ints .i64 ((L.take j).filter (fun y => y != x)))) (fun _ i _ => L.length - (intOf i).toNat)
  case atStart => exact ⟨0, Nat.zero_le _, rfl, Below.refl _ _, World.ownsRow_nil _ _ _ _⟩
  case round =>
    obtain ⟨j, hj, rfl, hb, hown⟩ := hrel
    by_cases hlt : j < L.length
    · obtain ⟨y, hy⟩ : ∃ y, L[j]? = some y := ⟨_, List.getElem?_eq_getElem hlt⟩
      obtain ⟨b6, o6, rfl, hb6, hcc⟩ := hc6.at_ (fun e => by have := congrArg List.length e; rw [ints_length] at this; simp at this; rw [this] at hlt; simp at hlt)
      have c1 : wr.cell? ⟨b6, o6 + j, none⟩ = some (.int .i64 y) := (hb.cell (p := ⟨b6, o6 + j, none⟩) hb6).trans (hcc _ _ (rr_get hy))
      have c2 : wr.cell? ⟨q + 1, 0, none⟩ = some (.int .i64 x) := ((H6.bx.below hb).cell 0).trans rfl
      have hfl : ((L.take j).filter (fun y => y != x)).length ≤ j := Nat.le_trans (List.length_filter_le _ _) (by rw [List.length_take]; omega)
      rcases hyx : y != x with _ | _
      · have hf := filt_drop hy hyx
        have HO := Lib.hid (And.intro hf (And.intro hown hfl))
        clear hf hown hfl hcc hc6
        go_wp2_with fail
        go_roundw
        case rel =>
          refine ⟨j + 1, by omega, by go_num, hb, ?_⟩
          rw [HO.out.1]
          exact HO.out.2.1
        case measure => simp [intOf]; omega
      · have hf := filt_keep hy hyx
        obtain ⟨M, hM⟩ : ∃ M, M = ((L.take j).filter (fun y => y != x)).length := ⟨_, rfl⟩
        rw [← hM] at hown hfl
        have hHM := Lib.hid (show M + 1 ≤ maxLen ∧ (M + 1) * 8 ≤ 140737488355328 by unfold maxLen; omega)
        have hsz := hb.size
        have HO := Lib.hid (And.intro hf hM)
        clear hf hM hfl hcc hc6
        go_wp2_with (first
          | (at_builtin; refine wp_push_at _ _ _ _ (by first | rfl | simp) _ _ _ _ _ _ Try.underlying33 info_rc rfl (by decide) hown [.int .i64 y] rfl (by simp [Value.oneCell']) hHM.out.1 hHM.out.2 hsz rfl rfl rfl rfl ?_; intro v7 w7 hr7 hg7 hv7 hb7)
          | fail)
        have hb7' := hb.trans hb7
        clear hown hg7 hv7 hb7 c1 c2
        go_roundw
        case rel =>
          refine ⟨j + 1, by omega, by go_num, hb7', ?_⟩
          rw [HO.out.1, List.length_append, ← HO.out.2]
          simpa [ints] using hr7
        case measure => simp [intOf]; omega
    · have hjn : j = L.length := by omega
      have hown' : wr.ownsRow w6.heap.size 3 1 u6 (L.filter (fun y => y != x)).length (ints .i64 (L.filter (fun y => y != x))) := by rw [hjn, List.take_length] at hown; exact hown
      have HO := Lib.hid (SlV.of_own hown')
      obtain ⟨A8, c8, rfl, -, -⟩ := own_slice hown'
      have H8 := H6.below hb
      have hbw8 := below_next hb hbw6
      have z0 : wr.cell? ⟨q, 0, none⟩ = some (.int .i64 k) := (H8.bt.cell 0).trans rfl
      have z1 : wr.cell? ⟨q, 1, none⟩ = some (.int .i64 c) := (H8.bt.cell 1).trans rfl
      have z2 : wr.cell? ⟨q, 2, none⟩ = some (.bool b) := (H8.bt.cell 2).trans rfl
      have z3 : wr.cell? ⟨q, 3, none⟩ = some (.int .i64 l) := (H8.bt.cell 3).trans rfl
      have z4 : wr.cell? ⟨q, 4, none⟩ = some (.slice A kids.len cap) := (H8.bt.cell 4).trans rfl
      have z5 : wr.cell? ⟨Q, 0, none⟩ = some (.func (.func 16) #[] #[.pointer (some ⟨q + 1, 0, none⟩), .pointer (some ⟨Q, 0, none⟩)]) := (H8.bc.cell 0).trans rfl
      have gC := calm_clo x (kids.tot + 1) k c b l kids (by omega) (by omega) wr _ (q + 1) Q H8.ks ((H8.bx.cell 0).trans rfl) z5
      clear hown hown' hc6 hb hjn H6 hbw6 hj
      go_wp2_with fail
      refine gC.mono ?_
      rintro e w9 ⟨v9, rfl, ⟨cs9, rfl, h9⟩, hb9⟩
      obtain ⟨A9, cap9, rfl⟩ := KN.form1 h9
      have hT9 := KsR.tm h9.read
      have hbw9 := below_next hb9 hbw8
      have hs9 := HO.out.below hb9
      have hsz : (Rc.calm x T).size ≤ 1048576 := by rw [Rc.calm_size]; exact hTn
      have e9 : Ks.mk k c (if c = x then false else b) l (Ks.calm x kids).tt = Rc.calm x T := by rw [HT.out, Ks.tt_calm, Ks.mk_calm]
      rw [e9] at hT9
      generalize (if c = x then false else b) = bb at hT9 ⊢
      unfold tcells at hT9 ⊢
      clear gC z0 z1 z2 z3 z4 z5 HO h9 e9
      go_wp2_with fail
      refine (race_cells (Rc.calm x T) w9 _ hT9 hsz).mono ?_
      rintro e w10 ⟨u10, rfl, hs10, hb10⟩
      have hs9' := hs9.below hb10
      have hbw10 := below_next hb10 hbw9
      have hfin := Rc.calm_cells x T
      clear hs9 hT9 hb10 hbw9 hbw8
      go_wp2_with fail
      refine (rc_equal _ _ _ _ w10 hs10 hs9').mono ?_
      rintro e w11 ⟨rfl, m, rfl⟩
      rw [decide_eq_true (by rw [hfin, ← HL.out])]
      clear hs10 hs9' hfin
      go_wp2_with fail
      go_ret
      exact ⟨rfl, below_drewN hbw10 m⟩
end Go.Proofs.Ytcoijmnnnfogdaa
