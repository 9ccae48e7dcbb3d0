/-
  What taking node after node keeps in hand: how many each node waits for, and which wait no longer. No program is named here.
-/
import Derived.Test.YtcpoglchjkpbpaaDoorGrLaw
namespace Go.Proofs.YtcpoglchjkpbpaaDoor.Gr
set_option linter.unusedVariables false
set_option linter.unusedSimpArgs false
set_option maxRecDepth 100000

/-- how many edges lead to m from what is not out -/
def wt (es : List Ed) (out : List Nat) (m : Nat) : Nat := (es.filter fun e => e.2 == m && !out.contains e.1).length
theorem wt_zero {es : List Ed} {out : List Nat} {m : Nat} : wt es out m = 0 ↔ ∀ e ∈ es, e.2 = m → e.1 ∈ out := by
  unfold wt
  rw [List.length_eq_zero_iff, List.filter_eq_nil_iff]
  constructor
  · intro h e he em
    have := h e he
    simpa [em] using this
  · intro h e he
    by_cases em : e.2 = m
    · simpa [em] using h e he em
    · simp [em]
theorem wt_le (es : List Ed) (out : List Nat) (m : Nat) : wt es out m ≤ es.length := List.length_filter_le _ _
theorem rdy_wt {es : List Ed} {out : List Nat} {m : Nat} : rdy es out m = true ↔ m ∉ out ∧ wt es out m = 0 := by rw [rdy_iff, wt_zero]
theorem wt_snoc {out : List Nat} {n : Nat} (hn : n ∉ out) (m : Nat) : ∀ es : List Ed, wt es (out ++ [n]) m + (next es n).count m = wt es out m
  | [] => rfl
  | (a, b) :: es => by
    have ih := wt_snoc hn m es
    unfold wt next at ih ⊢
    by_cases hb : b = m
    · subst hb
      by_cases ha : a = n
      · subst ha
        have h1 : (a ∈ out) = False := by simpa using hn
        simp [h1, List.filter_cons] at ih ⊢
        omega
      · have ha' : ¬ n = a := fun e => ha e.symm
        by_cases hc : a ∈ out
        · simp [ha, hc, List.filter_cons] at ih ⊢
          omega
        · simp [ha, hc, List.filter_cons] at ih ⊢
          omega
    · by_cases ha : a = n
      · subst ha
        simp [hb, List.filter_cons] at ih ⊢
        omega
      · simp [ha, hb, List.filter_cons] at ih ⊢
        omega
theorem count_le {out : List Nat} {n : Nat} (hn : n ∉ out) (es : List Ed) (m : Nat) : (next es n).count m ≤ wt es out m := by
  have := wt_snoc hn m es
  omega

/-! ### the edges are gone through, one by one -/
theorem wt_one (es : List Ed) (a b m : Nat) : wt (es ++ [(a, b)]) [] m = wt es [] m + (if b = m then 1 else 0) := by
  unfold wt
  rw [List.filter_append, List.length_append]
  by_cases h : b = m
  · simp [h]
  · simp [h]
theorem next_one (es : List Ed) (a b n : Nat) : next (es ++ [(a, b)]) n = next es n ++ (if a = n then [b] else []) := by
  unfold next
  rw [List.filter_append, List.map_append]
  by_cases h : a = n
  · simp [h]
  · simp [h]
/-- how many each node waits for -/
def wl (N : Nat) (es : List Ed) : List Int := (List.range N).map fun m => ((wt es [] m : Nat) : Int)
/-- what each node leads to -/
def nl (N : Nat) (es : List Ed) : List (List Nat) := (List.range N).map (next es)
theorem map_set {α : Type} (N : Nat) (f : Nat → α) (b : Nat) (x : α) : ((List.range N).map f).set b x = (List.range N).map fun m => if m = b then x else f m := by
  apply List.ext_getElem
  · simp
  · intro i h1 h2
    rw [List.getElem_set]
    simp only [List.getElem_map, List.getElem_range]
    by_cases h : b = i
    · rw [if_pos h, if_pos h.symm]
    · rw [if_neg h, if_neg (fun e => h e.symm)]
theorem map_get {α : Type} (N : Nat) (f : Nat → α) (b : Nat) (hb : b < N) : ((List.range N).map f)[b]? = some (f b) := by
  rw [List.getElem?_map, List.getElem?_range hb]
  rfl
theorem wl_one (N : Nat) (es : List Ed) (a b : Nat) : wl N (es ++ [(a, b)]) = (wl N es).set b ((wt es [] b : Nat) + 1 : Int) := by
  unfold wl
  rw [map_set]
  refine List.map_congr_left fun m _ => ?_
  rw [wt_one]
  by_cases h : b = m
  · subst h; simp
  · rw [if_neg h, if_neg (fun e => h e.symm)]; simp
theorem nl_one (N : Nat) (es : List Ed) (a b : Nat) : nl N (es ++ [(a, b)]) = (nl N es).set a (next es a ++ [b]) := by
  unfold nl
  rw [map_set]
  refine List.map_congr_left fun m _ => ?_
  rw [next_one]
  by_cases h : a = m
  · subst h; simp
  · rw [if_neg h, if_neg (fun e => h e.symm)]; simp

/-! ### one node is taken: those that it leads to wait for one less -/
/-- how many each node still waits for, when j of those that n leads to have been told -/
def wj (N : Nat) (es : List Ed) (out : List Nat) (n j : Nat) : List Int := (List.range N).map fun m => ((wt es out m : Nat) : Int) - ((((next es n).take j).count m : Nat) : Int)
/-- .. and which wait no longer -/
def rj (N : Nat) (es : List Ed) (out : List Nat) (n j m : Nat) : Prop := m < N ∧ m ≠ n ∧ m ∉ out ∧ wt es out m = ((next es n).take j).count m
theorem take_snoc {α : Type} {l : List α} {j : Nat} {x : α} (h : l[j]? = some x) : l.take (j + 1) = l.take j ++ [x] := by
  obtain ⟨h', rfl⟩ := List.getElem?_eq_some_iff.1 h
  exact List.take_succ_eq_append_getElem h'
theorem count_snoc (l : List Nat) (x m : Nat) : (l ++ [x]).count m = l.count m + (if x = m then 1 else 0) := by
  rw [List.count_append, List.count_singleton]
  by_cases h : x = m
  · simp [h]
  · simp [h]
theorem wj_get {N : Nat} {es : List Ed} {out : List Nat} {n j m : Nat} (hm : m < N) : (wj N es out n j)[m]? = some (((wt es out m : Nat) : Int) - ((((next es n).take j).count m : Nat) : Int)) := map_get _ _ _ hm
theorem wj_step {N : Nat} {es : List Ed} {out : List Nat} {n j m : Nat} (hj : (next es n)[j]? = some m) : wj N es out n (j + 1) = (wj N es out n j).set m (((wt es out m : Nat) : Int) - ((((next es n).take j).count m : Nat) : Int) - 1) := by
  unfold wj
  rw [map_set, take_snoc hj]
  refine List.map_congr_left fun x _ => ?_
  rw [count_snoc]
  by_cases h : m = x
  · subst h; simp; omega
  · rw [if_neg h, if_neg (fun e => h e.symm)]; simp
/-- it is told once more: that one waits no longer, if it was the last -/
theorem rj_step {N : Nat} {es : List Ed} {out : List Nat} {n j m : Nat} (hg : Good N es out) (hes : ∀ e ∈ es, e.2 < N) (hn : nxt N es out = some n) (hj : (next es n)[j]? = some m) (x : Nat) :
    rj N es out n (j + 1) x ↔ rj N es out n j x ∨ (x = m ∧ wt es out m = ((next es n).take j).count m + 1) := by
  obtain ⟨h1, h2, h3, -⟩ := nxt_some hn
  have hmem : m ∈ next es n := List.mem_of_getElem? hj
  have hed := mem_next.1 hmem
  unfold rj
  rw [take_snoc hj, count_snoc]
  by_cases h : m = x
  · subst h
    rw [if_pos rfl]
    have hc : ((next es n).take (j + 1)).count m ≤ (next es n).count m := List.Sublist.count_le m (List.take_sublist _ _)
    rw [take_snoc hj, count_snoc, if_pos rfl] at hc
    have hw := count_le h2 es m
    have hmn : m ≠ n := fun e => h2 (h3 _ hed e)
    have hmo : m ∉ out := fun e => by
      obtain ⟨i, hi⟩ := List.getElem?_of_mem e
      exact h2 (List.mem_of_mem_take (hg.topo i m hi _ hed rfl))
    have hmN := hes _ hed
    constructor
    · rintro ⟨-, -, -, h⟩
      exact .inr ⟨rfl, h⟩
    · rintro (⟨-, -, -, h⟩ | ⟨-, h⟩)
      · omega
      · exact ⟨hmN, hmn, hmo, h⟩
  · rw [if_neg h, Nat.add_zero]
    constructor
    · exact fun h => .inl h
    · rintro (h' | ⟨e, -⟩)
      · exact h'
      · exact absurd e.symm h
theorem wj_zero (N : Nat) (es : List Ed) (out : List Nat) (n : Nat) : wj N es out n 0 = (List.range N).map fun m => ((wt es out m : Nat) : Int) := by
  unfold wj
  refine List.map_congr_left fun m _ => ?_
  simp
theorem wj_full {N : Nat} {es : List Ed} {out : List Nat} {n : Nat} (hn : n ∉ out) : wj N es out n (next es n).length = (List.range N).map fun m => ((wt es (out ++ [n]) m : Nat) : Int) := by
  unfold wj
  refine List.map_congr_left fun m _ => ?_
  rw [List.take_length]
  have := wt_snoc hn m es
  omega
theorem rj_zero {N : Nat} {es : List Ed} {out : List Nat} {n : Nat} (m : Nat) : rj N es out n 0 m ↔ (m < N ∧ rdy es out m = true) ∧ m ≠ n := by
  unfold rj
  rw [rdy_wt]
  simp
  constructor
  · rintro ⟨a, b, c, d⟩; exact ⟨⟨a, c, d⟩, b⟩
  · rintro ⟨⟨a, c, d⟩, b⟩; exact ⟨a, b, c, d⟩
theorem rj_full {N : Nat} {es : List Ed} {out : List Nat} {n : Nat} (hn : n ∉ out) (m : Nat) : rj N es out n (next es n).length m ↔ m < N ∧ rdy es (out ++ [n]) m = true := by
  unfold rj
  rw [List.take_length, rdy_wt]
  have := wt_snoc hn m es
  constructor
  · rintro ⟨a, b, c, d⟩
    refine ⟨a, fun h => ?_, by omega⟩
    rcases List.mem_append.1 h with h | h
    · exact c h
    · exact b (List.mem_singleton.1 h)
  · rintro ⟨a, b, c⟩
    exact ⟨a, fun e => b (by rw [e]; simp), fun h => b (List.mem_append_left _ h), by omega⟩
/-- the least of those that wait no longer -/
theorem nxt_least {N : Nat} {es : List Ed} {out : List Nat} {n : Nat} (h1 : n < N ∧ rdy es out n = true) (h2 : ∀ m, m < n → ¬ (m < N ∧ rdy es out m = true)) : nxt N es out = some n := by
  cases hn : nxt N es out with
  | none => have := nxt_none hn n h1.1; rw [this] at h1; exact absurd h1.2 (by simp)
  | some k =>
    obtain ⟨a, b, c, d⟩ := nxt_some hn
    have hk : rdy es out k = true := rdy_iff.2 ⟨b, c⟩
    by_cases hlt : k < n
    · exact absurd ⟨a, hk⟩ (h2 k hlt)
    · by_cases hgt : n < k
      · have := d n hgt; rw [this] at h1; exact absurd h1.2 (by simp)
      · rw [show k = n by omega]
theorem run_more {N : Nat} {es : List Ed} {out : List Nat} {n k : Nat} (h : nxt N es out = some n) : run N es (k + 1) out = run N es k (out ++ [n]) := by
  conv => lhs; unfold run
  rw [h]
theorem run_end {N : Nat} {es : List Ed} {out : List Nat} (h : nxt N es out = none) : ∀ k, run N es k out = out
  | 0 => rfl
  | k + 1 => by unfold run; rw [h]
end Go.Proofs.YtcpoglchjkpbpaaDoor.Gr
