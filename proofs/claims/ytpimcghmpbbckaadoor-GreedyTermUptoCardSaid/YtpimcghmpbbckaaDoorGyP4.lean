/-
  An argument that is a graph, at a law's end.
-/
import Derived.Test.YtpimcghmpbbckaaDoorGyP2
import Derived.Test.YtpimcghmpbbckaaDoorGyP3
import Derived.Test.YtpimcghmpbbckaaDoorGyP1
import Derived.Test.YtpimcghmpbbckaaDoorRows
import Derived.Maps.OwnOps
import Derived.Maps.Views
import Derived.Maps.OwnSet
import Derived.Test.YtpimcghmpbbckaaDoorCards
import Derived.Test.YtpimcghmpbbckaaDoorTie
import Derived.WalkKit
import Derived.ProofKit
import Derived.OpenShut
import Derived.Deep.DeepHandedRow
import Derived.Lib.LaidTab

namespace Go.Proofs.YtpimcghmpbbckaaDoor.Gr
set_option linter.unusedVariables false
set_option linter.unusedSimpArgs false
set_option maxRecDepth 100000

/-- who is done in the next round: the least ones that wait no longer, as many as there are workers -/
def now (N : Nat) (es : List Ed) (w : Nat) (D : List Nat) : List Nat := ((List.range N).filter (rdy es D)).take w
def rounds (N : Nat) (es : List Ed) (w : Nat) : Nat → List Nat → List (List Nat)
  | 0, _ => []
  | f + 1, D => if now N es w D = [] then [] else now N es w D :: rounds N es w f (D ++ now N es w D)

theorem now_mem {N : Nat} {es : List Ed} {w : Nat} {D : List Nat} {m : Nat} (h : m ∈ now N es w D) : m < N ∧ rdy es D m = true := by
  have := List.mem_of_mem_take h
  rw [List.mem_filter, List.mem_range] at this
  exact this
theorem now_nodup (N : Nat) (es : List Ed) (w : Nat) (D : List Nat) : (now N es w D).Nodup := (List.nodup_range.filter _).sublist (List.take_sublist _ _)
theorem now_length (N : Nat) (es : List Ed) (w : Nat) (D : List Nat) : (now N es w D).length ≤ w := by unfold now; rw [List.length_take]; omega
/-- one more, that waits no longer -/
theorem Good.add {N : Nat} {es : List Ed} {D : List Nat} {n : Nat} (h : Good N es D) (h1 : n < N) (h2 : n ∉ D) (h3 : ∀ e ∈ es, e.2 = n → e.1 ∈ D) : Good N es (D ++ [n]) := by
  refine ⟨List.nodup_append.2 ⟨h.nd, by simp, fun a ha b hb e => h2 (by rw [← List.mem_singleton.1 hb, ← e]; exact ha)⟩, fun m hm => ?_, fun i m hi e he em => ?_⟩
  · rcases List.mem_append.1 hm with hm | hm
    · exact h.lt m hm
    · rw [List.mem_singleton.1 hm]; exact h1
  · by_cases hil : i < D.length
    · rw [List.getElem?_append_left hil] at hi
      rw [List.take_append_of_le_length (by omega)]
      exact h.topo i m hi e he em
    · have hil' : i = D.length := by
        obtain ⟨h6, -⟩ := List.getElem?_eq_some_iff.1 hi
        simp at h6
        omega
      subst hil'
      rw [List.take_append_of_le_length (by omega), List.take_length]
      simp at hi
      subst hi
      exact h3 e he em
/-- some of a round are done -/
theorem Good.part {N : Nat} {es : List Ed} {w : Nat} {D : List Nat} (h : Good N es D) : ∀ i, i ≤ (now N es w D).length → Good N es (D ++ (now N es w D).take i)
  | 0, _ => by simpa using h
  | i + 1, hi => by
    have ih := h.part (w := w) i (by omega)
    have hn : (now N es w D)[i]? = some (now N es w D)[i] := List.getElem?_eq_getElem hi
    obtain ⟨h1, h2⟩ := now_mem (List.mem_of_getElem? hn)
    obtain ⟨h3, h4⟩ := rdy_iff.1 h2
    rw [take_snoc hn, ← List.append_assoc]
    refine ih.add h1 (fun hm => ?_) (fun e he em => List.mem_append_left _ (h4 e he em))
    rcases List.mem_append.1 hm with hm | hm
    · exact h3 hm
    · obtain ⟨j, hj⟩ := List.getElem?_of_mem hm
      rw [List.getElem?_take] at hj
      split at hj
      · have hnd := now_nodup N es w D
        have := (List.getElem?_inj (by omega) hnd).1 (hj.trans hn.symm)
        omega
      · cases hj
theorem Good.round {N : Nat} {es : List Ed} {w : Nat} {D : List Nat} (h : Good N es D) : Good N es (D ++ now N es w D) := by
  have := h.part (w := w) (now N es w D).length (Nat.le_refl _)
  rwa [List.take_length] at this
/-- none waits no longer: all are done, or those that are left wait for one another -/
theorem now_nil {N : Nat} {es : List Ed} {w : Nat} {D : List Nat} (hw : 0 < w) : now N es w D = [] ↔ nxt N es D = none := by
  unfold now nxt
  rw [List.find?_eq_none]
  constructor
  · intro h x hx hr
    have hm : x ∈ (List.range N).filter (rdy es D) := List.mem_filter.2 ⟨hx, hr⟩
    rcases e : (List.range N).filter (rdy es D) with _ | ⟨y, ys⟩
    · rw [e] at hm; cases hm
    · rw [e] at h
      obtain ⟨v, rfl⟩ : ∃ v, w = v + 1 := ⟨w - 1, by omega⟩
      simp at h
  · intro h
    rw [List.filter_eq_nil_iff.2 h]
    simp
/-- what has been told once more: it waits no longer, if that was the last -/
theorem rj_told {N : Nat} {es : List Ed} {out : List Nat} {n j m : Nat} (hg : Good N es out) (hes : ∀ e ∈ es, e.2 < N) (h2 : n ∉ out) (h3 : ∀ e ∈ es, e.2 = n → e.1 ∈ out) (hj : (next es n)[j]? = some m) (x : Nat) :
    rj N es out n (j + 1) x ↔ rj N es out n j x ∨ (x = m ∧ wt es out m = ((next es n).take j).count m + 1) := by
  have hmem : m ∈ next es n := List.mem_of_getElem? hj
  have hed := mem_next.1 hmem
  unfold rj
  rw [take_snoc hj, count_snoc]
  by_cases h : m = x
  · subst h
    rw [if_pos rfl]
    have hc : ((next es n).take (j + 1)).count m ≤ (next es n).count m := List.Sublist.count_le m (List.take_sublist _ _)
    rw [take_snoc hj, count_snoc, if_pos rfl] at hc
    have hw := count_le h2 es m
    have hmn : m ≠ n := fun e => h2 (h3 _ hed e)
    have hmo : m ∉ out := fun e => by
      obtain ⟨i, hi⟩ := List.getElem?_of_mem e
      exact h2 (List.mem_of_mem_take (hg.topo i m hi _ hed rfl))
    have hmN := hes _ hed
    constructor
    · rintro ⟨-, -, -, h⟩
      exact .inr ⟨rfl, h⟩
    · rintro (⟨-, -, -, h⟩ | ⟨-, h⟩)
      · omega
      · exact ⟨hmN, hmn, hmo, h⟩
  · rw [if_neg h, Nat.add_zero]
    constructor
    · exact fun h => .inl h
    · rintro (h' | ⟨e, -⟩)
      · exact h'
      · exact absurd e.symm h
end Go.Proofs.YtpimcghmpbbckaaDoor.Gr


namespace Go.Proofs.YtpimcghmpbbckaaDoor.Gr
set_option linter.unusedVariables false
set_option linter.unusedSimpArgs false
set_option maxRecDepth 100000

/-- where all can be taken one by one, nobody is left when none waits no longer -/
theorem all_out {N : Nat} {es : List Ed} {D : List Nat} (hT : (take N es).length = N) (h : nxt N es D = none) : ∀ m, m < N → m ∈ D := by
  have hG := good_take N es
  have key : ∀ (i m : Nat), (take N es)[i]? = some m → m ∈ D := by
    intro i
    induction i using Nat.strongRecOn with
    | ind i ih =>
      intro m hi
      refine Decidable.byContradiction fun hm => ?_
      have hr : rdy es D m = true := rdy_iff.2 ⟨hm, fun e he em => by
        obtain ⟨j, hj⟩ := List.getElem?_of_mem (hG.topo i m hi e he em)
        rw [List.getElem?_take] at hj
        split at hj
        · rename_i hji
          exact ih j hji _ hj
        · cases hj⟩
      have := nxt_none h m (hG.lt m (List.mem_of_getElem? hi))
      rw [hr] at this
      cases this
  intro m hm
  obtain ⟨i, hi⟩ := List.getElem?_of_mem (hG.full hT m hm)
  exact key i m hi
theorem rounds_at {N : Nat} {es : List Ed} {w : Nat} : ∀ (f : Nat) (D : List Nat) (k : Nat) (a : List Nat), (rounds N es w f D)[k]? = some a → a = now N es w (D ++ ((rounds N es w f D).take k).flatten) ∧ a ≠ []
  | 0, D, k, a, h => by rw [rounds] at h; cases k <;> simp at h
  | f + 1, D, k, a, h => by
    unfold rounds at h ⊢
    split at h
    · simp at h
    · rename_i hne
      rw [if_neg hne]
      rcases k with _ | k
      · simp only [List.getElem?_cons_zero, Option.some.injEq] at h
        subst h
        exact ⟨by simp, hne⟩
      · rw [List.getElem?_cons_succ] at h
        have := rounds_at f _ k a h
        rw [List.take_succ_cons, List.flatten_cons, ← List.append_assoc]
        exact this
theorem good_rounds {N : Nat} {es : List Ed} {w : Nat} : ∀ (f : Nat) (D : List Nat), Good N es D → ∀ k, Good N es (D ++ ((rounds N es w f D).take k).flatten)
  | 0, D, h, k => by simpa [rounds] using h
  | f + 1, D, h, k => by
    unfold rounds
    split
    · simpa using h
    · rcases k with _ | k
      · simpa using h
      · rw [List.take_succ_cons, List.flatten_cons, ← List.append_assoc]
        exact good_rounds f _ h.round k
theorem rounds_stop {N : Nat} {es : List Ed} {w : Nat} (hw : 0 < w) : ∀ (f : Nat) (D : List Nat), Good N es D → N ≤ f + D.length → nxt N es (D ++ (rounds N es w f D).flatten) = none
  | 0, D, h, hf => by
    rw [rounds]
    simp only [List.flatten_nil, List.append_nil]
    cases hn : nxt N es D with
    | none => rfl
    | some n =>
      have := (h.snoc hn).length
      simp at this
      omega
  | f + 1, D, h, hf => by
    unfold rounds
    split
    · rename_i h0
      simpa using (now_nil hw).1 h0
    · rename_i hne
      have hl : 0 < (now N es w D).length := List.length_pos_iff.2 hne
      rw [List.flatten_cons, ← List.append_assoc]
      exact rounds_stop hw f _ h.round (by rw [List.length_append]; omega)
/-- so many rounds more change nothing -/
theorem rounds_fuel {N : Nat} {es : List Ed} {w : Nat} (hw : 0 < w) : ∀ (f : Nat) (D : List Nat), Good N es D → N ≤ f + D.length → rounds N es w (f + 1) D = rounds N es w f D
  | 0, D, h, hf => by
    have h0 : now N es w D = [] := (now_nil hw).2 (by
      have := rounds_stop hw 0 D h hf
      simpa [rounds] using this)
    unfold rounds
    rw [if_pos h0]
  | f + 1, D, h, hf => by
    have e1 : rounds N es w (f + 1 + 1) D = if now N es w D = [] then [] else now N es w D :: rounds N es w (f + 1) (D ++ now N es w D) := by rw [rounds]
    have e2 : rounds N es w (f + 1) D = if now N es w D = [] then [] else now N es w D :: rounds N es w f (D ++ now N es w D) := by rw [rounds]
    rw [e1, e2]
    by_cases h0 : now N es w D = []
    · rw [if_pos h0, if_pos h0]
    · have hl : 0 < (now N es w D).length := List.length_pos_iff.2 h0
      rw [if_neg h0, if_neg h0, rounds_fuel hw f _ h.round (by rw [List.length_append]; omega)]

/-- the rounds of a graph -/
def all (N : Nat) (es : List Ed) (w : Nat) : List (List Nat) := rounds N es w N []
theorem all_full {N : Nat} {es : List Ed} {w : Nat} (hw : 0 < w) (hT : (take N es).length = N) : (∀ m, m < N → m ∈ (all N es w).flatten) ∧ (all N es w).flatten.length = N := by
  have hs : nxt N es (all N es w).flatten = none := by
    have := rounds_stop (es := es) hw N [] (Good.nil N es) (by simp)
    rwa [List.nil_append] at this
  have hg : Good N es (all N es w).flatten := by
    have := good_rounds (w := w) N [] (Good.nil N es) (all N es w).length
    rw [List.nil_append] at this
    unfold all at this ⊢
    rwa [List.take_length] at this
  have hin := all_out hT hs
  refine ⟨hin, Nat.le_antisymm hg.length ?_⟩
  have := (List.nodup_range (n := N)).length_le_of_subset (l₂ := (all N es w).flatten) (fun m hm => hin m (List.mem_range.1 hm))
  simpa using this
/-- none is done ahead of what it waits for -/
theorem all_order {N : Nat} {es : List Ed} {w k m : Nat} {a : List Nat} (h : (all N es w)[k]? = some a) (hm : m ∈ a) : ∀ e ∈ es, e.2 = m → ∃ j b, j < k ∧ (all N es w)[j]? = some b ∧ e.1 ∈ b := by
  obtain ⟨ha, -⟩ := rounds_at N [] k a h
  rw [ha] at hm
  intro e he em
  have hin := (rdy_iff.1 (now_mem hm).2).2 e he em
  rw [List.nil_append, List.mem_flatten] at hin
  obtain ⟨b, hb, hbm⟩ := hin
  obtain ⟨j, hj⟩ := List.getElem?_of_mem hb
  rw [List.getElem?_take] at hj
  split at hj
  · rename_i hjk
    exact ⟨j, b, hjk, hj, hbm⟩
  · cases hj
end Go.Proofs.YtpimcghmpbbckaaDoor.Gr


namespace Go.Proofs.YtpimcghmpbbckaaDoor.Gr
set_option linter.unusedVariables false
set_option linter.unusedSimpArgs false
set_option maxRecDepth 100000

/-- between two nodes of the round a, i of which have been told of -/
def HeapP (N : Nat) (es : List Ed) (D a : List Nat) (i : Nat) (hl : List Nat) : Prop := hl.Nodup ∧ ∀ x, x ∈ hl ↔ (x < N ∧ rdy es (D ++ a.take i) x = true) ∧ x ∉ a
/-- j of those that its i-th node leads to have been told -/
def HeapQ (N : Nat) (es : List Ed) (D a : List Nat) (i n j : Nat) (hl : List Nat) : Prop := hl.Nodup ∧ ∀ x, x ∈ hl ↔ rj N es (D ++ a.take i) n j x ∧ x ∉ a

section
variable {N : Nat} {es : List Ed} {D a hl : List Nat} {i n j m : Nat}
theorem HeapP.begin (h : HeapP N es D a i hl) (hn : a[i]? = some n) : HeapQ N es D a i n 0 hl := by
  refine ⟨h.1, fun x => ?_⟩
  rw [h.2, rj_zero]
  constructor
  · rintro ⟨h1, h2⟩
    exact ⟨⟨h1, fun e => h2 (by rw [e]; exact List.mem_of_getElem? hn)⟩, h2⟩
  · rintro ⟨⟨h1, -⟩, h2⟩
    exact ⟨h1, h2⟩
theorem HeapQ.finish (h : HeapQ N es D a i n (next es n).length hl) (hn : a[i]? = some n) (ho : n ∉ D ++ a.take i) : HeapP N es D a (i + 1) hl := by
  refine ⟨h.1, fun x => ?_⟩
  rw [h.2, rj_full ho, take_snoc hn, ← List.append_assoc]
theorem HeapP.last (h : HeapP N es D a a.length hl) : hl.Nodup ∧ ∀ x, x ∈ hl ↔ x < N ∧ rdy es (D ++ a) x = true := by
  refine ⟨h.1, fun x => ?_⟩
  rw [h.2, List.take_length]
  constructor
  · exact fun h => h.1
  · exact fun h => ⟨h, fun hx => (rdy_iff.1 h.2).1 (List.mem_append_right _ hx)⟩
theorem HeapP.first (h0 : hl.Nodup) (h : ∀ x, x ∈ hl ↔ (x < N ∧ rdy es D x = true) ∧ x ∉ a) : HeapP N es D a 0 hl := by
  refine ⟨h0, fun x => ?_⟩
  rw [h, List.take_zero, List.append_nil]
/-- it waits for nobody any longer: it is pushed -/
theorem HeapQ.push (h : HeapQ N es D a i n j hl) (hg : Good N es (D ++ a.take i)) (hes : ∀ e ∈ es, e.2 < N) (h2 : n ∉ D ++ a.take i) (h3 : ∀ e ∈ es, e.2 = n → e.1 ∈ D ++ a.take i) (hj : (next es n)[j]? = some m) (hma : m ∉ a) (hw : wt es (D ++ a.take i) m = ((next es n).take j).count m + 1) {hl' : List Nat} (hp : hl'.Perm (m :: hl)) : HeapQ N es D a i n (j + 1) hl' := by
  have hm : m ∉ hl := fun hm => by
    have := ((h.2 m).1 hm).1.2.2.2
    omega
  refine ⟨hp.nodup_iff.2 (List.nodup_cons.2 ⟨hm, h.1⟩), fun x => ?_⟩
  rw [hp.mem_iff, List.mem_cons, h.2, rj_told hg hes h2 h3 hj]
  constructor
  · rintro (rfl | ⟨q1, q2⟩)
    · exact ⟨.inr ⟨rfl, hw⟩, hma⟩
    · exact ⟨.inl q1, q2⟩
  · rintro ⟨q1 | ⟨rfl, -⟩, q2⟩
    · exact .inr ⟨q1, q2⟩
    · exact .inl rfl
theorem HeapQ.stay (h : HeapQ N es D a i n j hl) (hg : Good N es (D ++ a.take i)) (hes : ∀ e ∈ es, e.2 < N) (h2 : n ∉ D ++ a.take i) (h3 : ∀ e ∈ es, e.2 = n → e.1 ∈ D ++ a.take i) (hj : (next es n)[j]? = some m) (hw : wt es (D ++ a.take i) m ≠ ((next es n).take j).count m + 1) : HeapQ N es D a i n (j + 1) hl := by
  refine ⟨h.1, fun x => ?_⟩
  rw [h.2, rj_told hg hes h2 h3 hj]
  constructor
  · exact fun ⟨q1, q2⟩ => ⟨.inl q1, q2⟩
  · rintro ⟨q1 | ⟨rfl, q3⟩, q2⟩
    · exact ⟨q1, q2⟩
    · exact absurd q3 hw
end
/-- whom a node of the round leads to is not of the round -/
theorem next_out {N w : Nat} {es : List Ed} {D : List Nat} {n m : Nat} (hn : n ∈ now N es w D) (hm : m ∈ next es n) : m ∉ now N es w D := fun h => by
  have h1 := (rdy_iff.1 (now_mem h).2).2 _ (mem_next.1 hm) rfl
  exact (rdy_iff.1 (now_mem hn).2).1 h1
end Go.Proofs.YtpimcghmpbbckaaDoor.Gr


namespace Go.Proofs.YtpimcghmpbbckaaDoor.Gr
set_option linter.unusedVariables false
set_option linter.unusedSimpArgs false
set_option maxRecDepth 100000

theorem heap_round {N w : Nat} {es : List Ed} {D hl : List Nat} (hO : Hp.Ok hl) (hn : hl.Nodup) (hm : ∀ x, x ∈ hl ↔ x < N ∧ rdy es D x = true) : (Hp.take w hl).1 = now N es w D ∧ Hp.Ok (Hp.take w hl).2 ∧ HeapP N es D (now N es w D) 0 (Hp.take w hl).2 := by
  obtain ⟨h1, h2⟩ := Hp.take_sorted (n := w) hO hn hm
  obtain ⟨h3, h4, -⟩ := Hp.take_ok w hl hO
  have h5 : (Hp.take w hl).1 = now N es w D := h1
  refine ⟨h5, h3, HeapP.first ?_ ?_⟩
  · exact (List.nodup_append.1 (h4.nodup_iff.2 hn)).2.1
  · intro x
    rw [h2 x, h5]
/-- nobody is in the heap: the rounds are over -/
theorem heap_nil {N w : Nat} {es : List Ed} {D hl : List Nat} (hm : ∀ x, x ∈ hl ↔ x < N ∧ rdy es D x = true) (hw : 0 < w) : hl = [] ↔ now N es w D = [] := by
  unfold now
  rw [List.eq_nil_iff_forall_not_mem]
  constructor
  · intro h
    rw [List.filter_eq_nil_iff.2 (fun x hx hr => h x ((hm x).2 ⟨List.mem_range.1 hx, hr⟩))]
    simp
  · intro h x hx
    have hin : x ∈ (List.range N).filter (rdy es D) := List.mem_filter.2 ⟨List.mem_range.2 ((hm x).1 hx).1, ((hm x).1 hx).2⟩
    obtain ⟨v, rfl⟩ : ∃ v, w = v + 1 := ⟨w - 1, by omega⟩
    rcases e : (List.range N).filter (rdy es D) with _ | ⟨y, ys⟩
    · rw [e] at hin; cases hin
    · rw [e] at h; simp at h
end Go.Proofs.YtpimcghmpbbckaaDoor.Gr


namespace Go.Proofs.YtpimcghmpbbckaaDoor
set_option linter.unusedVariables false
set_option linter.unusedSimpArgs false
set_option maxRecDepth 100000
open Go.RowKit

theorem hnats_ilist (l : List Nat) : hnats l = ilist l := by simp [hnats, ilist, ints]
def SlN (w : World) (v : Value) (c : List Nat) : Prop := SlV w 1 v c.length (ilist c)
theorem SlN.below {w w' : World} {v : Value} {c : List Nat} (h : SlN w v c) (hb : Below w.heap.size w w') : SlN w' v c := SlV.below h hb
theorem SlN.far {S : Nat → Prop} {w w' : World} {v : Value} {xs : List Nat} (h : SlN w v xs) (k : Keeps S w w') (hf : FarU S v xs) : SlN w' v xs := by
  obtain ⟨A, c, rfl, h1, h2, h3, b, o, h4, h5⟩ := h
  refine ⟨A, c, rfl, h1, h2, h3, b, o, fun hn => ⟨(h4 hn).1, Nat.lt_of_lt_of_le (h4 hn).2 k.size⟩, fun j u hu => ?_⟩
  have hn : ilist xs ≠ [] := fun e => by rw [e] at hu; simp at hu
  obtain ⟨hA, hb⟩ := h4 hn
  exact (World.cell?_of_block (a := ⟨b, o + j, none⟩) (k.block b hb (hf (fun e => hn (by rw [e]; rfl)) _ (by rw [hA]; rfl)))).trans (h5 j u hu)
theorem FarU.stepN {T T' : Nat → Prop} {w : World} {v : Value} {xs : List Nat} (h : FarU T v xs) (hu : SlN w v xs) (hT : ∀ k, T' k → T k ∨ w.heap.size ≤ k) : FarU T' v xs := fun hn p hp hk => by
  obtain ⟨A, c, rfl, h1, h2, h3, b, o, h4, h5⟩ := hu
  obtain ⟨hA, hb⟩ := h4 (fun e => hn (by simpa [ilist, ints] using e))
  have hp' : A = some p := hp
  rcases hT _ hk with hk | hk
  · exact h hn p hp hk
  · rw [hp'] at hA
    injection hA with hA
    rw [hA] at hk
    simp at hk
    omega
theorem FarU.mono {T T' : Nat → Prop} {v : Value} {xs : List Nat} (h : FarU T v xs) (hT : ∀ k, T' k → T k) : FarU T' v xs := fun hn p hp hk => h hn p hp (hT _ hk)
theorem FarU.none (T : Nat → Prop) (v : Value) : FarU T v [] := fun h => absurd rfl h
theorem new_own {w : World} {B sz n : Nat} {e : TypeId} {v : Value} {xs : List Value} (h : w.ownsRow B e sz v n xs) : New B v := fun p hp => by
  rcases h.2 with ⟨rfl, -⟩ | ⟨g, cap, cur, rfl, hB, -⟩
  · cases hp
  · injection hp with hp
    rw [← hp]
    exact hB
theorem SlN.of_own {w : World} {B : Nat} {e : TypeId} {v : Value} {c : List Nat} (h : w.ownsRow B e 1 v c.length (ilist c)) : SlN w v c := SlV.of_own h

theorem SlN.form {w : World} {v : Value} {c : List Nat} (h : SlN w v c) : ∃ A k, v = .slice A c.length k ∧ c.length ≤ k ∧ k ≤ maxLen := by
  obtain ⟨A, k, rfl, h1, h2, -⟩ := h
  exact ⟨A, k, rfl, h1, h2⟩
theorem ilist_get {xs : List Nat} {j x : Nat} (h : xs[j]? = some x) : (ilist xs)[j]? = some (.int .i64 (x : Int)) := by
  show (List.map _ (List.map _ _))[j]? = _
  rw [List.getElem?_map, List.getElem?_map, h]
  rfl
theorem SlN.get {w : World} {A : Option Addr} {n k : Nat} {xs : List Nat} (h : SlN w (.slice A n k) xs) {j x : Nat} (hj : xs[j]? = some x) : ∃ g o, A = some ⟨g, o, none⟩ ∧ g < w.heap.size ∧ w.cell? ⟨g, o + j, none⟩ = some (.int .i64 (x : Int)) := by
  obtain ⟨A', c', he, -, -, -, hcc⟩ := h
  injection he with e1 e2 e3
  subst e1
  have gm := ilist_get hj
  obtain ⟨g, o, rfl, hgl, hgc⟩ := hcc.at_ (fun e => by rw [e] at gm; simp at gm)
  exact ⟨g, o, rfl, hgl, hgc _ _ gm⟩
theorem SlN.get0 {w : World} {g n k : Nat} {xs : List Nat} (h : SlN w (.slice (some ⟨g, 0, none⟩) n k) xs) {j x : Nat} (hj : xs[j]? = some x) : w.cell? ⟨g, j, none⟩ = some (.int .i64 (x : Int)) := by
  obtain ⟨g', o, he, -, hc⟩ := h.get hj
  injection he with he
  injection he with e1 e2
  subst e1 e2
  rwa [Nat.zero_add] at hc
/-- as long as it may be -/
theorem SlN.clip {w : World} {A : Option Addr} {k : Nat} {xs : List Nat} (h : SlN w (.slice A xs.length k) xs) : SlN w (.slice A xs.length xs.length) xs := by
  obtain ⟨A', c', he, h1, h2, h3, hcc⟩ := h
  injection he with e1 e2 e3
  subst e1
  exact ⟨A, xs.length, rfl, Nat.le_refl _, Nat.le_trans h1 h2, h3, hcc⟩
theorem clipn_any (w : World) (ad : Addr) (n c : Nat) (hnc : n ≤ c) (hc : c ≤ maxLen) : Calls Tryd.prog 37 #[.slice (some ad) n c] w fun e w' => e = .returned (.slice (some ad) n n) ∧ w = w' := by
  unfold maxLen at hc
  go_enter Tryd.func37, Tryd.ntmps37
  go_wp2
  go_ret
  exact ⟨rfl, rfl⟩

namespace Gy
/-- the blocks that are turned: those of the waits, of the heap, of its row, of the rounds' row -/
def T (q p : Nat) (u o : Value) (k : Nat) : Prop := k = q ∨ k = p ∨ u.ownBlock = some k ∨ o.ownBlock = some k
structure St (w0 : World) (B q r p N : Nat) (vs : List Value) (wr : World) (ws : List Int) (u : Value) (hl : List Nat) (o : Value) (os : List Value) (fs : List (Value × List Nat)) : Prop where
  wt : wr.ownsRow B 3 1 (.slice (some ⟨q, 0, none⟩) N N) N (ints .i64 ws)
  nb : Blk wr r 32 vs
  hp : HpR wr B p u hl
  ou : wr.ownsRow B 32 1 o os.length os
  far : ∀ x ∈ fs, SlN wr x.1 x.2 ∧ FarU (T q p u o) x.1 x.2
  below : Below B w0 wr
  plo : B ≤ p
  uq : u.ownBlock ≠ some q
  nor : o.ownBlock ≠ some r
section
variable {w0 wr w' : World} {B q r p N : Nat} {vs : List Value} {ws ws' : List Int} {u u' o o' : Value} {hl hl' : List Nat} {os os' : List Value} {fs fs' : List (Value × List Nat)}
theorem St.tlt (h : St w0 B q r p N vs wr ws u hl o os fs) : ∀ k, T q p u o k → k < wr.heap.size := fun k hk => by
  rcases hk with rfl | rfl | hk | hk
  · exact (h.wt.lt _ rfl).2
  · exact h.hp.blk.lt
  · exact (h.hp.row.lt k hk).2
  · exact (h.ou.lt k hk).2
theorem St.tge (h : St w0 B q r p N vs wr ws u hl o os fs) : ∀ k, T q p u o k → B ≤ k := fun k hk => by
  rcases hk with rfl | rfl | hk | hk
  · exact (h.wt.lt _ rfl).1
  · exact h.plo
  · exact (h.hp.row.lt k hk).1
  · exact (h.ou.lt k hk).1
theorem St.tr (h : St w0 B q r p N vs wr ws u hl o os fs) : ¬ T q p u o r := fun hk => by
  rcases hk with rfl | rfl | hk | hk
  · exact own_blk_ne h.wt h.nb (by decide) rfl
  · have h1 := h.nb
    have h2 := h.hp.blk
    have := h1.symm.trans h2
    injection this with this
    injection this with _ e
    exact absurd e (by decide)
  · exact own_blk_ne h.hp.row h.nb (by decide) hk
  · exact h.nor hk
/-- a turn: only what may be turned was turned -/
theorem St.turn {S : Nat → Prop} (h : St w0 B q r p N vs wr ws u hl o os fs) (hk : Keeps S wr w') (hS : ∀ k, S k → T q p u o k)
    (wt' : w'.ownsRow B 3 1 (.slice (some ⟨q, 0, none⟩) N N) N (ints .i64 ws')) (hp' : HpR w' B p u' hl') (ou' : w'.ownsRow B 32 1 o' os'.length os')
    (hT : ∀ k, T q p u' o' k → T q p u o k ∨ wr.heap.size ≤ k) (uq' : u'.ownBlock ≠ some q) (hf : ∀ x ∈ fs', x ∈ fs ∨ (SlN w' x.1 x.2 ∧ FarU (T q p u' o') x.1 x.2)) : St w0 B q r p N vs w' ws' u' hl' o' os' fs' := by
  refine ⟨wt', h.nb.keeps hk (fun hs => h.tr (hS _ hs)), hp', ou', fun x hx => ?_, h.below.trans (hk.below h.hp.base (fun k hs => h.tge k (hS k hs))), h.plo, uq', fun e => ?_⟩
  · rcases hf x hx with h1 | h1
    · obtain ⟨a, b⟩ := h.far x h1
      exact ⟨a.far hk (b.mono hS), b.stepN a hT⟩
    · exact h1
  · rcases hT r (.inr (.inr (.inr e))) with h1 | h1
    · exact h.tr h1
    · have := h.nb.lt
      omega
theorem St.step (h : St w0 B q r p N vs wr ws u hl o os fs) (hb : Below wr.heap.size wr w') : St w0 B q r p N vs w' ws u hl o os fs :=
  h.turn (Keeps.of_below hb (fun _ => False)) (fun _ hk => hk.elim) (own_keeps h.wt (Keeps.of_below hb (fun _ => False)) (fun _ _ => id))
    ⟨h.hp.blk.below hb, own_keeps h.hp.row (Keeps.of_below hb (fun _ => False)) (fun _ _ => id), Nat.le_trans h.hp.base hb.size⟩
    (own_keeps h.ou (Keeps.of_below hb (fun _ => False)) (fun _ _ => id)) (fun _ hk => .inl hk) h.uq (fun _ hx => .inl hx)
/-- the heap is turned -/
theorem St.heap (h : St w0 B q r p N vs wr ws u hl o os fs) (hp' : HpR w' B p u' hl') (hk : Keeps (HpT p u) wr w') (hu : u'.ownBlock = u.ownBlock ∨ ∀ k, u'.ownBlock = some k → wr.heap.size ≤ k) : St w0 B q r p N vs w' ws u' hl' o os fs := by
  have hqp : q ≠ p := fun e => own_blk_ne h.wt h.hp.blk (by decide) (by rw [e]; rfl)
  have hop : o.ownBlock ≠ some p := own_blk_ne h.ou h.hp.blk (by decide)
  have hou : ∀ k, o.ownBlock = some k → u.ownBlock ≠ some k := fun k h1 h2 => own_own_ne h.ou h.hp.row (by decide) h1 h2
  refine h.turn hk (fun k hs => hs.elim (fun e => .inr (.inl e)) (fun e => .inr (.inr (.inl e)))) (own_keeps h.wt hk (fun g hg hs => ?_)) hp' (own_keeps h.ou hk (fun g hg hs => ?_)) (fun k hk => ?_) ?_ (fun _ hx => .inl hx)
  · injection hg with hg
    subst hg
    exact hs.elim hqp h.uq
  · exact hs.elim (fun e => hop (by rw [hg, e])) (hou g hg)
  · rcases hk with e | e | e | e
    · exact .inl (.inl e)
    · exact .inl (.inr (.inl e))
    · rcases hu with h1 | h1
      · exact .inl (.inr (.inr (.inl (by rw [← h1]; exact e))))
      · exact .inr (h1 k e)
    · exact .inl (.inr (.inr (.inr e)))
  · rcases hu with h1 | h1
    · rw [h1]; exact h.uq
    · intro e
      have := h1 q e
      have := (h.wt.lt q rfl).2
      omega
/-- how many one waits for is turned -/
theorem St.wait (h : St w0 B q r p N vs wr ws u hl o os fs) (wt' : w'.ownsRow B 3 1 (.slice (some ⟨q, 0, none⟩) N N) N (ints .i64 ws')) (hg : wr.grownBy w' (some q)) : St w0 B q r p N vs w' ws' u hl o os fs := by
  have hqp : q ≠ p := fun e => own_blk_ne h.wt h.hp.blk (by decide) (by rw [e]; rfl)
  have hoq : o.ownBlock ≠ some q := fun e => own_own_ne h.ou h.wt (by decide) e rfl
  have hk := Keeps.of_grown hg
  refine h.turn hk (fun k hs => .inl (by injection hs)) wt' ⟨h.hp.blk.grown hg (fun e => hqp (by injection e with e; exact e.symm)), own_keeps h.hp.row hk (fun g hg e => h.uq (by rw [hg, e])), Nat.le_trans h.hp.base hg.size⟩ (own_keeps h.ou hk (fun g hg e => hoq (by rw [hg, e]))) (fun _ hk => .inl hk) h.uq (fun _ hx => .inl hx)
/-- one round more -/
theorem St.out {v : Value} (h : St w0 B q r p N vs wr ws u hl o os fs) (hr : w'.ownsRow B 32 1 o' (os.length + 1) (os ++ [v])) (hg : wr.grownBy w' o.ownBlock) (hv : o'.ownBlock = o.ownBlock ∨ ∃ k, wr.heap.size ≤ k ∧ o'.ownBlock = some k) (hf : ∀ x ∈ fs', x ∈ fs) : St w0 B q r p N vs w' ws u hl o' (os ++ [v]) fs' := by
  have hop : o.ownBlock ≠ some p := own_blk_ne h.ou h.hp.blk (by decide)
  have hou : ∀ k, o.ownBlock = some k → u.ownBlock ≠ some k := fun k h1 h2 => own_own_ne h.ou h.hp.row (by decide) h1 h2
  have hoq : o.ownBlock ≠ some q := fun e => own_own_ne h.ou h.wt (by decide) e rfl
  have hk := Keeps.of_grown hg
  refine h.turn hk (fun k hs => .inr (.inr (.inr hs.symm))) (own_keeps h.wt hk (fun g hg e => hoq (by rw [← e, ← hg]; rfl))) ⟨h.hp.blk.grown hg (fun e => hop e.symm), own_keeps h.hp.row hk (fun g hg e => hou g e.symm hg), Nat.le_trans h.hp.base hg.size⟩ (by simpa using hr) (fun k hk => ?_) h.uq (fun x hx => .inl (hf x hx))
  rcases hk with e | e | e | e
  · exact .inl (.inl e)
  · exact .inl (.inr (.inl e))
  · exact .inl (.inr (.inr (.inl e)))
  · rcases hv with h1 | ⟨j, hj, h1⟩
    · exact .inl (.inr (.inr (.inr (by rw [← h1]; exact e))))
    · rw [h1] at e; injection e with e; exact .inr (by omega)
/-- one more that is read -/
theorem St.more {v : Value} {a : List Nat} (h : St w0 B q r p N vs wr ws u hl o os fs) (hv : SlN wr v a) (hf : FarU (T q p u o) v a) : St w0 B q r p N vs wr ws u hl o os ((v, a) :: fs) :=
  ⟨h.wt, h.nb, h.hp, h.ou, fun x hx => (List.mem_cons.1 hx).elim (fun e => by subst e; exact ⟨hv, hf⟩) (h.far x), h.below, h.plo, h.uq, h.nor⟩
theorem St.only {fs' : List (Value × List Nat)} (h : St w0 B q r p N vs wr ws u hl o os fs) (hf : ∀ x ∈ fs', x ∈ fs) : St w0 B q r p N vs wr ws u hl o os fs' :=
  ⟨h.wt, h.nb, h.hp, h.ou, fun x hx => h.far x (hf x hx), h.below, h.plo, h.uq, h.nor⟩
end
/-- the nodes' rows are laid, the heap is made -/
theorem St.start {w2 wr : World} {B q r N : Nat} {T0 : Nat → Prop} {vs : List Value} {ws : List Int} {nx : List (List Nat)} (h : OwnTo B w2 T0 wr r 32 vs (tkR (.slice (some ⟨q, 0, none⟩) N N) ws vs nx)) (hb : Below B w2 wr) (hl : ws.length = N) :
    St w2 B q r wr.heap.size N vs (wr.alloc (.cells #[.slice none 0 0] 65)) ws (.slice none 0 0) [] (.slice none 0 0) [] (vs.zip nx) := by
  have ho := h.own
  have ha := ho.alloc (.cells #[.slice none 0 0] 65)
  have hwt : ∀ w', Own B w' r 32 vs (tkR (.slice (some ⟨q, 0, none⟩) N N) ws vs nx) → w'.ownsRow B 3 1 (.slice (some ⟨q, 0, none⟩) N N) N (ints .i64 ws) := fun w' h => by
    have := h.row 0 rfl
    unfold Rw.at_ wrw at this
    rw [hl] at this
    exact this
  refine ⟨hwt _ ha, ha.blk, ⟨Blk.new wr 65 [.slice none 0 0], World.ownsRow_nil _ _ _ _, ha.base⟩, World.ownsRow_nil _ _ _ _, fun x hx => ?_, hb.trans (below_alloc (Below.refl _ _) _ |>.mono ho.base), ho.base, by simp [Value.ownBlock], by simp [Value.ownBlock]⟩
  obtain ⟨i, hi⟩ := List.getElem?_of_mem hx
  obtain ⟨v, c⟩ := x
  rw [List.getElem?_zip_eq_some] at hi
  obtain ⟨h1, h2⟩ := hi
  have hg := tkR_get (.slice (some ⟨q, 0, none⟩) N N) ws vs nx i v c h1 h2
  have hr : wr.ownsRow B 3 1 v c.length (ilist c) := ho.row (i + 1) hg
  refine ⟨(SlN.of_own hr).below (below_alloc (Below.refl _ _) _), fun hn p hp hk => ?_⟩
  have hv : v.ownBlock = some p.block := by
    rcases hr.2 with ⟨rfl, -⟩ | ⟨g, cap, cur, rfl, -⟩
    · cases hp
    · injection hp with hp
      rw [← hp]
      rfl
  rcases hk with e | e | e | e
  · refine ho.ap (i + 1) 0 _ _ hg rfl (by omega) p.block hv ?_
    rw [e]; rfl
  · have := (hr.lt _ hv).2
    omega
  · cases e
  · cases e
/-- what is pushed is a node that was not there: the heap is short -/
theorem short {N : Nat} {hl : List Nat} (h : hl.Nodup) (hm : ∀ x ∈ hl, x < N) : hl.length ≤ N := by
  have := h.length_le_of_subset (l₂ := List.range N) (fun x hx => List.mem_range.2 (hm x hx))
  simpa using this
end Gy
end Go.Proofs.YtpimcghmpbbckaaDoor


namespace Go.Proofs.YtpimcghmpbbckaaDoor
set_option linter.unusedVariables false
set_option linter.unusedSimpArgs false
set_option maxRecDepth 100000
open Go.RowKit

/-- what Rounds gives -/
def Gy.Rs (w : World) (os : List Value) (ls : List (List Nat)) : Prop := os.length = ls.length ∧ ∀ x ∈ os.zip ls, SlN w x.1 x.2

/-- between two rounds -/
structure Gy.L3 (N : Nat) (es : List Gr.Ed) (W : Nat) (ls : List (List Nat)) (os : List Value) (hl : List Nat) (f : Nat) : Prop where
  good : Gr.Good N es ls.flatten
  len : os.length = ls.length
  short : ls.length ≤ ls.flatten.length
  fuel : N ≤ f + ls.flatten.length
  run : ls ++ Gr.rounds N es W f ls.flatten = Gr.all N es W
  ok : Hp.Ok hl
  nd : hl.Nodup
  mem : ∀ x, x ∈ hl ↔ x < N ∧ Gr.rdy es ls.flatten x = true
theorem Gy.L3.done {N : Nat} {es : List Gr.Ed} {W : Nat} {ls : List (List Nat)} {os : List Value} {hl : List Nat} {f : Nat} (h : Gy.L3 N es W ls os hl f) (hW : 0 < W) (h0 : hl = []) : ls = Gr.all N es W := by
  have hn := (Gr.heap_nil h.mem hW).1 h0
  have : Gr.rounds N es W f ls.flatten = [] := by
    cases f with
    | zero => rfl
    | succ f => rw [Gr.rounds, if_pos hn]
  rw [← h.run, this, List.append_nil]
theorem Gy.L3.next {N : Nat} {es : List Gr.Ed} {W : Nat} {ls : List (List Nat)} {os : List Value} {hl hl' : List Nat} {f : Nat} (h : Gy.L3 N es W ls os hl f) (hW : 0 < W) (h0 : hl ≠ []) (v : Value) (hok : Hp.Ok hl') (hP : Gr.HeapP N es ls.flatten (Gr.now N es W ls.flatten) (Gr.now N es W ls.flatten).length hl') :
    ∃ f', Gy.L3 N es W (ls ++ [Gr.now N es W ls.flatten]) (os ++ [v]) hl' f' ∧ ls.length < N := by
  have hne : Gr.now N es W ls.flatten ≠ [] := fun e => h0 ((Gr.heap_nil h.mem hW).2 e)
  have hpos := List.length_pos_iff.2 hne
  have hg := h.good.round (w := W)
  have hgl := hg.length
  rw [List.length_append] at hgl
  obtain ⟨h1, h2⟩ := hP.last
  have hfl : (ls ++ [Gr.now N es W ls.flatten]).flatten = ls.flatten ++ Gr.now N es W ls.flatten := by simp
  cases f with
  | zero => have := h.fuel; omega
  | succ f =>
    refine ⟨f, ⟨by rw [hfl]; exact hg, by simp [h.len], ?_, ?_, ?_, hok, h1, by rw [hfl]; exact h2⟩, by have := h.short; omega⟩
    · rw [hfl, List.length_append, List.length_append]
      have := h.short
      simp only [List.length_singleton]
      omega
    · rw [hfl, List.length_append]
      have := h.fuel
      omega
    · rw [hfl, List.append_assoc]
      have := h.run
      rw [Gr.rounds, if_neg hne] at this
      exact this

set_option maxHeartbeats 4000000 in
theorem rounds_core (N : Nat) (es : List Gr.Ed) (W : Nat) (w : World) (A : Option Addr) (c : Nat) (hN : N ≤ 200) (hes : ∀ e ∈ es, e.1 < N ∧ e.2 < N) (hW1 : 1 ≤ W) (hW2 : W ≤ 16) (hA : SlV w 2 (.slice A es.length c) es.length (edcs es)) (hle : es.length ≤ 1099511627776)
    (hwr : ∀ w', Below w.heap.size w w' → Calls Tryd.prog 14 #[.agg #[.int .i64 (N : Int), .slice A es.length c]] w' fun e w'' => e = .returned (.int .i64 0) ∧ Below w'.heap.size w' w'') :
    Calls Tryd.prog 13 #[.agg #[.int .i64 (N : Int), .slice A es.length c], .int .i64 (W : Int)] w fun e w' => ∃ u os, e = .returned (.tuple #[u, .int .i64 0]) ∧ w'.ownsRow w.heap.size 32 1 u os.length os ∧ Gy.Rs w' os (Gr.all N es W) ∧ Below w.heap.size w w' := by
  have HES := Lib.hid hes
  have x00 := Blk.new w 24 [.int .i64 (N : Int), .slice A es.length c]
  have hb00 : Below w.heap.size w (w.alloc (.cells #[.int .i64 (N : Int), .slice A es.length c] 24)) := below_alloc (Below.refl _ _) _
  have hwr1 := hwr _ hb00
  clear hes hwr
  go_enter Tryd.func13, Tryd.ntmps13
  go_upto_region 1 with (fail)
  generalize (w.alloc (.cells #[.int .i64 (N : Int), .slice A es.length c] 24)) = V0 at x00 hb00 hwr1 ⊢
  have d0 : V0.cell? ⟨w.heap.size, 0, none⟩ = some (.int .i64 (N : Int)) := (x00.cell 0).trans rfl
  have d1 : V0.cell? ⟨w.heap.size, 1, none⟩ = some (.slice A es.length c) := (x00.cell 1).trans rfl
  go_wp2_with fail
  refine hwr1.mono ?_
  rintro _ W0 ⟨rfl, hbW⟩
  have x0 := x00.below hbW
  have hb0 := below_next hbW hb00
  have hlt0 : w.heap.size < W0.heap.size := x0.lt
  clear hwr1 x00 hb00 hbW d0 d1
  have n47 : 8 * N ≤ 281474976710656 := by omega
  have n47' : 24 * N ≤ 281474976710656 := by omega
  have n63 : N ≤ 9223372036854775807 := by omega
  obtain ⟨Q, hz0⟩ : ∃ Q, W0.heap.size = Q + 1 := ⟨W0.heap.size - 1, by omega⟩
  have hQw : w.heap.size ≤ Q := by omega
  have c00 : W0.cell? ⟨w.heap.size, 0, none⟩ = some (.int .i64 (N : Int)) := (x0.cell 0).trans rfl
  have c01 : W0.cell? ⟨w.heap.size, 1, none⟩ = some (.slice A es.length c) := (x0.cell 1).trans rfl
  have HZ0 := Lib.hid hz0
  clear hlt0
  go_wp2_with (first | (at_make; refine wp_make _ 32 3 (.int .i64 0) 8 N Tryd.underlying32 info_int rfl (by omega) (by omega) n47 n63 rfl rfl rfl rfl ?_; intro w1 hown1 hb1 hs1; have x1 := x0.below hb1; have c10 : w1.cell? ⟨w.heap.size, 0, none⟩ = some (.int .i64 (N : Int)) := (x1.cell 0).trans rfl; have c11 : w1.cell? ⟨w.heap.size, 1, none⟩ = some (.slice A es.length c) := (x1.cell 1).trans rfl) | (at_make; refine wp_make _ 26 32 (.slice none 0 0) 24 N Tryd.underlying26 info_sint rfl (by omega) (by omega) n47' n63 rfl rfl rfl rfl ?_; intro w2 hown2 hb2 hs2; have x2 := x1.below hb2; have c20 : w2.cell? ⟨w.heap.size, 0, none⟩ = some (.int .i64 (N : Int)) := (x2.cell 0).trans rfl; have c21 : w2.cell? ⟨w.heap.size, 1, none⟩ = some (.slice A es.length c) := (x2.cell 1).trans rfl) | fail)
  have hO : Own (Q + 1) w2 (Q + 1 + 1) 32 (List.replicate N (.slice none 0 0)) (tkR (.slice (some ⟨Q + 1, 0, none⟩) N N) (Gr.wl N []) (List.replicate N (.slice none 0 0)) (Gr.nl N [])) := by
    have hz := HZ0.out
    rw [hz] at hown1 hs1
    have hw := row_whole hown2
    rw [hs1] at hw
    exact tk_start hown1 hb2 hs1.symm hw (by omega)
  have hb02 : Below w.heap.size w w2 := below_next hb2 (below_next hb1 hb0)
  have hQ2 : Q + 1 + 1 < w2.heap.size := hO.blk.lt
  have HQ := Lib.hid hQw
  clear hown1 hown2 hb1 hb2 hs1 hs2 x0 hb0 n47 n47' n63 c00 c01 c10 c11 c20 c21 x1 HZ0 hz0 hQw
  have keepB : ∀ (vs : List Value) (rs : List Rw) (wr : World), OwnTo (Q + 1) w2 (Tw (Q + 1 + 1) (tkR (.slice (some ⟨Q + 1, 0, none⟩) N N) (Gr.wl N []) (List.replicate N (.slice none 0 0)) (Gr.nl N []))) wr (Q + 1 + 1) 32 vs rs → Below w.heap.size w wr := fun _ _ wr h => hb02.trans ((hO.below h.kp).mono (by have := HQ.out; omega))
  have HK := Lib.hid keepB
  clear keepB
  go_loopw [40] (fun i wr => ∃ (k : Nat) (vs : List Value), k ≤ es.length ∧ i = .int .i64 (k : Int) ∧ vs.length = N ∧ OwnTo (Q + 1) w2 (Tw (Q + 1 + 1) (tkR (.slice (some ⟨Q + 1, 0, none⟩) N N) (Gr.wl N []) (List.replicate N (.slice none 0 0)) (Gr.nl N []))) wr (Q + 1 + 1) 32 vs (tkR (.slice (some ⟨Q + 1, 0, none⟩) N N) (Gr.wl N (es.take k)) vs (Gr.nl N (es.take k)))) (fun i _ => es.length - (intOf i).toNat)
  case atStart => exact ⟨0, _, Nat.zero_le _, rfl, by simp, OwnTo.start hO⟩
  case round =>
    obtain ⟨k, vs, hk, rfl, hvl, hOk⟩ := hrel
    have hbw := HK.out _ _ wr hOk
    by_cases hlt : k < es.length
    · obtain ⟨⟨a, b⟩, hx⟩ : ∃ x, es[k]? = some x := ⟨_, List.getElem?_eq_getElem hlt⟩
      obtain ⟨ha, hb⟩ := HES.out _ (List.mem_of_getElem? hx)
      have gx := flat_get edc 2 (fun _ => rfl) es k
      have g1 := gx 0 _ hx (by omega)
      have g2 := gx 1 _ hx (by omega)
      obtain ⟨A', c', he, -, -, -, hcc⟩ := hA.below hbw
      injection he with e1 e2 e3
      subst e1 e3
      obtain ⟨g, o, rfl, hgl, hcell⟩ := hcc.at_ (fun e => by rw [show List.flatMap edc es = edcs es from rfl, e] at g1; simp [edc] at g1)
      have d0 : wr.cell? ⟨g, o + k * 2, none⟩ = some (.int .i64 (a : Int)) := (hcell _ _ g1).trans rfl
      have d1 : wr.cell? ⟨g, o + k * 2 + 1, none⟩ = some (.int .i64 (b : Int)) := by rw [Nat.add_assoc]; exact hcell _ _ g2
      have htk := Gr.take_snoc hx
      have hw1 := Gr.wl_one N (es.take k) a b
      have hn1 := Gr.nl_one N (es.take k) a b
      rw [← htk] at hw1 hn1
      obtain ⟨U, hU⟩ : ∃ U, U = Gr.wt (es.take k) [] b := ⟨_, rfl⟩
      rw [← hU] at hw1
      have hUb : U ≤ 1099511627776 := by rw [hU]; exact Nat.le_trans (Gr.wt_le _ _ _) (by rw [List.length_take]; omega)
      have hwl : (Gr.wl N (es.take k)).length = N := by simp [Gr.wl]
      have hTA := hOk.later (below_alloc (Below.refl _ _) (.cells #[.int .i64 (a : Int), .int .i64 (b : Int)] 34))
      have hE := Blk.new wr 34 [.int .i64 (a : Int), .int .i64 (b : Int)]
      have r0 := hTA.own.row 0 rfl
      unfold Rw.at_ wrw at r0
      rw [hwl] at r0
      have c0 := own_cell r0 (j := b) (u := .int .i64 (U : Int)) (by
        show (List.map _ _)[b]? = _
        rw [List.getElem?_map, show (Gr.wl N (es.take k))[b]? = some (U : Int) by rw [hU]; exact Gr.map_get _ _ _ hb]
        rfl)
      obtain ⟨v, hv⟩ : ∃ v, vs[a]? = some v := ⟨_, List.getElem?_eq_getElem (by omega)⟩
      have hnx : (Gr.nl N (es.take k))[a]? = some (Gr.next (es.take k) a) := Gr.map_get _ _ _ ha
      have hnl : (Gr.next (es.take k) a).length ≤ 1099511627776 := by
        have := List.length_filter_le (fun e : Gr.Ed => e.1 == a) (es.take k)
        rw [List.length_take] at this
        unfold Gr.next
        rw [List.length_map]
        omega
      obtain ⟨nx, hnxq⟩ : ∃ nx, nx = Gr.next (es.take k) a := ⟨_, rfl⟩
      rw [← hnxq] at hnx hn1 hnl
      clear hnxq
      have hvne : v.ownBlock ≠ some wr.heap.size := fun e => by
        have := ((hOk.own.row (a + 1) (tkR_get _ _ _ _ a v nx hv hnx)).lt _ e).2
        omega
      have HX := Lib.hid (And.intro hw1 (And.intro hn1 (And.intro hwl (And.intro hv hnx))))
      clear hv hnx
      have HO := Lib.hid hO
      have hlw : Q + 1 + 1 < wr.heap.size := Nat.lt_of_lt_of_le hQ2 hOk.kp.size
      clear hOk htk hw1 hn1 hx gx g1 g2 hcc hcell e2 hA hO hwl hU hbw
      go_upto_region 11 with (fail)
      have hb5 : Below wr.heap.size wr (wr.alloc (.cells #[.int .i64 (a : Int), .int .i64 (b : Int)] 34)) := below_alloc (Below.refl _ _) _
      generalize (wr.alloc (.cells #[.int .i64 (a : Int), .int .i64 (b : Int)] 34)) = W5 at hTA hE r0 c0 hb5 ⊢
      have e0 : W5.cell? ⟨wr.heap.size, 0, none⟩ = some (.int .i64 (a : Int)) := (hE.cell 0).trans rfl
      have e1 : W5.cell? ⟨wr.heap.size, 1, none⟩ = some (.int .i64 (b : Int)) := (hE.cell 1).trans rfl
      clear d0 d1
      have f0 := row_frozen r0 b
      have hr6 := row_set r0 b (.int .i64 ((U : Int) + 1))
      have hg6 := grown_setCell W5 (Q + 1) b (.int .i64 ((U : Int) + 1))
      go_wp2_with fail
      obtain ⟨w6, hw6⟩ : ∃ w6, w6 = W5.setCell ⟨Q + 1, b, none⟩ (.int .i64 ((U : Int) + 1)) := ⟨_, rfl⟩
      rw [← hw6] at hr6 hg6 ⊢
      clear hw6 c0 f0
      have hT6 : OwnTo (Q + 1) w2 (Tw (Q + 1 + 1) (tkR (.slice (some ⟨Q + 1, 0, none⟩) N N) (Gr.wl N []) (List.replicate N (.slice none 0 0)) (Gr.nl N []))) w6 (Q + 1 + 1) 32 vs (tkR (.slice (some ⟨Q + 1, 0, none⟩) N N) (Gr.wl N (es.take (k + 1))) vs (Gr.nl N (es.take k))) := by
        rw [← ints_set, ← HX.out.1] at hr6
        have hl1 : (Gr.wl N (es.take (k + 1))).length = N := by simp [Gr.wl]
        have h1 : W5.grownBy w6 (wrw (.slice (some ⟨Q + 1, 0, none⟩) N N) (Gr.wl N (es.take k))).v.ownBlock := hg6
        have hp := (hTA.own.put (i := 0) rfl (v' := .slice (some ⟨Q + 1, 0, none⟩) N N) (n' := N) hr6 h1 (.inl rfl)).1
        have := hTA.step (hTA.own.put_to (i := 0) rfl (v' := .slice (some ⟨Q + 1, 0, none⟩) N N) (n' := N) hr6 h1 (.inl rfl) hp (World.grownBy.refl w6 _))
        have e : (tkR (.slice (some ⟨Q + 1, 0, none⟩) N N) (Gr.wl N (es.take k)) vs (Gr.nl N (es.take k))).set 0 ⟨3, 1, .slice (some ⟨Q + 1, 0, none⟩) N N, N, ints .i64 (Gr.wl N (es.take (k + 1)))⟩ = tkR (.slice (some ⟨Q + 1, 0, none⟩) N N) (Gr.wl N (es.take (k + 1))) vs (Gr.nl N (es.take k)) := by
          show _ = wrw _ _ :: _
          unfold wrw
          rw [hl1]
          rfl
        exact e ▸ this
      have hE6 := hE.grown hg6 (by intro e; injection e with e; omega)
      clear hTA r0 hr6 hg6 hE e0 e1
      have hget := tkR_get (.slice (some ⟨Q + 1, 0, none⟩) N N) (Gr.wl N (es.take (k + 1))) vs (Gr.nl N (es.take k)) a v nx HX.out.2.2.2.1 HX.out.2.2.2.2
      have rv : w6.ownsRow (Q + 1) 3 1 v nx.length (ilist nx) := hT6.own.row (a + 1) hget
      have hng : v.ownBlock ≠ some (Q + 1 + 1) := hT6.own.ng _ (List.mem_of_getElem? hget)
      obtain ⟨VB, cb, rfl, -, -⟩ := own_slice rv
      have hR : ∀ w', Below w6.heap.size w6 w' → w'.ownsRow (Q + 1) 3 1 (.slice VB nx.length cb) nx.length (ilist nx) ∧ Q + 1 ≤ w'.heap.size := fun w' hb => ⟨(hT6.own.later hb).row (a + 1) hget, (hT6.own.later hb).base⟩
      have keepS : ∀ w', Keeps (fun k => (Value.slice VB nx.length cb).ownBlock = some k) w6 w' → Keeps (fun k => (Value.slice VB nx.length cb).ownBlock = some k) w6 w' ∧ w'.cell? ⟨Q + 1 + 1, a, none⟩ = some (.slice VB nx.length cb) ∧ w'.cell? ⟨wr.heap.size, 0, none⟩ = some (.int .i64 (a : Int)) ∧ w'.cell? ⟨wr.heap.size, 1, none⟩ = some (.int .i64 (b : Int)) := fun w' k =>
        ⟨k, ((hT6.own.blk.keeps k hng).cell a).trans HX.out.2.2.2.1, ((hE6.keeps k hvne).cell 0).trans rfl, ((hE6.keeps k hvne).cell 1).trans rfl⟩
      have hS1 := keepS _ ((Keeps.refl _ w6).drewN 1)
      have hn63 : nx.length + 1 ≤ maxLen := by unfold maxLen; omega
      have hn47 : (nx.length + 1) * 8 ≤ 140737488355328 := by omega
      have HT := Lib.hid (And.intro hT6 hget)
      clear hT6 rv hE6 hget hng hvne
      refine wp_walk_mt 13 (fun i => ([11] : List Nat).contains i) (fun i => ([0,1,2,12] : List Nat).contains i) [11] (by intro m h; simpa using h) (by kernel_rfl) (by kernel_rfl) (by kernel_rfl) (fun w w' => Below w.heap.size w w')  (fun w' => Keeps (fun k => (Value.slice VB nx.length cb).ownBlock = some k) w6 w' ∧ w'.cell? ⟨Q + 1 + 1, a, none⟩ = some (.slice VB nx.length cb) ∧ w'.cell? ⟨wr.heap.size, 0, none⟩ = some (.int .i64 (a : Int)) ∧ w'.cell? ⟨wr.heap.size, 1, none⟩ = some (.int .i64 (b : Int))) (fun w' => Below w6.heap.size w6 w') hS1 (below_drew (Below.refl _ _)) (fun _ _ h h' => below_next h' h) ?_
      simp only [List.length_cons, List.length_nil, Nat.reduceAdd, Nat.reduceSub, List.take_succ_cons, List.take_zero, List.drop_succ_cons, List.drop_zero]
      repeat (first | (refine nsettle_skip (by rfl) (fun _ => by rfl) ?_; (simp only [Act.put, List.setIfInBounds_toArray, List.set_cons_zero, List.set_cons_succ])) | (refine' nsettle_run (by rfl) (fun _ _ => Below.refl _ _) (fun _ => by rfl) ?_ ?_; rotate_left; (focus (intro ρ w hS hF hP; (try dsimp only at hS); go_split_ands; go_simp; try with_reducible rfl)); (simp only [Act.put, List.setIfInBounds_toArray, List.set_cons_zero, List.set_cons_succ])))
      (refine nsettle_known (FSl 1 1 [.int .i64 (b : Int)]) (by rfl) (by rfl) (by rfl) (fun _ => by rfl)  ?_ ?_; (focus (intro ρ w hS hF hP K hK; (simp only [Act.put, List.setIfInBounds_toArray, List.set_cons_zero, List.set_cons_succ] at hK); go_simp; exact hK _ _ (SlV.lit w [.int .i64 (b : Int)] 3 1 1 rfl (by decide)) (keepS _ (hS.1.alloc _)) (below_alloc (Below.refl _ _) _))); (simp only [Act.put, List.setIfInBounds_toArray, List.set_cons_zero, List.set_cons_succ]))
      (refine nsettle_mark (FPush w6 (Q + 1) 3 1 (.slice VB nx.length cb) (nx.length + 1) (ilist nx ++ [.int .i64 (b : Int)])) (by rfl) (by rfl) (by rfl) (fun _ => by rfl) ?_ ?_; (focus (intro ρ w hS hF hP K hK; refine oper_append (.tmp 58) (.tmp 61) (Q + 1) _ _ _ _ _ Tryd.underlying32 info_int rfl (by decide) (hR w (hP (by rfl))).1 (hF.1 (by rfl)) (by simp [Value.oneCell']) hn63 hn47 (hR w (hP (by rfl))).2 rfl rfl rfl ?_; intro v' w' hown hg hv _; exact hK v' w' ⟨w, hP (by rfl), hg, hown, hv.imp id fun e => ⟨_, Nat.le_refl _, e⟩⟩ (keepS _ (hS.1.trans ((Keeps.of_grown hg).mono fun i hi => hi.symm))))); (simp only [Act.put, List.setIfInBounds_toArray, List.set_cons_zero, List.set_cons_succ]))
      repeat (first | (refine nsettle_skip (by rfl) (fun _ => by rfl) ?_; (simp only [Act.put, List.setIfInBounds_toArray, List.set_cons_zero, List.set_cons_succ])) | (refine' nsettle_run (by rfl) (fun _ _ => Below.refl _ _) (fun _ => by rfl) ?_ ?_; rotate_left; (focus (intro ρ w hS hF hP; (try dsimp only at hS); go_split_ands; go_simp; try with_reducible rfl)); (simp only [Act.put, List.setIfInBounds_toArray, List.set_cons_zero, List.set_cons_succ])))
      refine nsettle_nil ?_
      intro ρ w7 hS hF
      obtain ⟨wa, ha1, ha2, ha3, ha4⟩ := hF 62 (FPush w6 (Q + 1) 3 1 (.slice VB nx.length cb) (nx.length + 1) (ilist nx ++ [.int .i64 (b : Int)])) (by repeat (first | exact List.mem_cons_self | apply List.mem_cons_of_mem))
      clear hF hS hS1 keepS hR
      dsimp only
      generalize ρ 61 = v61
      generalize ρ 62 = v4 at ha3 ha4 ⊢
      have hx4 : wa.grownBy w7 (irw (.slice VB nx.length cb) nx).v.ownBlock := ha2
      have ho4 : w7.ownsRow (Q + 1) 3 1 v4 (nx ++ [b]).length (ilist (nx ++ [b])) := by simpa [ilist, ints] using ha3
      have hB4 := ((HT.out.1.own.later ha1).put (i := a + 1) HT.out.2 ho4 hx4 ha4).1
      have hend : ∀ w8, Blk w8 (Q + 1 + 1) 32 (vs.set a v4) → w7.grownBy w8 (some (Q + 1 + 1)) → OwnTo (Q + 1) w2 (Tw (Q + 1 + 1) (tkR (.slice (some ⟨Q + 1, 0, none⟩) N N) (Gr.wl N []) (List.replicate N (.slice none 0 0)) (Gr.nl N []))) w8 (Q + 1 + 1) 32 (vs.set a v4) (tkR (.slice (some ⟨Q + 1, 0, none⟩) N N) (Gr.wl N (es.take (k + 1))) (vs.set a v4) (Gr.nl N (es.take (k + 1)))) := fun w8 b8 g8 => by
        have := (HT.out.1.later ha1).step ((HT.out.1.own.later ha1).put_to (i := a + 1) HT.out.2 ho4 hx4 ha4 b8 g8)
        have e := tkR_i (.slice (some ⟨Q + 1, 0, none⟩) N N) (Gr.wl N (es.take (k + 1))) vs (Gr.nl N (es.take k)) a v4 (nx ++ [b])
        rw [← HX.out.2.1] at e
        exact e ▸ this
      obtain ⟨V4, c4, rfl, -, -⟩ := own_slice ha3
      clear ha1 ha2 ha3 ha4 hx4 ho4
      have hva : a < vs.length := by omega
      refine wpl_set_blk hB4 a _ (by kernel_rfl) hva rfl rfl rfl rfl rfl rfl ?_
      intro w8 hB8 hg8
      have T8 := hend w8 hB8 hg8
      have HT8 := Lib.hid T8
      clear hB4 hB8 hg8 hend T8 HT
      go_wp2_with fail
      go_roundw
      case rel => exact ⟨k + 1, _, by omega, by go_num, by simpa using hvl, HT8.out⟩
      case measure => simp [intOf]; omega
    · obtain rfl : k = es.length := by omega
      rw [List.take_length] at hOk
      clear hA
      have hwlN : (Gr.wl N es).length = N := by simp [Gr.wl]
      have hbT := hO.below hOk.kp
      have hS0 := Gy.St.start hOk hbT hwlN
      have hwd : (Gr.wl N es) = wo N es [] := rfl
      rw [hwd] at hS0
      have HK3 := Lib.hid (And.intro hb02 (show Gy.T = Gy.T from rfl))
      obtain ⟨p, hp⟩ : ∃ p, p = wr.heap.size := ⟨_, rfl⟩
      rw [← hp] at hS0
      have HP := Lib.hid hp
      clear hwlN hbT hOk hwd hb02 hO HK
      go_wp2_with fail
      rw [← HP.out]
      generalize (wr.alloc (.cells #[.slice none 0 0] 65)) = wz at hS0 ⊢
      clear hp x2 hbw hk hlt
      go_loopw [67] (fun i wr => ∃ (k : Nat) (u : Value) (hl : List Nat), k ≤ N ∧ i = .int .i64 (k : Int) ∧ Hp.Ok hl ∧ hl.Nodup ∧ (∀ x, x ∈ hl ↔ x < k ∧ Gr.wt es [] x = 0) ∧ Gy.St w2 (Q + 1) (Q + 1) (Q + 1 + 1) p N vs wr (wo N es []) u hl (.slice none 0 0) [] (vs.zip (Gr.nl N es))) (fun i _ => N - (intOf i).toNat)
      case atStart => exact ⟨0, _, [], Nat.zero_le _, rfl, fun k _ h => by simp at h, List.nodup_nil, fun x => by simp, hS0⟩
      case round =>
        clear hS0
        obtain ⟨k, u, hl, hk, rfl, hOk, hnd, hmem, hS⟩ := hrel
        by_cases hlt : k < N
        · have c0 := own_cell hS.wt (j := k) (u := .int .i64 ((Gr.wt es [] k : Nat) : Int)) (by
            show (List.map _ _)[k]? = _
            rw [List.getElem?_map, show (wo N es [])[k]? = some ((Gr.wt es [] k : Nat) : Int) from Gr.map_get _ _ _ hlt]
            rfl)
          obtain ⟨U, hU⟩ : ∃ U, U = Gr.wt es [] k := ⟨_, rfl⟩
          rw [← hU] at c0
          have HU := Lib.hid hU
          have hlen := Gy.short hnd (fun x hx => Nat.lt_trans ((hmem x).1 hx).1 hlt)
          by_cases h0 : U = 0
          · subst h0
            have hpush := push_any wr (Q + 1) p u hl k hS.hp hOk (by omega)
            have HS := Lib.hid (And.intro hS (And.intro hnd hmem))
            clear hU hS hnd hmem hlen hOk
            go_wp2_with fail
            refine hpush.mono ?_
            rintro _ w5 ⟨rfl, u5, l5, hR5, hOk5, hpm5, hk5, hu5⟩
            have hS5 := HS.out.1.heap hR5 hk5 hu5
            have hnk : k ∉ hl := fun h => by have := ((HS.out.2.2 k).1 h).1; omega
            have HF := Lib.hid (And.intro hS5 (And.intro hOk5 (And.intro (hpm5.nodup_iff.2 (List.nodup_cons.2 ⟨hnk, HS.out.2.1⟩)) (show ∀ x, x ∈ l5 ↔ x < k + 1 ∧ Gr.wt es [] x = 0 from fun x => by
              rw [hpm5.mem_iff, List.mem_cons, HS.out.2.2 x]
              constructor
              · rintro (rfl | ⟨a, b⟩)
                · exact ⟨by omega, HU.out.symm⟩
                · exact ⟨by omega, b⟩
              · rintro ⟨a, b⟩
                by_cases e : x = k
                · exact .inl e
                · exact .inr ⟨by omega, b⟩))))
            clear hpush hR5 hOk5 hpm5 hk5 hu5 hS5 hnk c0
            go_wp2_with fail
            go_roundw
            case rel => exact ⟨k + 1, _, _, by omega, by go_num, HF.out.2.1, HF.out.2.2.1, HF.out.2.2.2, HF.out.1⟩
            case measure => simp [intOf]; omega
          · have g0 : ((U : Int) == 0) = false := by simp; omega
            have HF := Lib.hid (And.intro hS (And.intro hOk (And.intro hnd (show ∀ x, x ∈ hl ↔ x < k + 1 ∧ Gr.wt es [] x = 0 from fun x => by
              rw [hmem x]
              constructor
              · rintro ⟨a, b⟩; exact ⟨by omega, b⟩
              · rintro ⟨a, b⟩
                by_cases e : x = k
                · subst e; exact absurd (hU.trans b) h0
                · exact ⟨by omega, b⟩))))
            clear hU hS hnd hmem hlen hOk h0
            go_wp2_with fail
            go_roundw
            case rel => exact ⟨k + 1, _, _, by omega, by go_num, HF.out.2.1, HF.out.2.2.1, HF.out.2.2.2, HF.out.1⟩
            case measure => simp [intOf]; omega
        · obtain rfl : N = k := by omega
          have hmem' : ∀ x, x ∈ hl ↔ x < N ∧ Gr.rdy es [] x = true := fun x => by rw [hmem x, Gr.rdy_wt]; simp
          have H0 := Lib.hid (And.intro hS (And.intro hOk (And.intro hnd hmem')))
          clear hS hOk hnd hmem hmem'
          go_wp2_with fail
          obtain ⟨wy, rfl⟩ : ∃ wy : World, wy = wr := ⟨_, rfl⟩
          go_loopw [14] (fun o wr => ∃ (ls : List (List Nat)) (os : List Value) (u : Value) (hl : List Nat) (f : Nat), slLen o = ls.length ∧ Gy.L3 N es W ls os hl f ∧ Gy.St w2 (Q + 1) (Q + 1) (Q + 1 + 1) p N vs wr (wo N es ls.flatten) u hl o os (vs.zip (Gr.nl N es) ++ os.zip ls)) (fun o _ => N - slLen o)
          case atStart => exact ⟨[], [], u, hl, N, rfl, ⟨Gr.Good.nil N es, rfl, Nat.zero_le _, by simp, rfl, H0.out.2.1, H0.out.2.2.1, H0.out.2.2.2⟩, by simpa using H0.out.1⟩
          case round =>
            clear H0
            obtain ⟨ls, os, u, hl, f, hol, hL, hS⟩ := hrel
            have hrow := hS.hp.row
            obtain ⟨Au, cu, rfl, -, -⟩ := own_slice hrow
            obtain ⟨Ao, co, rfl, -, -⟩ := own_slice hS.ou
            have cp : wr.cell? ⟨p, 0, none⟩ = some (.slice Au hl.length cu) := by rw [hS.hp.blk.cell]; rfl
            by_cases hl0 : 0 < hl.length
            · have hne : hl ≠ [] := by intro e; rw [e] at hl0; simp at hl0
              have hlen := Gy.short hL.nd (fun x hx => ((hL.mem x).1 hx).1)
              have htake := htake_any wr (Q + 1) p _ hl W hS.hp (by omega) (by omega)
              obtain ⟨hr1, hr2, hr3⟩ := Gr.heap_round (w := W) hL.ok hL.nd hL.mem
              obtain ⟨a, ha⟩ : ∃ a, a = Gr.now N es W ls.flatten := ⟨_, rfl⟩
              obtain ⟨l1, hl1⟩ : ∃ l1, l1 = (Hp.take W hl).2 := ⟨_, rfl⟩
              rw [hr1, ← ha, ← hl1, hnats_ilist] at htake
              rw [← hl1] at hr2
              rw [← ha, ← hl1] at hr3
              have ha0 : 0 < a.length := by
                rw [ha]
                exact List.length_pos_iff.2 (fun e => hne ((Gr.heap_nil hL.mem (by omega)).2 e))
              have haW : a.length ≤ 16 := by rw [ha]; exact Nat.le_trans (Gr.now_length _ _ _ _) hW2
              have H1 := Lib.hid (And.intro hS (And.intro hL (And.intro ha (And.intro hr2 (And.intro hr3 hne)))))
              clear hS hL ha hr1 hr2 hr3 hl1 hne hrow hlen
              go_wp2_with fail
              refine htake.mono ?_
              rintro _ w3 ⟨v, rfl, hv3, u3, hR3, hk3, hu3⟩
              have hS3 := H1.out.1.heap hR3 hk3 (.inl hu3)
              have hN3 : SlN w3 v a := SlN.of_own hv3
              have hf3 : FarU (Gy.T (Q + 1) p u3 (.slice Ao os.length co)) v a := FarU.new (new_own hv3) (fun k hk => H1.out.1.tlt k (hk.imp id (Or.imp id (Or.imp (fun e => hu3 ▸ e) id))))
              obtain ⟨gv, cv, rfl, hvc, hvm, -⟩ := own_addr hv3 ha0
              have hS4 := hS3.more hN3 hf3
              have H4 := Lib.hid hS4
              clear htake hv3 hR3 hk3 hu3 hS3 hN3 hf3 hS4 cp
              go_wp2_with fail
              go_loopw [85] (fun i wr => ∃ (k : Nat) (u : Value) (hl : List Nat), k ≤ a.length ∧ i = .int .i64 (k : Int) ∧ Hp.Ok hl ∧ Gr.HeapP N es ls.flatten a k hl ∧ Gy.St w2 (Q + 1) (Q + 1) (Q + 1 + 1) p N vs wr (wo N es (ls.flatten ++ a.take k)) u hl (.slice Ao os.length co) os ((.slice (some ⟨gv, 0, none⟩) a.length cv, a) :: (vs.zip (Gr.nl N es) ++ os.zip ls))) (fun i _ => a.length - (intOf i).toNat)
              case atStart => exact ⟨0, u3, l1, Nat.zero_le _, rfl, H1.out.2.2.2.1, H1.out.2.2.2.2.1, by simpa using H4.out⟩
              case round =>
                clear H4
                obtain ⟨k, u, hl, hk, rfl, hOk, hP, hS⟩ := hrel
                by_cases hka : k < a.length
                · obtain ⟨n, hn⟩ : ∃ n, a[k]? = some n := ⟨_, List.getElem?_eq_getElem hka⟩
                  have hnow : n ∈ Gr.now N es W ls.flatten := by rw [← H1.out.2.2.1]; exact List.mem_of_getElem? hn
                  obtain ⟨hnN, hnr⟩ := Gr.now_mem hnow
                  obtain ⟨hno, hnp⟩ := Gr.rdy_iff.1 hnr
                  have hgd : Gr.Good N es (ls.flatten ++ a.take k) := by rw [H1.out.2.2.1]; exact H1.out.2.1.good.part k (by rw [← H1.out.2.2.1]; omega)
                  have hno2 : n ∉ ls.flatten ++ a.take k := by
                    have := (H1.out.2.1.good.part (w := W) (k + 1) (by rw [← H1.out.2.2.1]; omega)).nd
                    rw [← H1.out.2.2.1, Gr.take_snoc hn, ← List.append_assoc] at this
                    exact fun h => (List.nodup_append.1 this).2.2 n h n (by simp) rfl
                  have hnp2 : ∀ e ∈ es, e.2 = n → e.1 ∈ ls.flatten ++ a.take k := fun e he em => List.mem_append_left _ (hnp e he em)
                  obtain ⟨D, hD⟩ : ∃ D, D = ls.flatten ++ a.take k := ⟨_, rfl⟩
                  obtain ⟨nx, hnx⟩ : ∃ nx, nx = Gr.next es n := ⟨_, rfl⟩
                  have hnl : (Gr.nl N es)[n]? = some nx := by rw [hnx]; exact Gr.map_get _ _ _ hnN
                  obtain ⟨vn, hvn⟩ : ∃ v, vs[n]? = some v := ⟨_, List.getElem?_eq_getElem (by omega)⟩
                  have hin : (vn, nx) ∈ vs.zip (Gr.nl N es) := List.mem_of_getElem? (List.getElem?_zip_eq_some.2 ⟨hvn, hnl⟩)
                  have c1 := (hS.far _ List.mem_cons_self).1.get0 hn
                  have c2 : wr.cell? ⟨Q + 1 + 1, n, none⟩ = some vn := (hS.nb.cell n).trans hvn
                  have hfn : SlN wr vn nx := (hS.far _ (List.mem_cons_of_mem _ (List.mem_append_left _ hin))).1
                  obtain ⟨VB, cb, rfl, hcb, hcm⟩ := hfn.form
                  clear hfn
                  have hnxl : nx.length ≤ 1099511627776 := by
                    rw [hnx]
                    unfold Gr.next
                    rw [List.length_map]
                    exact Nat.le_trans (List.length_filter_le _ _) hle
                  have e0 : wo N es D = Gr.wj N es D n 0 := (Gr.wj_zero N es D n).symm
                  have hQ0 := hP.begin hn
                  rw [← hD] at hgd hno2 hnp2 hS
                  rw [e0] at hS
                  have HG := Lib.hid (And.intro hn (And.intro hnow (And.intro hgd (And.intro hno2 (And.intro hnp2 (And.intro hD (And.intro hnx hin)))))))
                  have H5 := Lib.hid (And.intro hS (And.intro hOk hQ0))
                  clear hn hnow hnr hno hnp hgd hno2 hnp2 hD hnx hnl hvn hin hS hOk hP hQ0 e0
                  go_wp2_with fail
                  clear c1 c2
                  go_loopw [94] (fun i wr => ∃ (j : Nat) (u : Value) (hl : List Nat), j ≤ nx.length ∧ i = .int .i64 (j : Int) ∧ Hp.Ok hl ∧ Gr.HeapQ N es ls.flatten a k n j hl ∧ Gy.St w2 (Q + 1) (Q + 1) (Q + 1 + 1) p N vs wr (Gr.wj N es D n j) u hl (.slice Ao os.length co) os ((.slice (some ⟨gv, 0, none⟩) a.length cv, a) :: (vs.zip (Gr.nl N es) ++ os.zip ls))) (fun i _ => nx.length - (intOf i).toNat)
                  case atStart => exact ⟨0, u, hl, Nat.zero_le _, rfl, H5.out.2.1, H5.out.2.2, H5.out.1⟩
                  case round =>
                    clear H5
                    obtain ⟨j, u, hl, hj, rfl, hOk, hHQ, hS⟩ := hrel
                    by_cases hjl : j < nx.length
                    · obtain ⟨m, hm⟩ : ∃ m, nx[j]? = some m := ⟨_, List.getElem?_eq_getElem hjl⟩
                      have hm' : (Gr.next es n)[j]? = some m := by rw [← HG.out.2.2.2.2.2.2.1]; exact hm
                      have hmN : m < N := (HES.out _ (Gr.mem_next.1 (List.mem_of_getElem? hm'))).2
                      have hfn : SlN wr (.slice VB nx.length cb) nx := (hS.far _ (List.mem_cons_of_mem _ (List.mem_append_left _ HG.out.2.2.2.2.2.2.2))).1
                      obtain ⟨gb, go, hVB, hgl, c1⟩ := hfn.get hm
                      clear hfn
                      subst hVB
                      have hwl : (Gr.wj N es D n j).length = N := by simp [Gr.wj]
                      have r0 := hS.wt
                      obtain ⟨X, hX⟩ : ∃ X : Int, X = ((Gr.wt es D m : Nat) : Int) - ((((Gr.next es n).take j).count m : Nat) : Int) := ⟨_, rfl⟩
                      have c0 := own_cell r0 (j := m) (u := .int .i64 X) (by
                        show (List.map _ _)[m]? = _
                        rw [List.getElem?_map, Gr.wj_get hmN, hX]
                        rfl)
                      have hX0 : 0 ≤ X := by
                        have h1 := Gr.count_le HG.out.2.2.2.1 es m
                        have h2 : ((Gr.next es n).take j).count m ≤ (Gr.next es n).count m := List.Sublist.count_le m (List.take_sublist _ _)
                        omega
                      have hX1 : X ≤ 1099511627776 := by
                        have := Gr.wt_le es D m
                        omega
                      have f0 := row_frozen r0 m
                      have hr9 := row_set r0 m (.int .i64 (X - 1))
                      have hg9 := grown_setCell wr (Q + 1) m (.int .i64 (X - 1))
                      have H9 := Lib.hid (And.intro hS (And.intro hOk (And.intro hHQ (And.intro hX hm'))))
                      clear hS hOk hHQ hX hm hm' r0 hwl
                      go_upto_region 31 with (fail)
                      obtain ⟨w9, hw9⟩ : ∃ w9, w9 = wr.setCell ⟨Q + 1, m, none⟩ (.int .i64 (X - 1)) := ⟨_, rfl⟩
                      rw [← hw9] at hr9 hg9 ⊢
                      have hws : Gr.wj N es D n (j + 1) = (Gr.wj N es D n j).set m (X - 1) := by rw [Gr.wj_step H9.out.2.2.2.2, H9.out.2.2.2.1]
                      have c2 := own_cell hr9 (j := m) (u := .int .i64 (X - 1)) (List.getElem?_set_self (by rw [ints_length]; simp [Gr.wj]; exact hmN))
                      rw [← ints_set, ← hws] at hr9
                      have hS9 := H9.out.1.wait hr9 hg9
                      clear hr9 hg9 hw9 c0 c1 f0 hws
                      generalize hY : X - 1 = Y at c2 ⊢
                      have HY := Lib.hid hY
                      have HS9 := Lib.hid hS9
                      have hlen := Gy.short H9.out.2.2.1.1 (fun x hx => ((H9.out.2.2.1.2 x).1 hx).1.1)
                      clear hY hX0 hX1 hS9
                      by_cases hy : Y = 0
                      · subst hy
                        have hpush := push_any w9 (Q + 1) p u hl m HS9.out.hp H9.out.2.1 (by omega)
                        clear hlen
                        go_wp2_with fail
                        refine hpush.mono ?_
                        rintro _ w5 ⟨rfl, u5, l5, hR5, hOk5, hpm5, hk5, hu5⟩
                        have hHQ' := H9.out.2.2.1.push (by rw [← HG.out.2.2.2.2.2.1]; exact HG.out.2.2.1) (fun e he => (HES.out e he).2) (by rw [← HG.out.2.2.2.2.2.1]; exact HG.out.2.2.2.1) (by rw [← HG.out.2.2.2.2.2.1]; exact HG.out.2.2.2.2.1) H9.out.2.2.2.2 (by rw [H1.out.2.2.1]; exact Gr.next_out HG.out.2.1 (List.mem_of_getElem? H9.out.2.2.2.2)) (by rw [← HG.out.2.2.2.2.2.1]; have := H9.out.2.2.2.1; have := HY.out; omega) hpm5
                        have HF := Lib.hid (And.intro (HS9.out.heap hR5 hk5 hu5) (And.intro hOk5 hHQ'))
                        clear hpush hR5 hOk5 hpm5 hk5 hu5 hHQ' c2
                        go_wp2_with fail
                        go_roundw
                        case rel => exact ⟨j + 1, _, _, by omega, by go_num, HF.out.2.1, HF.out.2.2, HF.out.1⟩
                        case measure => simp [intOf]; omega
                      · have gy : (Y == 0) = false := by simpa using hy
                        have hHQ' := H9.out.2.2.1.stay (by rw [← HG.out.2.2.2.2.2.1]; exact HG.out.2.2.1) (fun e he => (HES.out e he).2) (by rw [← HG.out.2.2.2.2.2.1]; exact HG.out.2.2.2.1) (by rw [← HG.out.2.2.2.2.2.1]; exact HG.out.2.2.2.2.1) H9.out.2.2.2.2 (by rw [← HG.out.2.2.2.2.2.1]; exact fun h => hy (by have := H9.out.2.2.2.1; have := HY.out; omega))
                        have HF := Lib.hid hHQ'
                        clear hHQ' hy hlen
                        go_wp2_with fail
                        go_roundw
                        case rel => exact ⟨j + 1, _, _, by omega, by go_num, H9.out.2.1, HF.out, HS9.out⟩
                        case measure => simp [intOf]; omega
                    · obtain rfl : j = nx.length := by omega
                      have hnn : nx.length = (Gr.next es n).length := by rw [HG.out.2.2.2.2.2.2.1]
                      rw [hnn] at hHQ hS
                      have e1 : Gr.wj N es D n (Gr.next es n).length = wo N es (D ++ [n]) := Gr.wj_full HG.out.2.2.2.1
                      have e2 : D ++ [n] = ls.flatten ++ a.take (k + 1) := by rw [HG.out.2.2.2.2.2.1, Gr.take_snoc HG.out.1, List.append_assoc]
                      rw [e1, e2] at hS
                      have hP' := hHQ.finish HG.out.1 (by rw [← HG.out.2.2.2.2.2.1]; exact HG.out.2.2.2.1)
                      have HF := Lib.hid (And.intro hS (And.intro hOk hP'))
                      clear hS hOk hP' hHQ e1 e2 hnn
                      go_wp2_with fail
                      go_roundw
                      case rel => exact ⟨k + 1, _, _, by omega, by go_num, HF.out.2.1, HF.out.2.2, HF.out.1⟩
                      case measure => simp [intOf]; omega
                · obtain rfl : k = a.length := by omega
                  rw [List.take_length] at hS
                  have hPn := hP
                  rw [H1.out.2.2.1] at hPn
                  obtain ⟨f', hL', hlsN⟩ := H1.out.2.1.next (by omega) H1.out.2.2.2.2.2 (.slice (some ⟨gv, 0, none⟩) a.length a.length) hOk hPn
                  rw [← H1.out.2.2.1] at hL'
                  have hos : os.length = ls.length := H1.out.2.1.len
                  have hcl := clipn_any wr ⟨gv, 0, none⟩ a.length cv hvc hvm
                  have n63 : os.length + 1 ≤ maxLen := by unfold maxLen; omega
                  have n47 : (os.length + 1) * 24 ≤ 140737488355328 := by omega
                  have hrow := hS.ou
                  have hbase := hS.hp.base
                  have H6 := Lib.hid (And.intro hS (And.intro hL' (And.intro hlsN hos)))
                  clear hS hL' hlsN hos hP hPn hOk
                  go_wp2_with fail
                  refine hcl.mono ?_
                  rintro _ _ ⟨rfl, rfl⟩
                  go_wp2_with (first | (at_builtin; refine wp_push_at _ _ _ _ (by first | rfl | simp) _ _ _ _ _ _ Tryd.underlying26 info_sint rfl (by decide) hrow [.slice (some ⟨gv, 0, none⟩) a.length a.length] rfl (by simp [Value.oneCell']) n63 n47 hbase rfl rfl rfl rfl ?_; intro v7 w7 hr7 hg7 hv7 hb7) | fail)
                  have hvc2 := (H6.out.1.far _ List.mem_cons_self).1.clip
                  have hvf2 : FarU (Gy.T (Q + 1) p u (.slice Ao os.length co)) (.slice (some ⟨gv, 0, none⟩) a.length a.length) a := (H6.out.1.far _ List.mem_cons_self).2
                  have hlv7 := own_len hr7
                  have hS7 := (H6.out.1.more hvc2 hvf2).out (fs' := vs.zip (Gr.nl N es) ++ (os ++ [Value.slice (some ⟨gv, 0, none⟩) a.length a.length]).zip (ls ++ [a])) hr7 hg7 (hv7.imp id fun e => ⟨_, Nat.le_succ _, e⟩) (fun x hx => by
                    rw [List.zip_append H6.out.2.2.2] at hx
                    simp only [List.zip_cons_cons, List.zip_nil_right, List.mem_append, List.mem_singleton] at hx
                    rcases hx with hx | hx | rfl
                    · exact List.mem_cons_of_mem _ (List.mem_cons_of_mem _ (List.mem_append_left _ hx))
                    · exact List.mem_cons_of_mem _ (List.mem_cons_of_mem _ (List.mem_append_right _ hx))
                    · exact List.mem_cons_self)
                  have efl : ls.flatten ++ a = (ls ++ [a]).flatten := by simp
                  rw [efl] at hS7
                  have HF := Lib.hid (And.intro hS7 H6.out.2.1)
                  have hlsn := H6.out.2.2.1
                  have hosn := H6.out.2.2.2
                  clear hr7 hg7 hv7 hb7 hvc2 hvf2 hS7 efl hcl hrow hbase
                  go_roundw
                  case rel => exact ⟨ls ++ [a], _, u, _, f', by rw [hlv7]; simp [hosn], HF.out.2, HF.out.1⟩
                  case measure => rw [hlv7]; simp only [slLen]; omega
            · have hnil : hl = [] := List.eq_nil_of_length_eq_zero (by omega)
              have hall : ls = Gr.all N es W := hL.done (by omega) hnil
              have hz : hl.length = 0 := by omega
              have HF := Lib.hid (And.intro hS (And.intro hL hall))
              clear hS hL hall hrow hnil hl0
              go_wp2_with fail
              go_ret2
              refine ⟨_, os, rfl, own_base HF.out.1.ou (by have := HQ.out; omega), ⟨?_, ?_⟩, ?_⟩
              · rw [← HF.out.2.2]; exact HF.out.2.1.len
              · rw [← HF.out.2.2]; exact fun x hx => (HF.out.1.far x (List.mem_append_right _ hx)).1
              · exact HK3.out.1.trans (HF.out.1.below.mono (by have := HQ.out; omega))
end Go.Proofs.YtpimcghmpbbckaaDoor


namespace Go.Proofs.YtpimcghmpbbckaaDoor
set_option linter.unusedVariables false
set_option linter.unusedSimpArgs false
set_option maxRecDepth 100000
open Go.RowKit

namespace Gy
def err (n : Int) (es : List Gr.Er) (k : Int) : Int := if Gr.wrong n es ≠ 0 then Gr.wrong n es else if k < 1 ∨ 16 < k then 2 else 0
def res (n : Int) (es : List Gr.Er) (k : Int) : List (List Nat) := if err n es k = 0 then Gr.all n.toNat (Gr.nat es) k.toNat else []
theorem err_zero {n : Int} {es : List Gr.Er} {k : Int} : err n es k = 0 ↔ Gr.wrong n es = 0 ∧ 1 ≤ k ∧ k ≤ 16 := by
  unfold err
  by_cases h : Gr.wrong n es = 0
  · rw [if_neg (by simpa using h)]
    by_cases h2 : k < 1 ∨ 16 < k
    · rw [if_pos h2]
      constructor
      · intro h; cases h
      · rintro ⟨-, a, b⟩; omega
    · rw [if_neg h2]
      exact ⟨fun _ => ⟨h, by omega, by omega⟩, fun _ => rfl⟩
  · rw [if_pos h]
    exact ⟨fun e => absurd e h, fun e => absurd e.1 h⟩
theorem Rs.nil (w : World) : Rs w [] [] := ⟨rfl, fun x hx => by simp at hx⟩
theorem Rs.below {w w' : World} {os : List Value} {ls : List (List Nat)} (h : Rs w os ls) (hb : Below w.heap.size w w') : Rs w' os ls := ⟨h.1, fun x hx => (h.2 x hx).below hb⟩
theorem Rs.get {w : World} {os : List Value} {ls : List (List Nat)} (h : Rs w os ls) {i : Nat} {l : List Nat} (hi : ls[i]? = some l) : ∃ v, os[i]? = some v ∧ SlN w v l := by
  obtain ⟨hl, -⟩ := List.getElem?_eq_some_iff.1 hi
  have hv : os[i]? = some (os[i]'(by rw [h.1]; exact hl)) := List.getElem?_eq_getElem _
  exact ⟨_, hv, h.2 (_, l) (List.mem_of_getElem? (List.getElem?_zip_eq_some.2 ⟨hv, hi⟩))⟩
end Gy
theorem Gr.wrong_none {n : Int} {es : List Gr.Er} (h : Gr.wrong n es = 0) : ∃ N : Nat, n = (N : Int) ∧ N ≤ 200 ∧ (∀ e ∈ Gr.nat es, e.1 < N ∧ e.2 < N) ∧ (Gr.nat es).length = es.length ∧ ercs es = edcs (Gr.nat es) ∧ (Gr.take N (Gr.nat es)).length = N := by
  unfold Gr.wrong at h
  by_cases hok : Gr.okG n es = true
  · rw [if_pos hok] at h
    obtain ⟨N, rfl, h1, h2, h3, -⟩ := Gr.nat_ok hok
    refine ⟨N, rfl, h1, h2, h3, ercs_nat hok, ?_⟩
    have hg := (Gr.good_take N (Gr.nat es)).length
    rw [Int.toNat_natCast] at h
    split at h
    · cases h
    · omega
  · rw [if_neg hok] at h
    cases h

set_option maxHeartbeats 4000000 in
theorem rounds_any (n : Int) (es : List Gr.Er) (k : Int) (w : World) (A : Option Addr) (c : Nat) (hA : SlV w 2 (.slice A es.length c) es.length (ercs es)) (hle : es.length ≤ 1099511627776) (hT : Tab w) :
    Calls Tryd.prog 13 #[.agg #[.int .i64 n, .slice A es.length c], .int .i64 k] w fun e w' => ∃ u os, e = .returned (.tuple #[u, .int .i64 (Gy.err n es k)]) ∧ w'.ownsRow w.heap.size 32 1 u os.length os ∧ Gy.Rs w' os (Gy.res n es k) ∧ Below w.heap.size w w' := by
  have hwr : ∀ w', Below w.heap.size w w' → Calls Tryd.prog 14 #[.agg #[.int .i64 n, .slice A es.length c]] w' fun e w'' => e = .returned (.int .i64 (Gr.wrong n es)) ∧ Below w'.heap.size w' w'' := fun w' hb =>
    wrong_any n es w' A c (hA.below hb) hle (fun j hj => (hb.cell (p := ⟨0, j, none⟩) hT.lt).trans (hT j hj))
  by_cases he : Gy.err n es k = 0
  · obtain ⟨h0, k1, k2⟩ := Gy.err_zero.1 he
    obtain ⟨N, rfl, hN, hes, hln, hcs, -⟩ := Gr.wrong_none h0
    obtain ⟨K, rfl⟩ := Int.eq_ofNat_of_zero_le (show 0 ≤ k by omega)
    have := rounds_core N (Gr.nat es) K w A c hN hes (by omega) (by omega) (by rw [hln, ← hcs]; exact hA) (by omega) (by rw [hln]; rw [h0] at hwr; exact hwr)
    rw [hln] at this
    unfold Gy.res
    rw [he, if_pos rfl]
    exact this
  · have hres : Gy.res n es k = [] := by unfold Gy.res; rw [if_neg he]
    have x0 := Blk.new w 24 [.int .i64 n, .slice A es.length c]
    have hb0 : Below w.heap.size w (w.alloc (.cells #[.int .i64 n, .slice A es.length c] 24)) := below_alloc (Below.refl _ _) _
    have hwr1 := hwr _ hb0
    obtain ⟨E, hE⟩ : ∃ E, E = Gy.err n es k := ⟨_, rfl⟩
    obtain ⟨R, hR⟩ : ∃ R, R = Gr.wrong n es := ⟨_, rfl⟩
    have hER : E = if R ≠ 0 then R else if k < 1 ∨ 16 < k then 2 else 0 := by rw [hE, hR]; rfl
    rw [hres, ← hE]
    rw [← hR] at hwr1
    have he' : E ≠ 0 := by rw [hE]; exact he
    clear he hres hwr hE hR hA
    go_enter Tryd.func13, Tryd.ntmps13
    go_upto_region 1 with (fail)
    generalize (w.alloc (.cells #[.int .i64 n, .slice A es.length c] 24)) = V0 at x0 hb0 hwr1 ⊢
    have d0 : V0.cell? ⟨w.heap.size, 0, none⟩ = some (.int .i64 n) := (x0.cell 0).trans rfl
    have d1 : V0.cell? ⟨w.heap.size, 1, none⟩ = some (.slice A es.length c) := (x0.cell 1).trans rfl
    have HE := Lib.hid hER
    have HE' := Lib.hid he'
    clear hER he'
    go_wp2_with fail
    refine hwr1.mono ?_
    rintro _ W0 ⟨rfl, hbW⟩
    have HB := Lib.hid (below_next hbW hb0)
    clear hwr1 hb0 hbW x0 d0 d1
    by_cases h0 : R = 0
    · subst h0
      have hE2 := HE.out
      rw [if_neg (by simp)] at hE2
      have hk : k < 1 ∨ 16 < k := Decidable.byContradiction fun h => HE'.out (by rw [hE2, if_neg h])
      rw [if_pos hk] at hE2
      subst hE2
      clear HE
      rcases k1 : decide (k < 1) with _ | _
      · have k2 : decide (16 < k) = true := decide_eq_true (hk.resolve_left (of_decide_eq_false k1))
        clear hk
        go_wp2_with fail
        go_ret2
        exact ⟨_, [], rfl, World.ownsRow_nil _ _ _ _, Gy.Rs.nil _, HB.out⟩
      · clear hk
        go_wp2_with fail
        go_ret2
        exact ⟨_, [], rfl, World.ownsRow_nil _ _ _ _, Gy.Rs.nil _, HB.out⟩
    · have g0 : (R != 0) = true := by simpa using h0
      have hE2 := HE.out
      rw [if_pos h0] at hE2
      subst hE2
      clear HE HE' h0
      go_wp2_with fail
      go_ret2
      exact ⟨_, [], rfl, World.ownsRow_nil _ _ _ _, Gy.Rs.nil _, HB.out⟩
end Go.Proofs.YtpimcghmpbbckaaDoor


namespace Go.Proofs.YtpimcghmpbbckaaDoor
set_option linter.unusedVariables false
set_option linter.unusedSimpArgs false
set_option maxRecDepth 100000
open Go.RowKit

theorem alive6_plain : Gy.err 4 [(2, 0)] 2 = 0 ∧ Gy.res 4 [(2, 0)] 2 = [[1, 2], [0, 3]] := by decide +kernel
theorem SlN.ints {w : World} {v : Value} {c : List Nat} (h : SlN w v c) : SlV w 1 v (c.map fun (x : Nat) => (x : Int)).length (ints .i64 (c.map fun (x : Nat) => (x : Int))) := by
  have := h
  unfold SlN at this
  rw [List.length_map]
  exact this

theorem alive6_any (w : World) (hT : Tab w) : Calls Tryd.prog 12 #[] w fun e w' => e = .returned (.bool true) ∧ Below w.heap.size w w' := by
  have hb0 : Below w.heap.size w (w.alloc (.cells #[.int .i64 2, .int .i64 0] 34)) := below_alloc (Below.refl _ _) _
  have hr := rounds_any 4 [(2, 0)] 2 (w.alloc (.cells #[.int .i64 2, .int .i64 0] 34)) (some ⟨w.heap.size, 0, none⟩) 1 (SlV.lit w (ercs [(2, 0)]) 34 2 1 rfl (by decide)) (by decide) (fun j hj => (hb0.cell (p := ⟨0, j, none⟩) hT.lt).trans (hT j hj))
  rw [alive6_plain.1, alive6_plain.2] at hr
  have HB := Lib.hid hb0
  clear hb0 hT
  go_enter Tryd.func12, Tryd.ntmps12
  go_wp2_with fail
  refine hr.mono ?_
  rintro _ w2 ⟨u, os, rfl, hrow, hR, hb2⟩
  have hb02 := below_next hb2 HB.out
  clear hr hb2
  obtain ⟨v0, v1, rfl⟩ : ∃ a b, os = [a, b] := by
    have h1 := hR.1
    rcases os with _ | ⟨a, _ | ⟨b, _ | ⟨c, os⟩⟩⟩ <;> simp at h1
    exact ⟨a, b, rfl⟩
  have h0 : SlN w2 v0 [1, 2] := hR.2 (v0, [1, 2]) (by simp)
  have h1 : SlN w2 v1 [0, 3] := hR.2 (v1, [0, 3]) (by simp)
  obtain ⟨g, c, rfl, hle, hm, -⟩ := own_addr hrow (by simp)
  unfold maxLen at hm
  have c0 := own_cell hrow (j := 0) (u := v0) rfl
  have c1 := own_cell hrow (j := 1) (u := v1) rfl
  have hgl := (hrow.lt g rfl).2
  obtain ⟨A0, k0, rfl, -, -⟩ := h0.form
  obtain ⟨A1, k1, rfl, -, -⟩ := h1.form
  have he0 : ∀ w', Below w2.heap.size w2 w' → ∀ v', SlV w' 1 v' 2 (ints .i64 [1, 2]) → Calls Tryd.prog 27 #[.slice A0 2 k0, v'] w' fun e w'' => e = .returned (.bool true) ∧ Below w2.heap.size w2 w'' := fun w' hb v' hv' =>
    (equal_i64 _ v' [1, 2] [1, 2] w' ((h0.below hb).ints) hv').mono fun e w'' ⟨h1, m, h2⟩ => ⟨h1, by rw [h2]; exact below_drewN hb m⟩
  have he1 : ∀ w', Below w2.heap.size w2 w' → ∀ v', SlV w' 1 v' 2 (ints .i64 [0, 3]) → Calls Tryd.prog 27 #[.slice A1 2 k1, v'] w' fun e w'' => e = .returned (.bool true) ∧ Below w2.heap.size w2 w'' := fun w' hb v' hv' =>
    (equal_i64 _ v' [0, 3] [0, 3] w' ((h1.below hb).ints) hv').mono fun e w'' ⟨h1, m, h2⟩ => ⟨h1, by rw [h2]; exact below_drewN hb m⟩
  have HS := Lib.hid (And.intro hb02 hrow)
  clear hR hrow h0 h1 hb02 HB
  go_wp2_with fail
  refine (he0 _ (below_alloc (Below.refl _ _) (.cells #[.int .i64 1, .int .i64 2] 3)) _ (SlV.lit w2 (ints .i64 [1, 2]) 3 1 2 rfl (by decide))).mono ?_
  rintro _ w3 ⟨rfl, hb3⟩
  have c1' : w3.cell? ⟨g, 1, none⟩ = some (.slice A1 2 k1) := (hb3.cell (p := ⟨g, 1, none⟩) hgl).trans c1
  have HB3 := Lib.hid hb3
  clear c0 c1 he0 hb3
  go_wp2_with fail
  refine (he1 _ (below_alloc HB3.out (.cells #[.int .i64 0, .int .i64 3] 3)) _ (SlV.lit w3 (ints .i64 [0, 3]) 3 1 2 rfl (by decide))).mono ?_
  rintro _ w4 ⟨rfl, hb4⟩
  have HB4 := Lib.hid (below_next hb4 HS.out.1)
  clear he1 hb4 c1'
  go_wp2
  go_ret
  exact ⟨rfl, HB4.out⟩
end Go.Proofs.YtpimcghmpbbckaaDoor


namespace Go.Proofs.YtpimcghmpbbckaaDoor.Gr
set_option linter.unusedVariables false
set_option linter.unusedSimpArgs false
set_option maxRecDepth 100000

theorem all_good (N : Nat) (es : List Ed) (w : Nat) (k : Nat) : Good N es ((all N es w).take k).flatten := by
  have := good_rounds (w := w) N [] (Good.nil N es) k
  rwa [List.nil_append] at this
theorem all_nodup (N : Nat) (es : List Ed) (w : Nat) : (all N es w).flatten.Nodup := by
  have := (all_good N es w (all N es w).length).nd
  rwa [List.take_length] at this
theorem all_at {N : Nat} {es : List Ed} {w k : Nat} {a : List Nat} (h : (all N es w)[k]? = some a) : a.length ≤ w ∧ a ≠ [] ∧ ∀ x ∈ a, x < N := by
  obtain ⟨ha, hne⟩ := rounds_at N [] k a h
  refine ⟨by rw [ha]; exact now_length _ _ _ _, hne, fun x hx => ?_⟩
  rw [ha] at hx
  exact (now_mem hx).1

/-- the round in which it is done -/
def rnd (ls : List (List Nat)) (x : Nat) : Nat := ls.findIdx (·.contains x)
theorem rnd_eq {ls : List (List Nat)} {k x : Nat} {a : List Nat} (hn : ls.flatten.Nodup) (h : ls[k]? = some a) (hx : x ∈ a) : rnd ls x = k := by
  unfold rnd
  obtain ⟨hk, rfl⟩ := List.getElem?_eq_some_iff.1 h
  rw [List.findIdx_eq hk]
  refine ⟨by simpa using hx, fun j hj => ?_⟩
  rw [Bool.eq_false_iff]
  intro hc
  have hc' : x ∈ ls[j] := by simpa using hc
  obtain ⟨-, hp⟩ := List.pairwise_flatten.1 hn
  have := (List.pairwise_iff_getElem.1 hp) j k (by omega) hk hj
  exact this x hc' x hx rfl
/-- what the map holds when those of D are told -/
def at_ (ls : List (List Nat)) (D : List Nat) (x : Int) : Int := if 0 ≤ x ∧ x.toNat ∈ D then ((rnd ls x.toNat + 1 : Nat) : Int) else 0
theorem at_nil (ls : List (List Nat)) : at_ ls [] = fun _ => 0 := by
  funext x
  simp [at_]
theorem at_out {ls : List (List Nat)} {D : List Nat} {n : Nat} (h : n ∉ D) : at_ ls D (n : Int) = 0 := by
  unfold at_
  rw [if_neg (by simpa using h)]
theorem at_in {ls : List (List Nat)} {D : List Nat} {n : Nat} (h : n ∈ D) : at_ ls D (n : Int) = ((rnd ls n + 1 : Nat) : Int) := by
  unfold at_
  rw [if_pos ⟨by omega, by simpa using h⟩]
  simp
theorem at_snoc {ls : List (List Nat)} {D a : List Nat} {k n : Nat} (hn : ls.flatten.Nodup) (h : ls[k]? = some a) (hx : n ∈ a) : (fun j => if j = (n : Int) then ((k : Int) + 1) else at_ ls D j) = at_ ls (D ++ [n]) := by
  funext j
  by_cases e : j = (n : Int)
  · subst e
    rw [if_pos rfl, at_in (by simp), rnd_eq hn h hx]
    omega
  · rw [if_neg e]
    unfold at_
    by_cases h0 : 0 ≤ j
    · have : j.toNat ≠ n := fun h => e (by omega)
      simp [h0, this]
    · simp [h0]
/-- none is done ahead of what it waits for -/
theorem rnd_order {N : Nat} {es : List Ed} {w : Nat} {e : Ed} (hw : 0 < w) (hT : (take N es).length = N) (he : e ∈ es) (h2 : e.2 < N) : rnd (all N es w) e.1 < rnd (all N es w) e.2 := by
  have hin := (all_full (es := es) hw hT).1 e.2 h2
  obtain ⟨a, ha, hea⟩ := List.mem_flatten.1 hin
  obtain ⟨k, hk⟩ := List.getElem?_of_mem ha
  obtain ⟨j, b, hjk, hj, hb⟩ := all_order hk hea e he rfl
  have hn := all_nodup N es w
  rw [rnd_eq hn hk hea, rnd_eq hn hj hb]
  exact hjk
theorem short_flat : ∀ {ls : List (List Nat)}, (∀ a ∈ ls, a ≠ []) → ls.length ≤ ls.flatten.length
  | [], _ => Nat.le_refl _
  | a :: ls, h => by
    have h1 := List.length_pos_iff.2 (h a List.mem_cons_self)
    have h2 := short_flat (ls := ls) (fun b hb => h b (List.mem_cons_of_mem _ hb))
    rw [List.flatten_cons, List.length_append, List.length_cons]
    omega
theorem all_short (N : Nat) (es : List Ed) (w : Nat) : (all N es w).length ≤ N := by
  have h1 := (all_good N es w (all N es w).length).length
  rw [List.take_length] at h1
  refine Nat.le_trans (short_flat fun a ha => ?_) h1
  obtain ⟨k, hk⟩ := List.getElem?_of_mem ha
  exact (all_at hk).2.1
end Go.Proofs.YtpimcghmpbbckaaDoor.Gr


namespace Go.Proofs.YtpimcghmpbbckaaDoor
set_option linter.unusedVariables false
set_option linter.unusedSimpArgs false
set_option maxRecDepth 100000
open Go.ChangeShapes Go.WideShapes Go.ChangeAt Go.RowKit Go.Deep

/-- every field is an int of one cell, and they lie one behind the other -/
def intFields (P : Program) (fs : Array Field) : Bool :=
  (List.range fs.size).all fun j => match fs[j]? with
    | some f => f.offset == j && P.cellsOf f.type == 1 && (match P.underlying f.type with | some (.int .i64) => true | _ => false)
    | none => false

theorem intFields_at {P : Program} {fs : Array Field} (h : intFields P fs = true) {j : Nat} (hj : j < fs.size) : ∃ f, fs[j]? = some f ∧ f.offset = j ∧ P.cellsOf f.type = 1 ∧ P.underlying f.type = some (.int .i64) := by
  have := List.all_eq_true.1 h j (by simpa using hj)
  rw [Array.getElem?_eq_getElem hj] at this
  simp only [Bool.and_eq_true, beq_iff_eq] at this
  refine ⟨fs[j], Array.getElem?_eq_getElem hj, this.1.1, this.1.2, ?_⟩
  have h3 := this.2
  split at h3
  · assumption
  · cases h3

def irow (r : List Int) : List Value := ints .i64 r

section
variable {H : Type} {enc : TypeId × Value → H} {P : Program} {w : World}

/-- one struct's cells are integers -/
theorem struct_ints {e : TypeId} {fs : Array Field} {n fuel : Nat} {cs : List Value} {x : DataW H × List MemPlace} (he : P.underlying e = some (.struct fs)) (hn : fs.size = n) (hC : P.cellsOf e = n) (hf : intFields P fs = true)
    (h : DataW.trod enc P w 0 (fun _ => true) true fuel e cs = some x) : ∃ r : List Int, r.length = n ∧ cs = irow r ∧ Wfs .i64 r := by
  obtain ⟨xs, m, _, _, hl, hxl, hfs⟩ := DataW.trod_struct he h
  rw [hC] at hl
  have each : ∀ j, j < n → ∃ k : Int, cs[j]? = some (.int .i64 k) ∧ (Lit.int .i64 k).wf = true := by
    intro j hj
    obtain ⟨f, hfj, ho, hc, hu⟩ := intFields_at hf (j := j) (by omega)
    have h1 := hfs j f hfj
    rw [ho, hc] at h1
    have hxj : xs[j]? = some xs[j] := List.getElem?_eq_getElem (by omega)
    rw [hxj] at h1
    obtain ⟨k, hk, _, hw⟩ := DataW.trod_int hu h1
    refine ⟨k, ?_, hw⟩
    have := congrArg (fun l => l[0]?) hk
    simp only [List.getElem?_cons_zero] at this
    rw [← this, List.getElem?_take, if_pos (by decide), List.getElem?_drop, Nat.add_zero]
  refine ⟨(List.range n).map fun j => intOf (cs.getD j undef), by simp, ?_, ?_⟩
  · apply List.ext_getElem?
    intro j
    by_cases hj : j < n
    · obtain ⟨k, hk, _⟩ := each j hj
      rw [hk]
      simp [irow, ints, hj, hk, List.getD, intOf]
    · rw [List.getElem?_eq_none (by omega), List.getElem?_eq_none (by simp [irow, ints]; omega)]
  · intro y hy
    obtain ⟨j, hj, rfl⟩ := List.mem_map.1 hy
    obtain ⟨k, hk, hw⟩ := each j (by simpa using hj)
    simp only [List.getD, hk, Option.getD_some, intOf]
    exact hw

/-- an argument that is a slice of structs of n integers -/
theorem open_rows {t e : TypeId} {fs : Array Field} {n : Nat} {v : Value} {d : DataW H} {ps : List MemPlace} (ht : P.underlying t = some (.slice e)) (he : P.underlying e = some (.struct fs)) (hn : fs.size = n) (hn0 : 0 < n) (hC : P.cellsOf e = n) (hf : intFields P fs = true)
    (hv : ∃ a len cap, v = .slice a len cap) (h : DataW.Trod enc P w 0 (fun _ => true) true t v d ps) (hlt : ∀ x ∈ ps, x.block < w.heap.size) :
    ∃ rs : List (List Int), (∀ r ∈ rs, r.length = n ∧ Wfs .i64 r) ∧ SlV w n v rs.length (rs.flatMap irow) ∧ ((d = .nil ∧ rs = []) ∨ ∃ (el sp : List (DataW H)), d = .slice el sp ∧ el.length = rs.length) := by
  obtain ⟨a0, len, cap, rfl⟩ := hv
  obtain ⟨fuel, hfu⟩ := h
  rcases open_slice ht hfu with ⟨hcs, hx⟩ | ⟨a, len', cap', m, k, D, Pl, hcs, _, hl, hm, hmm, hx, hi⟩
  · simp [Value.cells] at hcs
    obtain ⟨rfl, rfl, rfl⟩ := hcs
    simp only [Prod.mk.injEq] at hx
    exact ⟨[], by simp, SlV.nil _ _, .inl ⟨hx.1, rfl⟩⟩
  · simp [Value.cells] at hcs
    obtain ⟨rfl, rfl, rfl⟩ := hcs
    simp only [Prod.mk.injEq] at hx
    simp only [if_true] at hmm
    rw [hC] at hi hx
    have each : ∀ i, i < len → ∃ r : List Int, (r.length = n ∧ Wfs .i64 r) ∧ w.cells? 0 (a.add (i * n)) n = some (irow r) := by
      intro i hil
      obtain ⟨cs', hc, htr⟩ := hi i (by omega)
      obtain ⟨r, hr, hcr, hw⟩ := struct_ints he hn hC hf htr
      exact ⟨r, ⟨hr, hw⟩, by rw [hc, hcr]⟩
    obtain ⟨f, hff⟩ := choose_lt each
    have hlen : ∀ r ∈ (List.range len).map f, r.length = n ∧ Wfs .i64 r := by
      intro r hr
      obtain ⟨i, hi', rfl⟩ := List.mem_map.1 hr
      exact (hff i (by simpa using hi')).1
    have hflat : (((List.range len).map f).flatMap irow).length = len * n := by
      have : ∀ l : List (List Int), (∀ r ∈ l, r.length = n) → (l.flatMap irow).length = l.length * n := by
        intro l
        induction l with
        | nil => simp
        | cons r l ih =>
          intro hl'
          rw [List.flatMap_cons, List.length_append, ih (fun x hx => hl' x (by simp [hx])), List.length_cons, Nat.add_mul]
          have := hl' r (by simp)
          simp [irow, ints, this]
          omega
      rw [this _ fun r hr => (hlen r hr).1]
      simp
    refine ⟨(List.range len).map f, hlen, ⟨some a, cap, by simp, by simpa using hl, hm, by simpa using hflat, ?_⟩, .inr ⟨_, _, hx.1, by simp⟩⟩
    by_cases h0 : len = 0
    · subst h0
      exact Cells.nil _ _ _
    · obtain ⟨b, off, spot⟩ := a
      have hcell : ∀ i, i < len → ∀ j u, (irow (f i))[j]? = some u → w.cell? ((⟨b, off, spot⟩ : Addr).add (i * n + j)) = some u := by
        intro i hil j u hu
        have hj : j < n := by
          have := (List.getElem?_eq_some_iff.1 hu).1
          have h1 := (hff i hil).1.1
          simp [irow, ints, h1] at this
          exact this
        obtain ⟨_, _, hat⟩ := World.cells?_some (hff i hil).2
        have := hat j hj
        rw [Go.Deep.add_add] at this
        rw [this, hu]
      have hspot : spot = none := by
        have hr := (hff 0 (by omega)).1.1
        have hex : ∃ u, (irow (f 0))[0]? = some u := ⟨_, List.getElem?_eq_getElem (by simp [irow, ints]; omega)⟩
        obtain ⟨u, hu⟩ := hex
        have := hcell 0 (by omega) 0 u hu
        simpa [Addr.add] using World.cell?_spot this
      subst hspot
      refine ⟨b, off, fun _ => ⟨rfl, hlt (.cell b off) (by
        rw [hx.2]
        refine List.mem_append_left _ (MemPlace.mem_row.2 ⟨0, ?_, by simp⟩)
        exact Nat.mul_pos (by omega) hn0)⟩, fun j u hu => ?_⟩
      have hjl : j < len * n := by
        have := (List.getElem?_eq_some_iff.1 hu).1
        omega
      have hq : j / n < len := Nat.div_lt_of_lt_mul (by rw [Nat.mul_comm]; exact hjl)
      have hr : j % n < n := Nat.mod_lt _ hn0
      have hj : j = j / n * n + j % n := by have := Nat.div_add_mod j n; rw [Nat.mul_comm] at this; omega
      have hget : ((List.range len).map f)[j / n]? = some (f (j / n)) := by simp [hq]
      have key : ∀ (l : List (List Int)), (∀ r ∈ l, r.length = n) → ∀ (q s : Nat) (r : List Int), l[q]? = some r → s < n → (l.flatMap irow)[q * n + s]? = (irow r)[s]? := by
        intro l
        induction l with
        | nil => intro _ q s r h'; simp at h'
        | cons r0 l ih =>
          intro hl' q s r h' hs
          have h00 : (irow r0).length = n := by simp [irow, ints, hl' r0 (by simp)]
          rw [List.flatMap_cons]
          rcases q with _ | q
          · simp at h'
            subst h'
            rw [Nat.zero_mul, Nat.zero_add, List.getElem?_append_left (by omega)]
          · have e : (q + 1) * n + s = (irow r0).length + (q * n + s) := by rw [h00, Nat.add_mul]; omega
            rw [e, List.getElem?_append_right (by omega), Nat.add_sub_cancel_left]
            exact ih (fun x hx => hl' x (by simp [hx])) q s r (by simpa using h') hs
      rw [hj, key _ (fun r hr => (hlen r hr).1) _ _ _ hget hr] at hu
      have := hcell _ hq _ _ hu
      rw [← hj, Addr.add_lit] at this
      exact this
end
end Go.Proofs.YtpimcghmpbbckaaDoor


namespace Go.Proofs.YtpimcghmpbbckaaDoor
set_option linter.unusedVariables false
set_option linter.unusedSimpArgs false
set_option maxRecDepth 100000
open Go

def fieldsOf (P : Program) (t : TypeId) : Array Field := match P.underlying t with | some (.struct fs) => fs | _ => #[]
end Go.Proofs.YtpimcghmpbbckaaDoor


namespace Go.Proofs.YtpimcghmpbbckaaDoor.Sp
set_option linter.unusedVariables false
set_option linter.unusedSimpArgs false
set_option maxRecDepth 100000

inductive T where
  | nil
  | one (c : Int) (wr : Bool) (lb : Int)
  | two (par : Bool) (l r : T)

abbrev Acc := Int × Bool × Int

def T.leaves : T → List Acc
  | .nil => []
  | .one c b l => [(c, b, l)]
  | .two _ l r => l.leaves ++ r.leaves
def T.size (t : T) : Nat := t.leaves.length
def T.span : T → Nat
  | .nil => 0
  | .one _ _ _ => 1
  | .two par l r => if par then max l.span r.span else l.span + r.span
def T.width : T → Nat
  | .nil => 0
  | .one _ _ _ => 1
  | .two par l r => if par then l.width + r.width else max l.width r.width

theorem T.size_two (p : Bool) (l r : T) : (T.two p l r).size = l.size + r.size := by simp [T.size, T.leaves]
def T.cnt : T → Nat
  | .nil => 1
  | .one _ _ _ => 1
  | .two _ l r => 1 + l.cnt + r.cnt
theorem T.size_le_cnt (t : T) : t.size ≤ t.cnt := by
  induction t with
  | nil => exact Nat.zero_le _
  | one _ _ _ => exact Nat.le_refl _
  | two p l r ihl ihr => rw [T.size_two, T.cnt]; omega
theorem T.span_le (t : T) : t.span ≤ t.size := by
  induction t with
  | nil => exact Nat.le_refl _
  | one _ _ _ => exact Nat.le_refl _
  | two p l r ihl ihr =>
    rw [T.size_two]
    cases p <;> simp only [T.span] <;> simp <;> omega
theorem T.width_le (t : T) : t.width ≤ t.size := by
  induction t with
  | nil => exact Nat.le_refl _
  | one _ _ _ => exact Nat.le_refl _
  | two p l r ihl ihr =>
    rw [T.size_two]
    cases p <;> simp only [T.width] <;> simp <;> omega
theorem T.area (t : T) : t.size ≤ t.span * t.width := by
  induction t with
  | nil => exact Nat.le_refl _
  | one _ _ _ => exact Nat.le_refl _
  | two p l r ihl ihr =>
    rw [T.size_two]
    cases p
    · simp only [T.span, T.width, Bool.false_eq_true, if_false, Nat.add_mul]
      exact Nat.add_le_add (Nat.le_trans ihl (Nat.mul_le_mul_left _ (Nat.le_max_left _ _))) (Nat.le_trans ihr (Nat.mul_le_mul_left _ (Nat.le_max_right _ _)))
    · simp only [T.span, T.width, if_true, Nat.mul_add]
      exact Nat.add_le_add (Nat.le_trans ihl (Nat.mul_le_mul_right _ (Nat.le_max_left _ _))) (Nat.le_trans ihr (Nat.mul_le_mul_right _ (Nat.le_max_right _ _)))
theorem T.zero (t : T) : (t.size = 0 ↔ t.span = 0) ∧ (t.size = 0 ↔ t.width = 0) := by
  have h1 := t.span_le
  have h2 := t.width_le
  have h3 := t.area
  refine ⟨⟨fun h => by omega, fun h => ?_⟩, ⟨fun h => by omega, fun h => ?_⟩⟩
  · rw [h, Nat.zero_mul] at h3; omega
  · rw [h, Nat.mul_zero] at h3; omega
end Go.Proofs.YtpimcghmpbbckaaDoor.Sp


namespace Go.Proofs.YtpimcghmpbbckaaDoor
set_option linter.unusedVariables false
set_option linter.unusedSimpArgs false
set_option maxRecDepth 100000
open Go.ChangeShapes Go.WideShapes Go.ChangeAt Go.RowKit
set_option maxRecDepth 100000

def tcells (k c : Int) (b : Bool) (l : Int) (A : Option Addr) (n cap : Nat) : List Value := [.int .i64 k, .int .i64 c, .bool b, .int .i64 l, .slice A n cap]

inductive TmR (B : Nat) (w : World) : List Value → Sp.T → Prop
  | nil (k c : Int) (b : Bool) (l : Int) (A : Option Addr) (n cap : Nat) : n ≤ cap → cap ≤ maxLen → k ≠ 1 → ¬ ((k = 2 ∨ k = 3) ∧ 2 ≤ n) → TmR B w (tcells k c b l A n cap) .nil
  | one (c : Int) (b : Bool) (l : Int) (A : Option Addr) (n cap : Nat) : n ≤ cap → cap ≤ maxLen → TmR B w (tcells 1 c b l A n cap) (.one c b l)
  | two (par : Bool) (c : Int) (b : Bool) (l : Int) (g o n cap : Nat) (cs0 cs1 : List Value) (t0 t1 : Sp.T) : n ≤ cap → cap ≤ maxLen → 2 ≤ n → g < B →
      (∀ j u, cs0[j]? = some u → w.cell? ⟨g, o + j, none⟩ = some u) → (∀ j u, cs1[j]? = some u → w.cell? ⟨g, o + 5 + j, none⟩ = some u) → TmR B w cs0 t0 → TmR B w cs1 t1 →
      TmR B w (tcells (if par then 3 else 2) c b l (some ⟨g, o, none⟩) n cap) (.two par t0 t1)

theorem TmR.form {B : Nat} {w : World} {cs : List Value} {t : Sp.T} (h : TmR B w cs t) : ∃ k c b l A n cap, cs = tcells k c b l A n cap ∧ n ≤ cap ∧ cap ≤ maxLen := by
  cases h with
  | nil k c b l A n cap h1 h2 => exact ⟨_, _, _, _, _, _, _, rfl, h1, h2⟩
  | one c b l A n cap h1 h2 => exact ⟨_, _, _, _, _, _, _, rfl, h1, h2⟩
  | two par c b l g o n cap cs0 cs1 t0 t1 h1 h2 => exact ⟨_, _, _, _, _, _, _, rfl, h1, h2⟩

theorem TmR.keep {B B' : Nat} {w w' : World} {cs : List Value} {t : Sp.T} (h : TmR B w cs t) (hB : B ≤ B') (hk : ∀ p : Addr, p.block < B → w'.cell? p = w.cell? p) : TmR B' w' cs t := by
  induction h with
  | nil k c b l A n cap h1 h2 h3 h4 => exact .nil k c b l A n cap h1 h2 h3 h4
  | one c b l A n cap h1 h2 => exact .one c b l A n cap h1 h2
  | two par c b l g o n cap cs0 cs1 t0 t1 h1 h2 h3 h4 h5 h6 _ _ i0 i1 =>
    exact .two par c b l g o n cap cs0 cs1 t0 t1 h1 h2 h3 (Nat.lt_of_lt_of_le h4 hB) (fun j u hu => (hk ⟨g, o + j, none⟩ h4).trans (h5 j u hu)) (fun j u hu => (hk ⟨g, o + 5 + j, none⟩ h4).trans (h6 j u hu)) i0 i1
theorem TmR.later {B : Nat} {w w' : World} {cs : List Value} {t : Sp.T} (h : TmR B w cs t) (hb : Below B w w') : TmR B w' cs t := h.keep (Nat.le_refl _) (fun _ hp => hb.cell hp)
theorem TmR.alloc {B : Nat} {w : World} {cs : List Value} {t : Sp.T} (h : TmR B w cs t) (hB : B ≤ w.heap.size) (o : Obj) : TmR B (w.alloc o) cs t := h.later ((Below.refl _ _).alloc hB o)

/-! ### an argument -/
theorem bulk_mem {H : Type} {d : DataW H} : ∀ {l : List (DataW H)}, d ∈ l → Rows.uptoBulk d ≤ Rows.uptoBulkAll l
  | x :: l, h => by
    rw [Rows.uptoBulkAll]
    rcases List.mem_cons.1 h with rfl | h
    · omega
    · have := bulk_mem h; omega
theorem bulk_two {H : Type} (x y : DataW H) (l : List (DataW H)) : Rows.uptoBulk x + Rows.uptoBulk y ≤ Rows.uptoBulkAll (x :: y :: l) := by
  rw [Rows.uptoBulkAll, Rows.uptoBulkAll]; omega


theorem open_term {H : Type} {enc : TypeId × Value → H} {w : World} : ∀ (fuel : Nat) (cs : List Value) (x : DataW H × List MemPlace), DataW.trod enc Tryd.prog w 0 (fun _ => true) true fuel 42 cs = some x → (∀ p ∈ x.2, p.block < w.heap.size) →
    ∃ t : Sp.T, TmR w.heap.size w cs t ∧ t.cnt ≤ Rows.uptoBulk x.1 := by
  intro fuel
  induction fuel using Nat.strongRecOn with
  | _ fuel ih =>
    intro cs x h hlt
    have hT : Tryd.prog.underlying 42 = some (.struct (fieldsOf Tryd.prog 42)) := by kernel_rfl
    have hA : Tryd.prog.underlying 39 = some (.struct (fieldsOf Tryd.prog 39)) := by kernel_rfl
    obtain ⟨xs, m, rfl, rfl, hl, hxl, hfs⟩ := DataW.trod_struct hT h
    have e0 : (fieldsOf Tryd.prog 42)[0]?.map (fun f => (f.type, f.offset)) = some (3, 0) := by kernel_rfl
    have e1 : (fieldsOf Tryd.prog 42)[1]?.map (fun f => (f.type, f.offset)) = some (39, 1) := by kernel_rfl
    have e2 : (fieldsOf Tryd.prog 42)[2]?.map (fun f => (f.type, f.offset)) = some (40, 4) := by kernel_rfl
    have hsz : (fieldsOf Tryd.prog 42).size = 3 := by kernel_rfl
    obtain ⟨f0, g0, q0⟩ := Option.map_eq_some_iff.1 e0
    obtain ⟨f1, g1, q1⟩ := Option.map_eq_some_iff.1 e1
    obtain ⟨f2, g2, q2⟩ := Option.map_eq_some_iff.1 e2
    injection q0 with q0 q0'
    injection q1 with q1 q1'
    injection q2 with q2 q2'
    have h0 := hfs 0 f0 g0
    have h1 := hfs 1 f1 g1
    have h2 := hfs 2 f2 g2
    have c0 : Tryd.prog.cellsOf 3 = 1 := by kernel_rfl
    have c1 : Tryd.prog.cellsOf 39 = 3 := by kernel_rfl
    have c2 : Tryd.prog.cellsOf 40 = 1 := by kernel_rfl
    have cT : Tryd.prog.cellsOf 42 = 5 := by kernel_rfl
    have cB : Tryd.prog.cellsOf 4 = 1 := by kernel_rfl
    rw [q0, q0', c0] at h0
    rw [q1, q1', c1] at h1
    rw [q2, q2', c2] at h2
    rw [cT] at hl
    rw [hsz] at hxl
    match xs, hxl, cs, hl with
    | [x0, x1, x2], _, [v0, v1, v2, v3, v4], _ =>
      simp only [List.drop_succ_cons, List.drop_zero, List.take_succ_cons, List.take_zero, List.getElem?_cons_zero, List.getElem?_cons_succ] at h0 h1 h2
      obtain ⟨k, hk, -, -⟩ := DataW.trod_int Tryd.underlying3 h0
      obtain ⟨ys, m1, rfl, -, hl1, hyl, hys⟩ := DataW.trod_struct hA h1
      have d0 : (fieldsOf Tryd.prog 39)[0]?.map (fun f => (f.type, f.offset)) = some (3, 0) := by kernel_rfl
      have d1 : (fieldsOf Tryd.prog 39)[1]?.map (fun f => (f.type, f.offset)) = some (4, 1) := by kernel_rfl
      have d2 : (fieldsOf Tryd.prog 39)[2]?.map (fun f => (f.type, f.offset)) = some (3, 2) := by kernel_rfl
      have hsy : (fieldsOf Tryd.prog 39).size = 3 := by kernel_rfl
      obtain ⟨u0, w0, p0⟩ := Option.map_eq_some_iff.1 d0
      obtain ⟨u1, w1, p1⟩ := Option.map_eq_some_iff.1 d1
      obtain ⟨u2, w2, p2⟩ := Option.map_eq_some_iff.1 d2
      injection p0 with p0 p0'
      injection p1 with p1 p1'
      injection p2 with p2 p2'
      have y0 := hys 0 u0 w0
      have y1 := hys 1 u1 w1
      have y2 := hys 2 u2 w2
      rw [p0, p0', c0] at y0
      rw [p1, p1', cB] at y1
      rw [p2, p2', c0] at y2
      rw [hsy] at hyl
      match ys, hyl with
      | [z0, z1, z2], _ =>
        simp only [List.drop_succ_cons, List.drop_zero, List.take_succ_cons, List.take_zero, List.getElem?_cons_zero, List.getElem?_cons_succ] at y0 y1 y2
        obtain ⟨c, hc, -, -⟩ := DataW.trod_int Tryd.underlying3 y0
        obtain ⟨b, hb, -⟩ := DataW.trod_bool Tryd.underlying4 y1
        obtain ⟨l, hl', -, -⟩ := DataW.trod_int Tryd.underlying3 y2
        simp only [List.cons.injEq, and_true] at hk hc hb hl'
        subst hk hc hb hl'
        have bulk1 : Rows.uptoBulk (DataW.agg (H := H) [x0.1, x1.1, x2.1]) = Rows.uptoBulk x0.1 + (Rows.uptoBulk x1.1 + Rows.uptoBulk x2.1) + 1 := by
          simp [Rows.uptoBulk, Rows.uptoBulkAll]
        have pos : ∀ d : DataW H, 1 ≤ Rows.uptoBulk d := fun d => by
          cases d with
          | lit x => cases x <;> simp [Rows.uptoBulk]
          | _ => simp [Rows.uptoBulk]
        rcases DataW.trod_slice Tryd.underlying40 h2 with ⟨hcs, hx⟩ | ⟨a, len, cap, el, rest, n, hn, hcs, hx, -, hle, hm, hlen, hel, hsp, -⟩
        · simp only [List.cons.injEq, and_true] at hcs
          subst hcs
          by_cases hk1 : k = 1
          · subst hk1
            exact ⟨.one c b l, .one c b l none 0 0 (Nat.le_refl _) (Nat.zero_le _), by have := pos x0.1; simp [Sp.T.cnt, bulk1]⟩
          · exact ⟨.nil, .nil k c b l none 0 0 (Nat.le_refl _) (Nat.zero_le _) hk1 (by omega), by simp [Sp.T.cnt, bulk1]⟩
        · simp only [List.cons.injEq, and_true] at hcs
          subst hcs
          by_cases hk1 : k = 1
          · subst hk1
            exact ⟨.one c b l, .one c b l _ len cap hle hm, by have := pos x0.1; simp [Sp.T.cnt, bulk1]⟩
          · by_cases hk2 : (k = 2 ∨ k = 3) ∧ 2 ≤ len
            · obtain ⟨hk2, h2l⟩ := hk2
              have kid : ∀ i, i < len → ∃ (y : DataW H × List MemPlace) (cs' : List Value) (t : Sp.T), el[i]? = some y ∧ cs'.length = 5 ∧ (∀ j u, cs'[j]? = some u → w.cell? ((a.add (i * 5)).add j) = some u) ∧ TmR w.heap.size w cs' t ∧ t.cnt ≤ Rows.uptoBulk y.1 := by
                intro i hi
                have h3 := hel i hi
                rw [cT, List.getElem?_eq_getElem (by omega)] at h3
                obtain ⟨cs', hc', htr⟩ := Option.bind_eq_some_iff.1 h3
                obtain ⟨hb0, hl5, hat⟩ := World.cells?_some hc'
                obtain ⟨t, ht1, ht2⟩ := ih n (by omega) cs' _ htr (fun p hp => hlt p (by
                  rw [hx]
                  simp only [List.flatMap_cons, List.flatMap_nil, List.mem_append, List.append_nil]
                  exact .inr (.inr (.inr (List.mem_flatMap.2 ⟨el[i], List.mem_append_left _ (List.getElem_mem _), hp⟩)))))
                refine ⟨el[i], cs', t, List.getElem?_eq_getElem (by omega), hl5, fun j u hu => ?_, ht1, ht2⟩
                have hj : j < 5 := by have := (List.getElem?_eq_some_iff.1 hu).1; omega
                rw [hat j hj, hu]
              obtain ⟨ya, csa, ta, ea, la, ca, ra, ba⟩ := kid 0 (by omega)
              obtain ⟨yb, csb, tb, eb, lb, cb, rb, bb⟩ := kid 1 (by omega)
              obtain ⟨g, o, sp⟩ := a
              have hsp0 : sp = none := by
                have := ca 0 _ (List.getElem?_eq_getElem (by omega))
                simpa [Addr.add] using World.cell?_spot this
              subst hsp0
              have ca' : ∀ j u, csa[j]? = some u → w.cell? ⟨g, o + j, none⟩ = some u := fun j u hu => by
                have := ca j u hu
                rw [Addr.add_lit, Addr.add_lit] at this
                simpa using this
              have cb' : ∀ j u, csb[j]? = some u → w.cell? ⟨g, o + 5 + j, none⟩ = some u := fun j u hu => by
                have := cb j u hu
                rw [Addr.add_lit, Addr.add_lit] at this
                simpa using this
              have hg : g < w.heap.size := World.block_lt_of_cell? w _ (ca' 0 _ (List.getElem?_eq_getElem (by omega)))
              have hbulk : ta.cnt + tb.cnt ≤ Rows.uptoBulk x2.1 := by
                rw [hx]
                match el, hlen, ea, eb with
                | e0 :: e1 :: el', _, ea, eb =>
                  simp only [List.getElem?_cons_zero, List.getElem?_cons_succ, Option.some.injEq] at ea eb
                  subst ea eb
                  have := bulk_two e0.1 e1.1 (el'.map (·.1))
                  simp only [List.map_cons, Rows.uptoBulk]
                  omega
              rcases hk2 with rfl | rfl
              · exact ⟨.two false ta tb, .two false c b l g o len cap csa csb ta tb hle hm h2l hg ca' cb' ra rb, by show _ ≤ Rows.uptoBulk (DataW.agg (H := H) [x0.1, x1.1, x2.1]); rw [Sp.T.cnt, bulk1]; omega⟩
              · exact ⟨.two true ta tb, .two true c b l g o len cap csa csb ta tb hle hm h2l hg ca' cb' ra rb, by show _ ≤ Rows.uptoBulk (DataW.agg (H := H) [x0.1, x1.1, x2.1]); rw [Sp.T.cnt, bulk1]; omega⟩
            · exact ⟨.nil, .nil k c b l _ len cap hle hm hk1 hk2, by simp [Sp.T.cnt, bulk1]⟩
end Go.Proofs.YtpimcghmpbbckaaDoor


namespace Go.Proofs.YtpimcghmpbbckaaDoor
set_option linter.unusedVariables false
set_option linter.unusedSimpArgs false
set_option maxRecDepth 100000
open Go.RowKit

theorem kids_cells {w : World} {g : Nat} {t : TypeId} {xs ys : List Value} (h : Blk w g t (xs ++ ys)) (hx : xs.length = 5) : (∀ j u, xs[j]? = some u → w.cell? ⟨g, 0 + j, none⟩ = some u) ∧ (∀ j u, ys[j]? = some u → w.cell? ⟨g, 0 + 5 + j, none⟩ = some u) := by
  refine ⟨fun j u hu => ?_, fun j u hu => ?_⟩
  · have hj := (List.getElem?_eq_some_iff.1 hu).1
    rw [h.cell, List.getElem?_append_left (by omega), Nat.zero_add]
    exact hu
  · rw [h.cell, List.getElem?_append_right (by omega), ← hu]
    congr 1
    omega

/-- a term of two, made by the call -/
theorem TmR.made {B : Nat} {w : World} {g : Nat} {xs ys : List Value} {t0 t1 : Sp.T} {tt : TypeId} (par : Bool) (h : Blk w g tt (xs ++ ys)) (hx : xs.length = 5) (hg : g < B) (r0 : TmR B w xs t0) (r1 : TmR B w ys t1) :
    TmR B w (tcells (if par then 3 else 2) 0 false 0 (some ⟨g, 0, none⟩) 2 2) (.two par t0 t1) :=
  .two par 0 false 0 g 0 2 2 xs ys t0 t1 (Nat.le_refl _) (by unfold maxLen; omega) (Nat.le_refl _) hg (kids_cells h hx).1 (kids_cells h hx).2 r0 r1

theorem two_allocs (w : World) (c0 c1 : List Value) (t0 t1 : TypeId) : Blk ((w.alloc (.cells c0.toArray t0)).alloc (.cells c1.toArray t1)) w.heap.size t0 c0 ∧ Blk ((w.alloc (.cells c0.toArray t0)).alloc (.cells c1.toArray t1)) (w.heap.size + 1) t1 c1 ∧ ((w.alloc (.cells c0.toArray t0)).alloc (.cells c1.toArray t1)).heap.size = w.heap.size + 1 + 1 ∧ Keeps (fun _ => False) w ((w.alloc (.cells c0.toArray t0)).alloc (.cells c1.toArray t1)) := by
  have h0 := Blk.new w t0 c0
  have h1 := Blk.new (w.alloc (.cells c0.toArray t0)) t1 c1
  rw [show (w.alloc (.cells c0.toArray t0)).heap.size = w.heap.size + 1 by simp] at h1
  exact ⟨h0.alloc _, h1, by simp, ((Keeps.refl _ w).alloc _).alloc _⟩
theorem four_allocs (w : World) (c0 c1 c2 c3 : List Value) (t0 t1 t2 t3 : TypeId) : Blk ((((w.alloc (.cells c0.toArray t0)).alloc (.cells c1.toArray t1)).alloc (.cells c2.toArray t2)).alloc (.cells c3.toArray t3)) w.heap.size t0 c0 ∧ Blk ((((w.alloc (.cells c0.toArray t0)).alloc (.cells c1.toArray t1)).alloc (.cells c2.toArray t2)).alloc (.cells c3.toArray t3)) (w.heap.size + 1) t1 c1 ∧
    Blk ((((w.alloc (.cells c0.toArray t0)).alloc (.cells c1.toArray t1)).alloc (.cells c2.toArray t2)).alloc (.cells c3.toArray t3)) (w.heap.size + 1 + 1) t2 c2 ∧ Blk ((((w.alloc (.cells c0.toArray t0)).alloc (.cells c1.toArray t1)).alloc (.cells c2.toArray t2)).alloc (.cells c3.toArray t3)) (w.heap.size + 1 + 1 + 1) t3 c3 ∧
    ((((w.alloc (.cells c0.toArray t0)).alloc (.cells c1.toArray t1)).alloc (.cells c2.toArray t2)).alloc (.cells c3.toArray t3)).heap.size = w.heap.size + 1 + 1 + 1 + 1 ∧ Keeps (fun _ => False) w ((((w.alloc (.cells c0.toArray t0)).alloc (.cells c1.toArray t1)).alloc (.cells c2.toArray t2)).alloc (.cells c3.toArray t3)) := by
  obtain ⟨h0, h1, hz, hk⟩ := two_allocs w c0 c1 t0 t1
  obtain ⟨h2, h3, hz2, hk2⟩ := two_allocs ((w.alloc (.cells c0.toArray t0)).alloc (.cells c1.toArray t1)) c2 c3 t2 t3
  rw [hz] at h2 h3 hz2
  exact ⟨(h0.alloc _).alloc _, (h1.alloc _).alloc _, h2, h3, hz2, hk.trans hk2⟩

/-- what is known of a term that lies in a box, while the world goes on -/
structure Boxed (w1 : World) (q : Nat) (k c : Int) (b : Bool) (l : Int) (A : Option Addr) (n cap : Nat) (t : Sp.T) : Prop where
  look : ∀ w', Below w1.heap.size w1 w' → (w'.cell? ⟨q, 0, none⟩ = some (.int .i64 k) ∧ w'.cell? ⟨q, 1, none⟩ = some (.int .i64 c) ∧ w'.cell? ⟨q, 2, none⟩ = some (.bool b) ∧ w'.cell? ⟨q, 3, none⟩ = some (.int .i64 l) ∧ w'.cell? ⟨q, 4, none⟩ = some (.slice A n cap)) ∧
    TmR w'.heap.size w' [.int .i64 k, .int .i64 c, .bool b, .int .i64 l, .slice A n cap] t
theorem Boxed.of {w1 : World} {q : Nat} {k c : Int} {b : Bool} {l : Int} {A : Option Addr} {n cap : Nat} {t : Sp.T} {B : Nat} (hB : Blk w1 q 42 [.int .i64 k, .int .i64 c, .bool b, .int .i64 l, .slice A n cap]) (hT : TmR B w1 [.int .i64 k, .int .i64 c, .bool b, .int .i64 l, .slice A n cap] t) (hb : B ≤ w1.heap.size) : Boxed w1 q k c b l A n cap t :=
  ⟨fun w' h => ⟨⟨by rw [(hB.below h).cell]; rfl, by rw [(hB.below h).cell]; rfl, by rw [(hB.below h).cell]; rfl, by rw [(hB.below h).cell]; rfl, by rw [(hB.below h).cell]; rfl⟩, (hT.later (h.mono hb)).keep (Nat.le_trans hb h.size) (fun _ _ => rfl)⟩⟩

theorem tm_up {B B' : Nat} {w : World} {cs : List Value} {t : Sp.T} (h : TmR B w cs t) (hB : B ≤ B') : TmR B' w cs t := h.keep hB (fun _ _ => rfl)

theorem three_allocs (w : World) (c0 c1 c2 : List Value) (t0 t1 t2 : TypeId) : Blk (((w.alloc (.cells c0.toArray t0)).alloc (.cells c1.toArray t1)).alloc (.cells c2.toArray t2)) w.heap.size t0 c0 ∧ Blk (((w.alloc (.cells c0.toArray t0)).alloc (.cells c1.toArray t1)).alloc (.cells c2.toArray t2)) (w.heap.size + 1) t1 c1 ∧
    Blk (((w.alloc (.cells c0.toArray t0)).alloc (.cells c1.toArray t1)).alloc (.cells c2.toArray t2)) (w.heap.size + 1 + 1) t2 c2 ∧ (((w.alloc (.cells c0.toArray t0)).alloc (.cells c1.toArray t1)).alloc (.cells c2.toArray t2)).heap.size = w.heap.size + 1 + 1 + 1 ∧ Keeps (fun _ => False) w (((w.alloc (.cells c0.toArray t0)).alloc (.cells c1.toArray t1)).alloc (.cells c2.toArray t2)) := by
  obtain ⟨h0, h1, hz, hk⟩ := two_allocs w c0 c1 t0 t1
  have h2 := Blk.new ((w.alloc (.cells c0.toArray t0)).alloc (.cells c1.toArray t1)) t2 c2
  rw [hz] at h2
  exact ⟨h0.alloc _, h1.alloc _, h2, by simp, hk.alloc _⟩

theorem SlV.of_blk {w : World} {g sz n : Nat} {e : TypeId} {cs : List Value} (h : Blk w g e cs) (hl : cs.length = n * sz) (hn : n ≤ 1000000000) : SlV w sz (.slice (some ⟨g, 0, none⟩) n n) n cs :=
  ⟨_, _, rfl, Nat.le_refl _, by unfold maxLen; omega, hl, g, 0, fun _ => ⟨rfl, h.lt⟩, fun j u hu => by rw [Nat.zero_add, h.cell]; exact hu⟩

end Go.Proofs.YtpimcghmpbbckaaDoor


namespace Go.Proofs.YtpimcghmpbbckaaDoor
set_option linter.unusedVariables false
set_option linter.unusedSimpArgs false
set_option maxRecDepth 100000
open Go.RowKit Go.Maps

theorem keyed_i64 : Keyed Tryd.prog 3 := int_keyed Tryd.underlying3
theorem zero_i64 (w : World) : (zeroValue 3).run Tryd.prog w = .ok (.int .i64 0) w := by kernel_rfl

structure MapI (w : World) (g n : Nat) (f : Int → Int) : Prop where
  is : ∃ D : DataW Unit, w.ownsMap Tryd.prog 3 (plainElem Tryd.prog 3) g n D ∧ IsMap D ∧ ∀ k, (Lit.int .i64 k).wf = true → D.atKey (.int .i64 k) (.lit (.int .i64 0)) = .lit (.int .i64 (f k))

theorem MapI.made (w : World) : MapI (w.alloc (.map #[] 0)) w.heap.size 0 (fun _ => 0) := ⟨_, World.ownsMap_made _ _ _ _, isMap_empty, fun _ _ => rfl⟩
theorem MapI.lt {w : World} {g n : Nat} {f : Int → Int} (h : MapI w g n f) : g < w.heap.size := by obtain ⟨D, h1, -⟩ := h.is; exact h1.lt
theorem MapI.keep {w w' : World} {g n : Nat} {f : Int → Int} (h : MapI w g n f) (hg : w'.heap[g]? = w.heap[g]?) : MapI w' g n f := by
  obtain ⟨D, ⟨es, clock, hb, F, hs, hD⟩, h2, h3⟩ := h.is
  exact ⟨D, ⟨es, clock, hg.trans hb, F, hs, hD⟩, h2, h3⟩
theorem MapI.below {w w' : World} {g n B : Nat} {f : Int → Int} (h : MapI w g n f) (hb : Below B w w') (hB : g < B) : MapI w' g n f := h.keep (hb.block g hB)
theorem MapI.next {w w' : World} {g n : Nat} {f : Int → Int} (h : MapI w g n f) (hb : Below w.heap.size w w') : MapI w' g n f := h.below hb h.lt
theorem MapI.look {w : World} {g n : Nat} {f : Int → Int} (h : MapI w g n f) {k : Int} (hk : (Lit.int .i64 k).wf = true) : (Instr.lookup 31 (.map (some g)) (.int .i64 k) false).run Tryd.prog w = .ok (.int .i64 (f k)) w := by
  obtain ⟨D, h1, h2, h3⟩ := h.is
  obtain ⟨c, hrun, hat, -⟩ := h1.lookup_int keyed_i64 Tryd.underlying31 Tryd.underlying3 (zero_i64 _) (keyOf_int_mk Tryd.underlying3 hk)
  rw [h3 k hk] at hat
  injection hat with hat
  injection hat with _ hat
  rw [hat]
  exact hrun

theorem wp_mapset {P : Program} (hP : P = Tryd.prog) (w : World) {ops : Array Oper} {rest : List Oper} {o : Oper} {a : Act} {Q : Exit → Act → World → Prop}
    (hg : o.guard = none) (m x v : Operand) (hop : o.op = Op.mapUpdate 31 m x v) (g n : Nat) (f : Int → Int) (hm : a.eval m = .map (some g)) (h : MapI w g n f) (hn : n < maxLen)
    (k u : Int) (hx : a.eval x = .int .i64 k) (hv : a.eval v = .int .i64 u) (hk : (Lit.int .i64 k).wf = true) (hu : (Lit.int .i64 u).wf = true)
    (hK : ∀ w', MapI w' g (n + 1) (fun j => if j = k then u else f j) → w.grownBy w' (some g) → wpList P ops Q rest (a.put o.dst undef) w') :
    wpList P ops Q (o :: rest) a w := by
  subst hP
  obtain ⟨D, h1, h2, h3⟩ := h.is
  refine wpList_mapUpdate_own w hg m x v _ hop _ _ keyed_i64 Tryd.underlying31 _ g n D hm h1 hn _ _ _ hx hv (keyOf_int_mk Tryd.underlying3 hk) _ [] (plainElem_int Tryd.underlying3 hu) ?_
  intro w' hown hgr
  refine hK w' ⟨_, hown, h2.put _ _, fun j hj => ?_⟩ hgr
  by_cases e : j = k
  · subst e
    rw [if_pos rfl, atKey_put_same h2 (by first | trivial | exact ⟨_, _, rfl⟩ | (constructor))]
  · rw [if_neg e, atKey_put_other (by intro h; injection h with _ h; exact e h)]
    exact h3 j hj
end Go.Proofs.YtpimcghmpbbckaaDoor


namespace Go.Proofs.YtpimcghmpbbckaaDoor
set_option linter.unusedVariables false
set_option linter.unusedSimpArgs false
set_option maxRecDepth 100000
open Go.RowKit Go.Maps

structure MapK (w : World) (g : Nat) (ks : List Int) (f : Int → Int) : Prop where
  is : ∃ D : DataW Unit, w.ownsMap Tryd.prog 3 (plainElem Tryd.prog 3) g ks.length D ∧ Tidy D ∧ size D = ks.length ∧ (∀ k, (Lit.int .i64 k).wf = true → D.atKey (.int .i64 k) (.lit (.int .i64 0)) = .lit (.int .i64 (f k))) ∧ ∀ k : Int, has D (.int .i64 k) = true ↔ k ∈ ks
theorem MapK.toI {w : World} {g : Nat} {ks : List Int} {f : Int → Int} (h : MapK w g ks f) : MapI w g ks.length f := by
  obtain ⟨D, h1, h2, -, h3, -⟩ := h.is
  exact ⟨D, h1, h2.isMap, h3⟩
theorem MapK.made (w : World) : MapK (w.alloc (.map #[] 0)) w.heap.size [] (fun _ => 0) := ⟨_, World.ownsMap_made _ _ _ _, tidy_empty, rfl, fun _ _ => rfl, fun k => by simp [has_eq]⟩
theorem MapK.lt {w : World} {g : Nat} {ks : List Int} {f : Int → Int} (h : MapK w g ks f) : g < w.heap.size := h.toI.lt
theorem MapK.keep {w w' : World} {g : Nat} {ks : List Int} {f : Int → Int} (h : MapK w g ks f) (hg : w'.heap[g]? = w.heap[g]?) : MapK w' g ks f := by
  obtain ⟨D, ⟨es, clock, hb, F, hs, hD⟩, h2⟩ := h.is
  exact ⟨D, ⟨es, clock, hg.trans hb, F, hs, hD⟩, h2⟩
theorem MapK.below {w w' : World} {g B : Nat} {ks : List Int} {f : Int → Int} (h : MapK w g ks f) (hb : Below B w w') (hB : g < B) : MapK w' g ks f := h.keep (hb.block g hB)
theorem MapK.next {w w' : World} {g : Nat} {ks : List Int} {f : Int → Int} (h : MapK w g ks f) (hb : Below w.heap.size w w') : MapK w' g ks f := h.below hb h.lt
theorem MapK.look {w : World} {g : Nat} {ks : List Int} {f : Int → Int} (h : MapK w g ks f) {k : Int} (hk : (Lit.int .i64 k).wf = true) : (Instr.lookup 31 (.map (some g)) (.int .i64 k) false).run Tryd.prog w = .ok (.int .i64 (f k)) w := h.toI.look hk
theorem MapK.len {w : World} {g : Nat} {ks : List Int} {f : Int → Int} (h : MapK w g ks f) (ty : TypeId) : (Builtin.len_ #[31] ty #[.map (some g)]).run Tryd.prog w = .ok (.int .i64 (ks.length : Int)) w := by
  obtain ⟨D, h1, -, h2, -⟩ := h.is
  rw [h1.len Tryd.underlying31, h2]

theorem wp_mapnew {P : Program} (hP : P = Tryd.prog) (w : World) {ops : Array Oper} {rest : List Oper} {o : Oper} {a : Act} {Q : Exit → Act → World → Prop}
    (hg : o.guard = none) (m x v : Operand) (hop : o.op = Op.mapUpdate 31 m x v) (g : Nat) (ks : List Int) (f : Int → Int) (hm : a.eval m = .map (some g)) (h : MapK w g ks f) (hn : ks.length < maxLen)
    (k u : Int) (hx : a.eval x = .int .i64 k) (hv : a.eval v = .int .i64 u) (hk : (Lit.int .i64 k).wf = true) (hu : (Lit.int .i64 u).wf = true) (hkn : k ∉ ks)
    (hK : ∀ w', MapK w' g (ks ++ [k]) (fun j => if j = k then u else f j) → w.grownBy w' (some g) → wpList P ops Q rest (a.put o.dst undef) w') :
    wpList P ops Q (o :: rest) a w := by
  subst hP
  obtain ⟨D, h1, h2, h3, h4, h5⟩ := h.is
  have hkl : WideAt.IsKeyLit (.int .i64 k) := by first | trivial | exact ⟨_, _, rfl⟩ | constructor
  refine wpList_mapUpdate_own w hg m x v _ hop _ _ keyed_i64 Tryd.underlying31 _ g ks.length D hm h1 hn _ _ _ hx hv (keyOf_int_mk Tryd.underlying3 hk) _ [] (plainElem_int Tryd.underlying3 hu) ?_
  intro w' hown hgr
  refine hK w' ⟨_, by simpa using hown, h2.put hkl _, ?_, fun j hj => ?_, fun j => ?_⟩ hgr
  · rw [size_put h2]
    have : has D (.int .i64 k) = false := by
      rcases e : has D (.int .i64 k) with _ | _
      · rfl
      · exact absurd ((h5 k).1 e) hkn
    rw [this]
    simp [h3]
  · by_cases e : j = k
    · subst e
      rw [if_pos rfl, atKey_put_same h2.isMap hkl]
    · rw [if_neg e, atKey_put_other (by intro h; injection h with _ h; exact e h)]
      exact h4 j hj
  · by_cases e : j = k
    · subst e
      rw [has_put_same h2.isMap hkl]
      simp
    · rw [has_put_other (by intro h; injection h with _ h; exact e h), h5 j]
      simp [e]
end Go.Proofs.YtpimcghmpbbckaaDoor


namespace Go.Proofs.YtpimcghmpbbckaaDoor
set_option linter.unusedVariables false
set_option linter.unusedSimpArgs false
set_option maxRecDepth 100000
open Go.RowKit Go.Maps

theorem wf_i64' {a : Int} (h : -9223372036854775808 ≤ a ∧ a ≤ 9223372036854775807) : (Lit.int .i64 a).wf = true := WalkArith.wf_i64 (by omega)
def zs (l : List Nat) : List Int := l.map fun (x : Nat) => (x : Int)
theorem zs_mem {l : List Nat} {n : Nat} : (n : Int) ∈ zs l ↔ n ∈ l := by
  unfold zs
  rw [List.mem_map]
  constructor
  · rintro ⟨a, ha, e⟩
    obtain rfl : a = n := by omega
    exact ha
  · exact fun h => ⟨n, h, rfl⟩
theorem zs_snoc (l : List Nat) (n : Nat) : zs (l ++ [n]) = zs l ++ [(n : Int)] := by simp [zs]
theorem zs_length (l : List Nat) : (zs l).length = l.length := by simp [zs]

set_option maxHeartbeats 4000000 in
theorem greedyAll_yes (N : Nat) (es : List Gr.Ed) (W : Nat) (w : World) (A : Option Addr) (c : Nat) (hN : N ≤ 200) (hes : ∀ e ∈ es, e.1 < N ∧ e.2 < N) (hful : (Gr.take N es).length = N) (hW1 : 1 ≤ W) (hW2 : W ≤ 16) (hA : SlV w 2 (.slice A es.length c) es.length (edcs es)) (hle : es.length ≤ 1099511627776) (hT : Tab w)
    (hrd : ∀ w', Below w.heap.size w w' → Calls Tryd.prog 13 #[.agg #[.int .i64 (N : Int), .slice A es.length c], .int .i64 (W : Int)] w' fun e w'' => ∃ u os, e = .returned (.tuple #[u, .int .i64 0]) ∧ w''.ownsRow w'.heap.size 32 1 u os.length os ∧ Gy.Rs w'' os (Gr.all N es W) ∧ Below w'.heap.size w' w'') :
    Calls Tryd.prog 3 #[.agg #[.int .i64 (N : Int), .slice A es.length c], .int .i64 (W : Int)] w fun e w' => e = .returned (.bool true) ∧ Below w.heap.size w w' := by
  have HES := Lib.hid hes
  have hba : Below w.heap.size w (w.alloc (.cells #[.int .i64 (N : Int), .slice A es.length c] 24)) := below_alloc (Below.refl _ _) _
  have x0 := Blk.new w 24 [.int .i64 (N : Int), .slice A es.length c]
  have HT := Lib.hid hT
  have hmm := @run_makeMap Tryd.prog
  clear hT hes
  go_enter Tryd.func3, Tryd.ntmps3
  go_upto_region 1 with (fail)
  generalize (w.alloc (.cells #[.int .i64 (N : Int), .slice A es.length c] 24)) = W0 at x0 hba ⊢
  go_wp2_with fail
  refine (alive6_any W0 (HT.out.later HT.out.lt hba)).mono ?_
  rintro _ w1 ⟨rfl, hb1⟩
  have x1 := x0.below hb1
  have c0 : w1.cell? ⟨w.heap.size, 0, none⟩ = some (.int .i64 (N : Int)) := (x1.cell 0).trans rfl
  have c1 : w1.cell? ⟨w.heap.size, 1, none⟩ = some (.slice A es.length c) := (x1.cell 1).trans rfl
  have hb01 := below_next hb1 hba
  have hrd1 := hrd w1 hb01
  clear x0 hba hb1 hrd
  go_wp2_with fail
  refine hrd1.mono ?_
  rintro _ w2 ⟨u, os, rfl, hrow, hR, hb2⟩
  have x2 := x1.below hb2
  have hb02 := below_next hb2 hb01
  obtain ⟨ls, hls⟩ : ∃ ls, ls = Gr.all N es W := ⟨_, rfl⟩
  rw [← hls] at hR
  obtain ⟨Au, cu, rfl, hcu, hmu⟩ := own_slice hrow
  unfold maxLen at hmu
  have hol : os.length ≤ 200 := by rw [hR.1, hls]; exact Nat.le_trans (Gr.all_short N es W) hN
  have HR := Lib.hid (And.intro hR (And.intro hls (And.intro hrow hful)))
  have hnd : ls.flatten.Nodup := by rw [hls]; exact Gr.all_nodup N es W
  have HND := Lib.hid hnd
  have HB2 := Lib.hid hb02
  clear hrd1 x1 c0 c1 hb01 hb2 hR hls hrow hful hnd hb02
  go_wp2_with fail
  have hM0 := MapK.made w2
  have hb20 : Below w2.heap.size w2 (w2.alloc (.map #[] 0)) := below_alloc (Below.refl _ _) _
  clear hmm
  go_loopw [43] (fun i wr => ∃ k : Nat, k ≤ os.length ∧ i = .int .i64 (k : Int) ∧ MapK wr w2.heap.size (zs (ls.take k).flatten) (Gr.at_ ls (ls.take k).flatten) ∧ Below w2.heap.size w2 wr) (fun i _ => os.length - (intOf i).toNat)
  case atStart => exact ⟨0, Nat.zero_le _, rfl, by rw [List.take_zero, List.flatten_nil, Gr.at_nil]; exact hM0, hb20⟩
  case round =>
    clear hM0 hb20
    obtain ⟨k, hk, rfl, hM, hb⟩ := hrel
    by_cases hlt : k < os.length
    · obtain ⟨v, hv⟩ : ∃ v, os[k]? = some v := ⟨_, List.getElem?_eq_getElem hlt⟩
      obtain ⟨a, ha⟩ : ∃ a, ls[k]? = some a := ⟨_, List.getElem?_eq_getElem (by rw [← HR.out.1.1]; exact hlt)⟩
      have hsl : SlN w2 v a := HR.out.1.2 (v, a) (List.mem_of_getElem? (List.getElem?_zip_eq_some.2 ⟨hv, ha⟩))
      obtain ⟨haW, hane, haN⟩ := Gr.all_at (by rw [← HR.out.2.1]; exact ha)
      obtain ⟨Av, cv, rfl, hcv, hmv⟩ := hsl.form
      unfold maxLen at hmv
      obtain ⟨b, o, hAu, hbl, hcc⟩ := (Cells.of_own HR.out.2.2.1).at_ (fun e => by rw [e] at hlt; simp at hlt)
      subst hAu
      have cv := (hb.cell (p := ⟨b, o + k, none⟩) hbl).trans (hcc k _ hv)
      have ha0 : 0 < a.length := List.length_pos_iff.2 hane
      have k1 : decide (W < a.length) = false := decide_eq_false (by omega)
      have k2 : ((a.length : Int) == 0) = false := by simp; omega
      have HA := Lib.hid (And.intro ha (And.intro hsl haN))
      have HM := Lib.hid (And.intro hM hb)
      clear hv ha hsl hane haN hcc hM hb
      go_wp2_with fail
      clear k1 k2
      go_loopw [59] (fun i wr => ∃ j : Nat, j ≤ a.length ∧ i = .int .i64 (j : Int) ∧ MapK wr w2.heap.size (zs ((ls.take k).flatten ++ a.take j)) (Gr.at_ ls ((ls.take k).flatten ++ a.take j)) ∧ Below w2.heap.size w2 wr) (fun i _ => a.length - (intOf i).toNat)
      case atStart => exact ⟨0, Nat.zero_le _, rfl, by rw [List.take_zero, List.append_nil]; exact HM.out.1, HM.out.2⟩
      case round =>
        clear HM
        obtain ⟨j, hj, rfl, hM, hb⟩ := hrel
        by_cases hjl : j < a.length
        · obtain ⟨n, hn⟩ : ∃ n, a[j]? = some n := ⟨_, List.getElem?_eq_getElem hjl⟩
          obtain ⟨gb, go, hAv, hgl, c1⟩ := ((HA.out.2.1.below hb)).get hn
          subst hAv
          have hnN : n < N := HA.out.2.2 n (List.mem_of_getElem? hn)
          have hfr : n ∉ (ls.take k).flatten ++ a.take j := by
            have h1 : (ls.take (k + 1)).flatten.Nodup := by
              have := HND.out
              rw [← List.take_append_drop (k + 1) ls, List.flatten_append] at this
              exact (List.nodup_append.1 this).1
            rw [Gr.take_snoc HA.out.1, List.flatten_append, List.flatten_singleton] at h1
            have h2 : ((ls.take k).flatten ++ a.take (j + 1)).Nodup := h1.sublist (List.Sublist.append_left (List.take_sublist _ _) _)
            rw [Gr.take_snoc hn, ← List.append_assoc] at h2
            exact fun h => (List.nodup_append.1 h2).2.2 n h n (by simp) rfl
          have hwf : (Lit.int .i64 (n : Int)).wf = true := wf_i64' (by omega)
          have hlook := hM.look hwf
          rw [Gr.at_out hfr] at hlook
          have x3 := x2.below hb
          have d0 : wr.cell? ⟨w.heap.size, 0, none⟩ = some (.int .i64 (N : Int)) := (x3.cell 0).trans rfl
          have hkn : (n : Int) ∉ zs ((ls.take k).flatten ++ a.take j) := fun h => hfr (zs_mem.1 h)
          have hn63 : (zs ((ls.take k).flatten ++ a.take j)).length < maxLen := by
            rw [zs_length]
            have h1 := (Gr.all_good N es W (k + 1)).length
            rw [← HR.out.2.1, Gr.take_snoc HA.out.1, List.flatten_append, List.flatten_singleton, List.length_append] at h1
            rw [List.length_append, List.length_take]
            unfold maxLen
            omega
          have hsn := Gr.at_snoc (D := (ls.take k).flatten ++ a.take j) HND.out HA.out.1 (List.mem_of_getElem? hn)
          rw [List.append_assoc, ← Gr.take_snoc hn] at hsn
          have hzn := zs_snoc ((ls.take k).flatten ++ a.take j) n
          rw [List.append_assoc, ← Gr.take_snoc hn] at hzn
          have HF := Lib.hid (And.intro hb (And.intro hsn hzn))
          clear hn hfr x3 hsn hzn hb
          go_wp2_with (first | (at_mapUpdate; refine wp_mapnew rfl _ rfl _ _ _ rfl w2.heap.size _ _ rfl hM hn63 _ _ rfl rfl hwf (by first | exact wf_i64' (by omega) | exact wrap64_wf _) hkn ?_; intro w4 hM4 hg4) | fail)
          rw [HF.out.2.1, ← HF.out.2.2] at hM4
          have hb4 := HF.out.1.trans (below_of_grown hg4 HF.out.1.size (Nat.le_refl _))
          have HG := Lib.hid (And.intro hM4 hb4)
          clear hM4 hg4 hb4 hM hlook hkn
          go_roundw
          case rel => exact ⟨j + 1, by omega, by go_num, HG.out.1, HG.out.2⟩
          case measure => simp [intOf]; omega
        · obtain rfl : j = a.length := by omega
          rw [List.take_length] at hM
          have e1 : (ls.take k).flatten ++ a = (ls.take (k + 1)).flatten := by rw [Gr.take_snoc HA.out.1, List.flatten_append, List.flatten_singleton]
          rw [e1] at hM
          have HF := Lib.hid (And.intro hM hb)
          clear hM hb e1
          go_wp2_with fail
          go_roundw
          case rel => exact ⟨k + 1, by omega, by go_num, HF.out.1, HF.out.2⟩
          case measure => simp [intOf]; omega
    · obtain rfl : k = os.length := by omega
      rw [HR.out.1.1, List.take_length] at hM
      have x3 := x2.below hb
      have d1 : wr.cell? ⟨w.heap.size, 1, none⟩ = some (.slice A es.length c) := (x3.cell 1).trans rfl
      have HM := Lib.hid (And.intro hM hb)
      clear hM hb x3
      go_wp2_with fail
      clear d1
      obtain ⟨wz, rfl⟩ : ∃ wz : World, wz = wr := ⟨_, rfl⟩
      go_loopw [86] (fun i wr => ∃ j : Nat, j ≤ es.length ∧ i = .int .i64 (j : Int) ∧ Below wz.heap.size wz wr) (fun i _ => es.length - (intOf i).toNat)
      case atStart => exact ⟨0, Nat.zero_le _, rfl, Below.refl _ _⟩
      case round =>
        obtain ⟨j, hj, rfl, hb⟩ := hrel
        have hbw := below_next (below_next hb (below_next HM.out.2 (Below.refl _ _))) HB2.out
        by_cases hlt2 : j < es.length
        · obtain ⟨⟨a, b⟩, hx⟩ : ∃ x, es[j]? = some x := ⟨_, List.getElem?_eq_getElem hlt2⟩
          obtain ⟨haN, hbN⟩ := HES.out _ (List.mem_of_getElem? hx)
          have gx := flat_get edc 2 (fun _ => rfl) es j
          have g1 := gx 0 _ hx (by omega)
          have g2 := gx 1 _ hx (by omega)
          obtain ⟨A', c', he, -, -, -, hcc⟩ := hA.below hbw
          injection he with e1 e2 e3
          subst e1 e3
          obtain ⟨g, o, rfl, hgl, hcell⟩ := hcc.at_ (fun e => by rw [show List.flatMap edc es = edcs es from rfl, e] at g1; simp [edc] at g1)
          have d0 : wr.cell? ⟨g, o + j * 2, none⟩ = some (.int .i64 (a : Int)) := (hcell _ _ g1).trans rfl
          have d1 : wr.cell? ⟨g, o + j * 2 + 1, none⟩ = some (.int .i64 (b : Int)) := by rw [Nat.add_assoc]; exact hcell _ _ g2
          have hM5 := (HM.out.1.next hb).next (below_alloc (Below.refl _ _) (.cells #[.int .i64 (a : Int), .int .i64 (b : Int)] 34))
          have hE := Blk.new wr 34 [.int .i64 (a : Int), .int .i64 (b : Int)]
          have hb5 := below_alloc hb (.cells #[.int .i64 (a : Int), .int .i64 (b : Int)] 34)
          have hfl := Gr.all_full (es := es) (w := W) (by omega) HR.out.2.2.2
          have hain := hfl.1 a haN
          have hbin := hfl.1 b hbN
          have hord := Gr.rnd_order (w := W) (by omega) HR.out.2.2.2 (List.mem_of_getElem? hx) hbN
          rw [← HR.out.2.1] at hain hbin hord
          have hla := hM5.look (wf_i64' (a := (a : Int)) (by omega))
          have hlb := hM5.look (wf_i64' (a := (b : Int)) (by omega))
          rw [Gr.at_in hain] at hla
          rw [Gr.at_in hbin] at hlb
          obtain ⟨pa, hpa⟩ : ∃ p, p = Gr.rnd ls a + 1 := ⟨_, rfl⟩
          obtain ⟨pb, hpb⟩ : ∃ p, p = Gr.rnd ls b + 1 := ⟨_, rfl⟩
          rw [← hpa] at hla
          rw [← hpb] at hlb
          have hpab : pa < pb := by rw [hpa, hpb]; exact Nat.succ_lt_succ hord
          have HH := Lib.hid hb5
          clear hx gx g1 g2 hcc hcell e2 hM5 hb5 hfl hain hbin hord hpa hpb hbw
          go_upto_region 23 with (fail)
          generalize (wr.alloc (.cells #[.int .i64 (a : Int), .int .i64 (b : Int)] 34)) = W5 at hE hla hlb HH ⊢
          have b0 : W5.cell? ⟨wr.heap.size, 0, none⟩ = some (.int .i64 (a : Int)) := (hE.cell 0).trans rfl
          have b1 : W5.cell? ⟨wr.heap.size, 1, none⟩ = some (.int .i64 (b : Int)) := (hE.cell 1).trans rfl
          clear d0 d1 hE hb
          go_wp2_with fail
          go_roundw
          case rel => exact ⟨j + 1, by omega, by go_num, HH.out⟩
          case measure => simp [intOf]; omega
        · have hM6 := HM.out.1.next hb
          have hlen := fun ty => hM6.len ty
          have hz : (zs ls.flatten).length = N := by rw [zs_length, HR.out.2.1]; exact (Gr.all_full (es := es) (by omega) HR.out.2.2.2).2
          rw [hz] at hlen
          have x3 := x2.below (below_next hb HM.out.2)
          have d0 : wr.cell? ⟨w.heap.size, 0, none⟩ = some (.int .i64 (N : Int)) := (x3.cell 0).trans rfl
          have HF := Lib.hid hbw
          clear hM6 hz x3 hbw hb hA x2
          go_wp2_with fail
          go_ret
          exact ⟨rfl, HF.out⟩
end Go.Proofs.YtpimcghmpbbckaaDoor


namespace Go.Proofs.YtpimcghmpbbckaaDoor
set_option linter.unusedVariables false
set_option linter.unusedSimpArgs false
set_option maxRecDepth 100000
open Go.ChangeShapes Go.WideShapes Go.ChangeAt Go.RowKit

theorem own : ownKnob Tryd.prog.godebug = none := by kernel_rfl
theorem laidOut : laidOutB Tryd.prog = true := by kernel_rfl

/-- the form's own reach, of a slice that was opened -/
theorem reach_rows {H : Type} {ts : List TypeId} {ds : List (DataW H)} {n by_ : Nat} {d : DataW H} {t e : TypeId} (hsz : (DataW.weightsEach Tryd.prog ts ds).all (· ≤ reachBytes) = true) {j : Nat} (ht : ts[j]? = some t) (hd : ds[j]? = some d)
    (hu : Tryd.prog.underlying t = some (.slice e)) (hb : Tryd.prog.bytesOf e = by_) (h : (d = .nil ∧ n = 0) ∨ ∃ (el sp : List (DataW H)), d = .slice el sp ∧ el.length = n) : n * by_ ≤ 140737488351232 := by
  rcases h with ⟨_, rfl⟩ | ⟨el, sp, rfl, rfl⟩
  · simp
  · have := sized_slice hsz ht hd hu
    rw [hb] at this
    have h2 : el.length * by_ ≤ (el.length + sp.length) * by_ := Nat.mul_le_mul_right _ (by omega)
    simp only [reachBytes] at this
    omega
end Go.Proofs.YtpimcghmpbbckaaDoor


namespace Go.Proofs.YtpimcghmpbbckaaDoor
set_option linter.unusedVariables false
set_option linter.unusedSimpArgs false
set_option maxRecDepth 100000
open Go.ChangeShapes Go.WideShapes Go.ChangeAt Go.RowKit
set_option linter.unusedVariables false

theorem gTab : Tryd.prog.globalNamed "math/bits.deBruijn64tab" = some 0 := by kernel_rfl
theorem gTabType : (Tryd.prog.globals[0]?).map (·.type) = some 129 := by kernel_rfl
theorem cellsTab : Tryd.prog.cellsOf 129 = 64 := by kernel_rfl
theorem cellsByte : Tryd.prog.cellsOf 5 = 1 := by kernel_rfl
def tabInts : List Int := Lib.deBruijn64tab.map fun (x : Nat) => (x : Int)
theorem tab_is {W : World} (h : Lib.TabIs Tryd.prog W "math/bits.deBruijn64tab" .u8 tabInts) : Tab W := fun j hj => by
  have := h.cell gTab j (by unfold tabInts; rw [List.length_map]; exact hj)
  rw [this]
  unfold tabInts
  simp [List.getD, hj]
noncomputable def laidWorld (os : Os) : World :=
  { World.holding Tryd.prog os ⟨#[], #[], []⟩ with heap := (World.holding Tryd.prog os ⟨#[], #[], []⟩).heap.modify 0 fun
      | .cells _ t frozen => .cells (tabInts.map fun z => Value.int .u8 z).toArray t frozen
      | o => o }

end Go.Proofs.YtpimcghmpbbckaaDoor


namespace Go.Proofs.YtpimcghmpbbckaaDoor
set_option linter.unusedVariables false
set_option linter.unusedSimpArgs false
set_option maxRecDepth 100000
open Go.ChangeShapes Go.WideShapes Go.ChangeAt Go.RowKit Go.Deep

section
variable {H : Type} {enc : TypeId × Value → H} {P : Program} {w : World}

theorem open_items {α : Type} (f : α → List Value) (n : Nat) (hf : ∀ a, (f a).length = n) (hn0 : 0 < n) (good : α → Prop) {t e : TypeId} {v : Value} {d : DataW H} {ps : List MemPlace} (ht : P.underlying t = some (.slice e)) (hC : P.cellsOf e = n)
    (each : ∀ (fuel : Nat) (cs : List Value) (x : DataW H × List MemPlace), DataW.trod enc P w 0 (fun _ => true) true fuel e cs = some x → ∃ a, cs = f a ∧ good a)
    (hv : ∃ a len cap, v = .slice a len cap) (h : DataW.Trod enc P w 0 (fun _ => true) true t v d ps) (hlt : ∀ x ∈ ps, x.block < w.heap.size) :
    ∃ l : List α, (∀ a ∈ l, good a) ∧ SlV w n v l.length (l.flatMap f) ∧ ((d = .nil ∧ l = []) ∨ ∃ (el sp : List (DataW H)), d = .slice el sp ∧ el.length = l.length) := by
  obtain ⟨a0, len, cap, rfl⟩ := hv
  obtain ⟨fuel, hfu⟩ := h
  rcases open_slice ht hfu with ⟨hcs, hx⟩ | ⟨a, len', cap', m, k, D, Pl, hcs, _, hl, hm, hmm, hx, hi⟩
  · simp [Value.cells] at hcs
    obtain ⟨rfl, rfl, rfl⟩ := hcs
    simp only [Prod.mk.injEq] at hx
    exact ⟨[], by simp, SlV.nil _ _, .inl ⟨hx.1, rfl⟩⟩
  · simp [Value.cells] at hcs
    obtain ⟨rfl, rfl, rfl⟩ := hcs
    simp only [Prod.mk.injEq] at hx
    simp only [if_true] at hmm
    rw [hC] at hi hx
    have each' : ∀ i, i < len → ∃ r : α, good r ∧ w.cells? 0 (a.add (i * n)) n = some (f r) := by
      intro i hil
      obtain ⟨cs', hc, htr⟩ := hi i (by omega)
      obtain ⟨r, hcr, hr⟩ := each _ _ _ htr
      exact ⟨r, hr, by rw [hc, hcr]⟩
    by_cases h0 : len = 0
    · subst h0
      exact ⟨[], by simp, ⟨some a, cap, by simp, hl, hm, by simp, Cells.nil _ _ _⟩, .inr ⟨_, _, hx.1, by simp⟩⟩
    obtain ⟨r0, -, -⟩ := each' 0 (by omega)
    haveI : Inhabited α := ⟨r0⟩
    obtain ⟨g, hgg⟩ := choose_lt each'
    have hgood : ∀ r ∈ (List.range len).map g, good r := by
      intro r hr
      obtain ⟨i, hi', rfl⟩ := List.mem_map.1 hr
      exact (hgg i (by simpa using hi')).1
    have hflat : (((List.range len).map g).flatMap f).length = len * n := by rw [flat_length f n hf]; simp
    refine ⟨(List.range len).map g, hgood, ⟨some a, cap, by simp, by simpa using hl, hm, by simpa using hflat, ?_⟩, .inr ⟨_, _, hx.1, by simp⟩⟩
    obtain ⟨b, off, spot⟩ := a
    have hcell : ∀ i, i < len → ∀ j u, (f (g i))[j]? = some u → w.cell? ((⟨b, off, spot⟩ : Addr).add (i * n + j)) = some u := by
      intro i hil j u hu
      have hj : j < n := by
        have := (List.getElem?_eq_some_iff.1 hu).1
        rwa [hf] at this
      obtain ⟨_, _, hat⟩ := World.cells?_some (hgg i hil).2
      have := hat j hj
      rw [Go.Deep.add_add] at this
      rw [this, hu]
    have hspot : spot = none := by
      have hex : ∃ u, (f (g 0))[0]? = some u := ⟨_, List.getElem?_eq_getElem (by rw [hf]; exact hn0)⟩
      obtain ⟨u, hu⟩ := hex
      have := hcell 0 (by omega) 0 u hu
      simpa [Addr.add] using World.cell?_spot this
    subst hspot
    refine ⟨b, off, fun _ => ⟨rfl, hlt (.cell b off) (by
      rw [hx.2]
      refine List.mem_append_left _ (MemPlace.mem_row.2 ⟨0, ?_, by simp⟩)
      exact Nat.mul_pos (by omega) hn0)⟩, fun j u hu => ?_⟩
    have hjl : j < len * n := by
      have := (List.getElem?_eq_some_iff.1 hu).1
      omega
    have hq : j / n < len := Nat.div_lt_of_lt_mul (by rw [Nat.mul_comm]; exact hjl)
    have hr : j % n < n := Nat.mod_lt _ hn0
    have hj : j = j / n * n + j % n := by have := Nat.div_add_mod j n; rw [Nat.mul_comm] at this; omega
    have hget : ((List.range len).map g)[j / n]? = some (g (j / n)) := by simp [hq]
    rw [hj] at hu ⊢
    rw [flat_get f n hf _ _ _ _ hget hr] at hu
    have := hcell (j / n) hq (j % n) u hu
    rw [Addr.add_lit] at this
    exact this
end
end Go.Proofs.YtpimcghmpbbckaaDoor


namespace Go.Proofs.YtpimcghmpbbckaaDoor
set_option linter.unusedVariables false
set_option linter.unusedSimpArgs false
set_option maxRecDepth 100000
open Go.ChangeShapes Go.WideShapes Go.ChangeAt Go.RowKit Go.Deep

def grFields (P : Program) (t : TypeId) : Array Field := match P.underlying t with | some (.struct fs) => fs | _ => #[]
theorem open_edge {H : Type} {enc : TypeId × Value → H} {w : World} (fuel : Nat) (cs : List Value) (x : DataW H × List MemPlace) (h : DataW.trod enc Tryd.prog w 0 (fun _ => true) true fuel 34 cs = some x) : ∃ z : Gr.Er, cs = erc z ∧ True := by
  have hT : Tryd.prog.underlying 34 = some (.struct (grFields Tryd.prog 34)) := by kernel_rfl
  obtain ⟨r, h1, h2, -⟩ := struct_ints (n := 2) hT (by kernel_rfl) (by kernel_rfl) (by kernel_rfl) h
  match r, h1 with
  | [a, b], _ => exact ⟨(a, b), h2, trivial⟩

theorem Gr.bulk_pos {H : Type} (d : DataW H) : 1 ≤ Rows.uptoBulk d := by
  cases d with
  | lit x => cases x <;> simp [Rows.uptoBulk]
  | _ => simp [Rows.uptoBulk]
theorem Gr.bulk_len {H : Type} : ∀ l : List (DataW H), l.length ≤ Rows.uptoBulkAll l
  | [] => by simp
  | x :: l => by
    rw [Rows.uptoBulkAll, List.length_cons]
    have := Gr.bulk_pos x
    have := Gr.bulk_len l
    omega
theorem Gr.bulk_rows {H : Type} {d : DataW H} {n : Nat} (h : (d = .nil ∧ n = 0) ∨ ∃ (el sp : List (DataW H)), d = .slice el sp ∧ el.length = n) : n ≤ Rows.uptoBulk d := by
  rcases h with ⟨_, rfl⟩ | ⟨e, sp, rfl, he⟩
  · exact Nat.zero_le _
  · have := Gr.bulk_len e
    rw [Rows.uptoBulk]
    omega

theorem open_arg_graph {H : Type} {enc : TypeId × Value → H} {W : World} {base : Nat} {v : Value} {d : DataW H} {p : List MemPlace} (hv : Value.okWide Tryd.prog W .any base 24 v) (h : DataW.Trod enc Tryd.prog W 0 (fun _ => true) true 24 v d p) (hlt : ∀ x ∈ p, x.block < W.heap.size) :
    ∃ (n : Int) (es : List Gr.Er) (A : Option Addr) (c : Nat), v = .agg #[.int .i64 n, .slice A es.length c] ∧ SlV W 2 (.slice A es.length c) es.length (ercs es) ∧ es.length ≤ Rows.uptoBulk d := by
  have hT : Tryd.prog.underlying 24 = some (.struct (grFields Tryd.prog 24)) := by kernel_rfl
  obtain ⟨cs, rfl, hcs⟩ := okWide_struct hT hv
  obtain ⟨fuel, hf⟩ := h
  have hf : DataW.trod enc Tryd.prog W 0 (fun _ => true) true fuel 24 cs.toList = some (d, p) := by simpa [Value.cells] using hf
  obtain ⟨xs, m, hfu, hx, hl, hxl, hfs⟩ := DataW.trod_struct hT hf
  have q0 : (grFields Tryd.prog 24)[0]?.map (fun f => (f.type, f.offset)) = some (3, 0) := by kernel_rfl
  have q1 : (grFields Tryd.prog 24)[1]?.map (fun f => (f.type, f.offset)) = some (22, 1) := by kernel_rfl
  have hsz : (grFields Tryd.prog 24).size = 2 := by kernel_rfl
  obtain ⟨f0, g0, p0⟩ := Option.map_eq_some_iff.1 q0
  obtain ⟨f1, g1, p1⟩ := Option.map_eq_some_iff.1 q1
  injection p0 with p0 p0'
  injection p1 with p1 p1'
  have h0 := hfs 0 f0 g0
  have h1 := hfs 1 f1 g1
  have c0 : Tryd.prog.cellsOf 3 = 1 := by kernel_rfl
  have c1 : Tryd.prog.cellsOf 22 = 1 := by kernel_rfl
  have cT : Tryd.prog.cellsOf 24 = 2 := by kernel_rfl
  rw [p0, p0', c0] at h0
  rw [p1, p1', c1] at h1
  rw [cT] at hl
  rw [hsz] at hxl
  obtain ⟨l, hll⟩ : ∃ l, l = cs.toList := ⟨_, rfl⟩
  rw [← hll] at h0 h1 hl
  have hcl : cs = l.toArray := by rw [hll]
  subst hcl
  clear hll hcs hf
  match xs, hxl, l, hl with
  | [x0, x1], _, [v0, v1], _ =>
    simp only [List.drop_succ_cons, List.drop_zero, List.take_succ_cons, List.take_zero, List.getElem?_cons_zero, List.getElem?_cons_succ] at h0 h1
    obtain ⟨n, hn, -, -⟩ := DataW.trod_int Tryd.underlying3 h0
    simp only [List.cons.injEq, and_true] at hn
    subst hn
    have hbk := congrArg Prod.fst hx
    have hpl := congrArg Prod.snd hx
    simp only [List.map_cons, List.map_nil, List.flatMap_cons, List.flatMap_nil, List.append_nil] at hbk hpl
    have hv1 : ∃ a len cap, v1 = .slice a len cap := by
      rcases open_slice Tryd.underlying22 h1 with ⟨hcs, -⟩ | ⟨a, len', cap', m', k, D, Pl, hcs, -⟩
      · simp at hcs; exact ⟨_, _, _, hcs⟩
      · simp at hcs; exact ⟨_, _, _, hcs⟩
    obtain ⟨A, len, cap, rfl⟩ := hv1
    obtain ⟨es, -, hes, hb⟩ := open_items erc 2 (fun _ => rfl) (by decide) (fun _ => True) (v := .slice A len cap) (d := x1.1) (ps := x1.2) Tryd.underlying22 (by kernel_rfl) open_edge ⟨A, len, cap, rfl⟩ ⟨m, by simpa [Value.cells] using h1⟩ (fun x hx' => hlt x (by rw [hpl]; exact List.mem_append_right _ hx'))
    have hlen : len = es.length := by
      obtain ⟨A', c', e, -⟩ := hes
      injection e
    subst hlen
    refine ⟨n, es, A, cap, rfl, hes, ?_⟩
    have hr := Gr.bulk_rows (d := x1.1) (n := es.length) (hb.imp (fun h => ⟨h.1, by rw [h.2]; rfl⟩) id)
    rw [hbk, Rows.uptoBulk, Rows.uptoBulkAll, Rows.uptoBulkAll]
    omega
end Go.Proofs.YtpimcghmpbbckaaDoor
