/-
  order.Levels, walked.
-/
import Derived.Test.YtfjmhmfkhgjnhaaDoorOrP2
import Derived.Test.YtfjmhmfkhgjnhaaDoorOrP3
import Derived.Lib.Hide

namespace Go.Proofs.YtfjmhmfkhgjnhaaDoor.Gr
set_option linter.unusedVariables false
set_option linter.unusedSimpArgs false
set_option maxRecDepth 100000

/-- who is done in the next round: the least ones that wait no longer, as many as there are workers -/
def now (N : Nat) (es : List Ed) (w : Nat) (D : List Nat) : List Nat := ((List.range N).filter (rdy es D)).take w
def rounds (N : Nat) (es : List Ed) (w : Nat) : Nat → List Nat → List (List Nat)
  | 0, _ => []
  | f + 1, D => if now N es w D = [] then [] else now N es w D :: rounds N es w f (D ++ now N es w D)

theorem now_mem {N : Nat} {es : List Ed} {w : Nat} {D : List Nat} {m : Nat} (h : m ∈ now N es w D) : m < N ∧ rdy es D m = true := by
  have := List.mem_of_mem_take h
  rw [List.mem_filter, List.mem_range] at this
  exact this
theorem now_nodup (N : Nat) (es : List Ed) (w : Nat) (D : List Nat) : (now N es w D).Nodup := (List.nodup_range.filter _).sublist (List.take_sublist _ _)
theorem now_length (N : Nat) (es : List Ed) (w : Nat) (D : List Nat) : (now N es w D).length ≤ w := by unfold now; rw [List.length_take]; omega
/-- one more, that waits no longer -/
theorem Good.add {N : Nat} {es : List Ed} {D : List Nat} {n : Nat} (h : Good N es D) (h1 : n < N) (h2 : n ∉ D) (h3 : ∀ e ∈ es, e.2 = n → e.1 ∈ D) : Good N es (D ++ [n]) := by
  refine ⟨List.nodup_append.2 ⟨h.nd, by simp, fun a ha b hb e => h2 (by rw [← List.mem_singleton.1 hb, ← e]; exact ha)⟩, fun m hm => ?_, fun i m hi e he em => ?_⟩
  · rcases List.mem_append.1 hm with hm | hm
    · exact h.lt m hm
    · rw [List.mem_singleton.1 hm]; exact h1
  · by_cases hil : i < D.length
    · rw [List.getElem?_append_left hil] at hi
      rw [List.take_append_of_le_length (by omega)]
      exact h.topo i m hi e he em
    · have hil' : i = D.length := by
        obtain ⟨h6, -⟩ := List.getElem?_eq_some_iff.1 hi
        simp at h6
        omega
      subst hil'
      rw [List.take_append_of_le_length (by omega), List.take_length]
      simp at hi
      subst hi
      exact h3 e he em
/-- some of a round are done -/
theorem Good.part {N : Nat} {es : List Ed} {w : Nat} {D : List Nat} (h : Good N es D) : ∀ i, i ≤ (now N es w D).length → Good N es (D ++ (now N es w D).take i)
  | 0, _ => by simpa using h
  | i + 1, hi => by
    have ih := h.part (w := w) i (by omega)
    have hn : (now N es w D)[i]? = some (now N es w D)[i] := List.getElem?_eq_getElem hi
    obtain ⟨h1, h2⟩ := now_mem (List.mem_of_getElem? hn)
    obtain ⟨h3, h4⟩ := rdy_iff.1 h2
    rw [take_snoc hn, ← List.append_assoc]
    refine ih.add h1 (fun hm => ?_) (fun e he em => List.mem_append_left _ (h4 e he em))
    rcases List.mem_append.1 hm with hm | hm
    · exact h3 hm
    · obtain ⟨j, hj⟩ := List.getElem?_of_mem hm
      rw [List.getElem?_take] at hj
      split at hj
      · have hnd := now_nodup N es w D
        have := (List.getElem?_inj (by omega) hnd).1 (hj.trans hn.symm)
        omega
      · cases hj
theorem Good.round {N : Nat} {es : List Ed} {w : Nat} {D : List Nat} (h : Good N es D) : Good N es (D ++ now N es w D) := by
  have := h.part (w := w) (now N es w D).length (Nat.le_refl _)
  rwa [List.take_length] at this
/-- none waits no longer: all are done, or those that are left wait for one another -/
theorem now_nil {N : Nat} {es : List Ed} {w : Nat} {D : List Nat} (hw : 0 < w) : now N es w D = [] ↔ nxt N es D = none := by
  unfold now nxt
  rw [List.find?_eq_none]
  constructor
  · intro h x hx hr
    have hm : x ∈ (List.range N).filter (rdy es D) := List.mem_filter.2 ⟨hx, hr⟩
    rcases e : (List.range N).filter (rdy es D) with _ | ⟨y, ys⟩
    · rw [e] at hm; cases hm
    · rw [e] at h
      obtain ⟨v, rfl⟩ : ∃ v, w = v + 1 := ⟨w - 1, by omega⟩
      simp at h
  · intro h
    rw [List.filter_eq_nil_iff.2 h]
    simp
/-- what has been told once more: it waits no longer, if that was the last -/
theorem rj_told {N : Nat} {es : List Ed} {out : List Nat} {n j m : Nat} (hg : Good N es out) (hes : ∀ e ∈ es, e.2 < N) (h2 : n ∉ out) (h3 : ∀ e ∈ es, e.2 = n → e.1 ∈ out) (hj : (next es n)[j]? = some m) (x : Nat) :
    rj N es out n (j + 1) x ↔ rj N es out n j x ∨ (x = m ∧ wt es out m = ((next es n).take j).count m + 1) := by
  have hmem : m ∈ next es n := List.mem_of_getElem? hj
  have hed := mem_next.1 hmem
  unfold rj
  rw [take_snoc hj, count_snoc]
  by_cases h : m = x
  · subst h
    rw [if_pos rfl]
    have hc : ((next es n).take (j + 1)).count m ≤ (next es n).count m := List.Sublist.count_le m (List.take_sublist _ _)
    rw [take_snoc hj, count_snoc, if_pos rfl] at hc
    have hw := count_le h2 es m
    have hmn : m ≠ n := fun e => h2 (h3 _ hed e)
    have hmo : m ∉ out := fun e => by
      obtain ⟨i, hi⟩ := List.getElem?_of_mem e
      exact h2 (List.mem_of_mem_take (hg.topo i m hi _ hed rfl))
    have hmN := hes _ hed
    constructor
    · rintro ⟨-, -, -, h⟩
      exact .inr ⟨rfl, h⟩
    · rintro (⟨-, -, -, h⟩ | ⟨-, h⟩)
      · omega
      · exact ⟨hmN, hmn, hmo, h⟩
  · rw [if_neg h, Nat.add_zero]
    constructor
    · exact fun h => .inl h
    · rintro (h' | ⟨e, -⟩)
      · exact h'
      · exact absurd e.symm h
end Go.Proofs.YtfjmhmfkhgjnhaaDoor.Gr


namespace Go.Proofs.YtfjmhmfkhgjnhaaDoor.Gr
set_option linter.unusedVariables false
set_option linter.unusedSimpArgs false
set_option maxRecDepth 100000

/-- where all can be taken one by one, nobody is left when none waits no longer -/
theorem all_out {N : Nat} {es : List Ed} {D : List Nat} (hT : (take N es).length = N) (h : nxt N es D = none) : ∀ m, m < N → m ∈ D := by
  have hG := good_take N es
  have key : ∀ (i m : Nat), (take N es)[i]? = some m → m ∈ D := by
    intro i
    induction i using Nat.strongRecOn with
    | ind i ih =>
      intro m hi
      refine Decidable.byContradiction fun hm => ?_
      have hr : rdy es D m = true := rdy_iff.2 ⟨hm, fun e he em => by
        obtain ⟨j, hj⟩ := List.getElem?_of_mem (hG.topo i m hi e he em)
        rw [List.getElem?_take] at hj
        split at hj
        · rename_i hji
          exact ih j hji _ hj
        · cases hj⟩
      have := nxt_none h m (hG.lt m (List.mem_of_getElem? hi))
      rw [hr] at this
      cases this
  intro m hm
  obtain ⟨i, hi⟩ := List.getElem?_of_mem (hG.full hT m hm)
  exact key i m hi
theorem rounds_at {N : Nat} {es : List Ed} {w : Nat} : ∀ (f : Nat) (D : List Nat) (k : Nat) (a : List Nat), (rounds N es w f D)[k]? = some a → a = now N es w (D ++ ((rounds N es w f D).take k).flatten) ∧ a ≠ []
  | 0, D, k, a, h => by rw [rounds] at h; cases k <;> simp at h
  | f + 1, D, k, a, h => by
    unfold rounds at h ⊢
    split at h
    · simp at h
    · rename_i hne
      rw [if_neg hne]
      rcases k with _ | k
      · simp only [List.getElem?_cons_zero, Option.some.injEq] at h
        subst h
        exact ⟨by simp, hne⟩
      · rw [List.getElem?_cons_succ] at h
        have := rounds_at f _ k a h
        rw [List.take_succ_cons, List.flatten_cons, ← List.append_assoc]
        exact this
theorem good_rounds {N : Nat} {es : List Ed} {w : Nat} : ∀ (f : Nat) (D : List Nat), Good N es D → ∀ k, Good N es (D ++ ((rounds N es w f D).take k).flatten)
  | 0, D, h, k => by simpa [rounds] using h
  | f + 1, D, h, k => by
    unfold rounds
    split
    · simpa using h
    · rcases k with _ | k
      · simpa using h
      · rw [List.take_succ_cons, List.flatten_cons, ← List.append_assoc]
        exact good_rounds f _ h.round k
theorem rounds_stop {N : Nat} {es : List Ed} {w : Nat} (hw : 0 < w) : ∀ (f : Nat) (D : List Nat), Good N es D → N ≤ f + D.length → nxt N es (D ++ (rounds N es w f D).flatten) = none
  | 0, D, h, hf => by
    rw [rounds]
    simp only [List.flatten_nil, List.append_nil]
    cases hn : nxt N es D with
    | none => rfl
    | some n =>
      have := (h.snoc hn).length
      simp at this
      omega
  | f + 1, D, h, hf => by
    unfold rounds
    split
    · rename_i h0
      simpa using (now_nil hw).1 h0
    · rename_i hne
      have hl : 0 < (now N es w D).length := List.length_pos_iff.2 hne
      rw [List.flatten_cons, ← List.append_assoc]
      exact rounds_stop hw f _ h.round (by rw [List.length_append]; omega)
/-- so many rounds more change nothing -/
theorem rounds_fuel {N : Nat} {es : List Ed} {w : Nat} (hw : 0 < w) : ∀ (f : Nat) (D : List Nat), Good N es D → N ≤ f + D.length → rounds N es w (f + 1) D = rounds N es w f D
  | 0, D, h, hf => by
    have h0 : now N es w D = [] := (now_nil hw).2 (by
      have := rounds_stop hw 0 D h hf
      simpa [rounds] using this)
    unfold rounds
    rw [if_pos h0]
  | f + 1, D, h, hf => by
    have e1 : rounds N es w (f + 1 + 1) D = if now N es w D = [] then [] else now N es w D :: rounds N es w (f + 1) (D ++ now N es w D) := by rw [rounds]
    have e2 : rounds N es w (f + 1) D = if now N es w D = [] then [] else now N es w D :: rounds N es w f (D ++ now N es w D) := by rw [rounds]
    rw [e1, e2]
    by_cases h0 : now N es w D = []
    · rw [if_pos h0, if_pos h0]
    · have hl : 0 < (now N es w D).length := List.length_pos_iff.2 h0
      rw [if_neg h0, if_neg h0, rounds_fuel hw f _ h.round (by rw [List.length_append]; omega)]

/-- the rounds of a graph -/
def all (N : Nat) (es : List Ed) (w : Nat) : List (List Nat) := rounds N es w N []
theorem all_full {N : Nat} {es : List Ed} {w : Nat} (hw : 0 < w) (hT : (take N es).length = N) : (∀ m, m < N → m ∈ (all N es w).flatten) ∧ (all N es w).flatten.length = N := by
  have hs : nxt N es (all N es w).flatten = none := by
    have := rounds_stop (es := es) hw N [] (Good.nil N es) (by simp)
    rwa [List.nil_append] at this
  have hg : Good N es (all N es w).flatten := by
    have := good_rounds (w := w) N [] (Good.nil N es) (all N es w).length
    rw [List.nil_append] at this
    unfold all at this ⊢
    rwa [List.take_length] at this
  have hin := all_out hT hs
  refine ⟨hin, Nat.le_antisymm hg.length ?_⟩
  have := (List.nodup_range (n := N)).length_le_of_subset (l₂ := (all N es w).flatten) (fun m hm => hin m (List.mem_range.1 hm))
  simpa using this
/-- none is done ahead of what it waits for -/
theorem all_order {N : Nat} {es : List Ed} {w k m : Nat} {a : List Nat} (h : (all N es w)[k]? = some a) (hm : m ∈ a) : ∀ e ∈ es, e.2 = m → ∃ j b, j < k ∧ (all N es w)[j]? = some b ∧ e.1 ∈ b := by
  obtain ⟨ha, -⟩ := rounds_at N [] k a h
  rw [ha] at hm
  intro e he em
  have hin := (rdy_iff.1 (now_mem hm).2).2 e he em
  rw [List.nil_append, List.mem_flatten] at hin
  obtain ⟨b, hb, hbm⟩ := hin
  obtain ⟨j, hj⟩ := List.getElem?_of_mem hb
  rw [List.getElem?_take] at hj
  split at hj
  · rename_i hjk
    exact ⟨j, b, hjk, hj, hbm⟩
  · cases hj
end Go.Proofs.YtfjmhmfkhgjnhaaDoor.Gr


namespace Go.Proofs.YtfjmhmfkhgjnhaaDoor.Gr
set_option linter.unusedVariables false
set_option linter.unusedSimpArgs false
set_option maxRecDepth 100000

/-- between two nodes of the round a, i of which have been told of -/
def HeapP (N : Nat) (es : List Ed) (D a : List Nat) (i : Nat) (hl : List Nat) : Prop := hl.Nodup ∧ ∀ x, x ∈ hl ↔ (x < N ∧ rdy es (D ++ a.take i) x = true) ∧ x ∉ a
/-- j of those that its i-th node leads to have been told -/
def HeapQ (N : Nat) (es : List Ed) (D a : List Nat) (i n j : Nat) (hl : List Nat) : Prop := hl.Nodup ∧ ∀ x, x ∈ hl ↔ rj N es (D ++ a.take i) n j x ∧ x ∉ a

section
variable {N : Nat} {es : List Ed} {D a hl : List Nat} {i n j m : Nat}
theorem HeapP.begin (h : HeapP N es D a i hl) (hn : a[i]? = some n) : HeapQ N es D a i n 0 hl := by
  refine ⟨h.1, fun x => ?_⟩
  rw [h.2, rj_zero]
  constructor
  · rintro ⟨h1, h2⟩
    exact ⟨⟨h1, fun e => h2 (by rw [e]; exact List.mem_of_getElem? hn)⟩, h2⟩
  · rintro ⟨⟨h1, -⟩, h2⟩
    exact ⟨h1, h2⟩
theorem HeapQ.finish (h : HeapQ N es D a i n (next es n).length hl) (hn : a[i]? = some n) (ho : n ∉ D ++ a.take i) : HeapP N es D a (i + 1) hl := by
  refine ⟨h.1, fun x => ?_⟩
  rw [h.2, rj_full ho, take_snoc hn, ← List.append_assoc]
theorem HeapP.last (h : HeapP N es D a a.length hl) : hl.Nodup ∧ ∀ x, x ∈ hl ↔ x < N ∧ rdy es (D ++ a) x = true := by
  refine ⟨h.1, fun x => ?_⟩
  rw [h.2, List.take_length]
  constructor
  · exact fun h => h.1
  · exact fun h => ⟨h, fun hx => (rdy_iff.1 h.2).1 (List.mem_append_right _ hx)⟩
theorem HeapP.first (h0 : hl.Nodup) (h : ∀ x, x ∈ hl ↔ (x < N ∧ rdy es D x = true) ∧ x ∉ a) : HeapP N es D a 0 hl := by
  refine ⟨h0, fun x => ?_⟩
  rw [h, List.take_zero, List.append_nil]
/-- it waits for nobody any longer: it is pushed -/
theorem HeapQ.push (h : HeapQ N es D a i n j hl) (hg : Good N es (D ++ a.take i)) (hes : ∀ e ∈ es, e.2 < N) (h2 : n ∉ D ++ a.take i) (h3 : ∀ e ∈ es, e.2 = n → e.1 ∈ D ++ a.take i) (hj : (next es n)[j]? = some m) (hma : m ∉ a) (hw : wt es (D ++ a.take i) m = ((next es n).take j).count m + 1) {hl' : List Nat} (hp : hl'.Perm (m :: hl)) : HeapQ N es D a i n (j + 1) hl' := by
  have hm : m ∉ hl := fun hm => by
    have := ((h.2 m).1 hm).1.2.2.2
    omega
  refine ⟨hp.nodup_iff.2 (List.nodup_cons.2 ⟨hm, h.1⟩), fun x => ?_⟩
  rw [hp.mem_iff, List.mem_cons, h.2, rj_told hg hes h2 h3 hj]
  constructor
  · rintro (rfl | ⟨q1, q2⟩)
    · exact ⟨.inr ⟨rfl, hw⟩, hma⟩
    · exact ⟨.inl q1, q2⟩
  · rintro ⟨q1 | ⟨rfl, -⟩, q2⟩
    · exact .inr ⟨q1, q2⟩
    · exact .inl rfl
theorem HeapQ.stay (h : HeapQ N es D a i n j hl) (hg : Good N es (D ++ a.take i)) (hes : ∀ e ∈ es, e.2 < N) (h2 : n ∉ D ++ a.take i) (h3 : ∀ e ∈ es, e.2 = n → e.1 ∈ D ++ a.take i) (hj : (next es n)[j]? = some m) (hw : wt es (D ++ a.take i) m ≠ ((next es n).take j).count m + 1) : HeapQ N es D a i n (j + 1) hl := by
  refine ⟨h.1, fun x => ?_⟩
  rw [h.2, rj_told hg hes h2 h3 hj]
  constructor
  · exact fun ⟨q1, q2⟩ => ⟨.inl q1, q2⟩
  · rintro ⟨q1 | ⟨rfl, q3⟩, q2⟩
    · exact ⟨q1, q2⟩
    · exact absurd q3 hw
end
/-- whom a node of the round leads to is not of the round -/
theorem next_out {N w : Nat} {es : List Ed} {D : List Nat} {n m : Nat} (hn : n ∈ now N es w D) (hm : m ∈ next es n) : m ∉ now N es w D := fun h => by
  have h1 := (rdy_iff.1 (now_mem h).2).2 _ (mem_next.1 hm) rfl
  exact (rdy_iff.1 (now_mem hn).2).1 h1
end Go.Proofs.YtfjmhmfkhgjnhaaDoor.Gr


namespace Go.Proofs.YtfjmhmfkhgjnhaaDoor.Gr
set_option linter.unusedVariables false
set_option linter.unusedSimpArgs false
set_option maxRecDepth 100000

theorem heap_round {N w : Nat} {es : List Ed} {D hl : List Nat} (hO : Hp.Ok hl) (hn : hl.Nodup) (hm : ∀ x, x ∈ hl ↔ x < N ∧ rdy es D x = true) : (Hp.take w hl).1 = now N es w D ∧ Hp.Ok (Hp.take w hl).2 ∧ HeapP N es D (now N es w D) 0 (Hp.take w hl).2 := by
  obtain ⟨h1, h2⟩ := Hp.take_sorted (n := w) hO hn hm
  obtain ⟨h3, h4, -⟩ := Hp.take_ok w hl hO
  have h5 : (Hp.take w hl).1 = now N es w D := h1
  refine ⟨h5, h3, HeapP.first ?_ ?_⟩
  · exact (List.nodup_append.1 (h4.nodup_iff.2 hn)).2.1
  · intro x
    rw [h2 x, h5]
/-- nobody is in the heap: the rounds are over -/
theorem heap_nil {N w : Nat} {es : List Ed} {D hl : List Nat} (hm : ∀ x, x ∈ hl ↔ x < N ∧ rdy es D x = true) (hw : 0 < w) : hl = [] ↔ now N es w D = [] := by
  unfold now
  rw [List.eq_nil_iff_forall_not_mem]
  constructor
  · intro h
    rw [List.filter_eq_nil_iff.2 (fun x hx hr => h x ((hm x).2 ⟨List.mem_range.1 hx, hr⟩))]
    simp
  · intro h x hx
    have hin : x ∈ (List.range N).filter (rdy es D) := List.mem_filter.2 ⟨List.mem_range.2 ((hm x).1 hx).1, ((hm x).1 hx).2⟩
    obtain ⟨v, rfl⟩ : ∃ v, w = v + 1 := ⟨w - 1, by omega⟩
    rcases e : (List.range N).filter (rdy es D) with _ | ⟨y, ys⟩
    · rw [e] at hin; cases hin
    · rw [e] at h; simp at h
end Go.Proofs.YtfjmhmfkhgjnhaaDoor.Gr


namespace Go.Proofs.YtfjmhmfkhgjnhaaDoor
set_option linter.unusedVariables false
set_option linter.unusedSimpArgs false
set_option maxRecDepth 100000
open Go.RowKit

theorem hnats_ilist (l : List Nat) : hnats l = ilist l := by simp [hnats, ilist, ints]
def SlN (w : World) (v : Value) (c : List Nat) : Prop := SlV w 1 v c.length (ilist c)
theorem SlN.below {w w' : World} {v : Value} {c : List Nat} (h : SlN w v c) (hb : Below w.heap.size w w') : SlN w' v c := SlV.below h hb
theorem SlN.far {S : Nat → Prop} {w w' : World} {v : Value} {xs : List Nat} (h : SlN w v xs) (k : Keeps S w w') (hf : FarU S v xs) : SlN w' v xs := by
  obtain ⟨A, c, rfl, h1, h2, h3, b, o, h4, h5⟩ := h
  refine ⟨A, c, rfl, h1, h2, h3, b, o, fun hn => ⟨(h4 hn).1, Nat.lt_of_lt_of_le (h4 hn).2 k.size⟩, fun j u hu => ?_⟩
  have hn : ilist xs ≠ [] := fun e => by rw [e] at hu; simp at hu
  obtain ⟨hA, hb⟩ := h4 hn
  exact (World.cell?_of_block (a := ⟨b, o + j, none⟩) (k.block b hb (hf (fun e => hn (by rw [e]; rfl)) _ (by rw [hA]; rfl)))).trans (h5 j u hu)
theorem FarU.stepN {T T' : Nat → Prop} {w : World} {v : Value} {xs : List Nat} (h : FarU T v xs) (hu : SlN w v xs) (hT : ∀ k, T' k → T k ∨ w.heap.size ≤ k) : FarU T' v xs := fun hn p hp hk => by
  obtain ⟨A, c, rfl, h1, h2, h3, b, o, h4, h5⟩ := hu
  obtain ⟨hA, hb⟩ := h4 (fun e => hn (by simpa [ilist, ints] using e))
  have hp' : A = some p := hp
  rcases hT _ hk with hk | hk
  · exact h hn p hp hk
  · rw [hp'] at hA
    injection hA with hA
    rw [hA] at hk
    simp at hk
    omega
theorem FarU.mono {T T' : Nat → Prop} {v : Value} {xs : List Nat} (h : FarU T v xs) (hT : ∀ k, T' k → T k) : FarU T' v xs := fun hn p hp hk => h hn p hp (hT _ hk)
theorem FarU.none (T : Nat → Prop) (v : Value) : FarU T v [] := fun h => absurd rfl h
theorem new_own {w : World} {B sz n : Nat} {e : TypeId} {v : Value} {xs : List Value} (h : w.ownsRow B e sz v n xs) : New B v := fun p hp => by
  rcases h.2 with ⟨rfl, -⟩ | ⟨g, cap, cur, rfl, hB, -⟩
  · cases hp
  · injection hp with hp
    rw [← hp]
    exact hB
theorem SlN.of_own {w : World} {B : Nat} {e : TypeId} {v : Value} {c : List Nat} (h : w.ownsRow B e 1 v c.length (ilist c)) : SlN w v c := SlV.of_own h

theorem SlN.form {w : World} {v : Value} {c : List Nat} (h : SlN w v c) : ∃ A k, v = .slice A c.length k ∧ c.length ≤ k ∧ k ≤ maxLen := by
  obtain ⟨A, k, rfl, h1, h2, -⟩ := h
  exact ⟨A, k, rfl, h1, h2⟩
theorem ilist_get {xs : List Nat} {j x : Nat} (h : xs[j]? = some x) : (ilist xs)[j]? = some (.int .i64 (x : Int)) := by
  show (List.map _ (List.map _ _))[j]? = _
  rw [List.getElem?_map, List.getElem?_map, h]
  rfl
theorem SlN.get {w : World} {A : Option Addr} {n k : Nat} {xs : List Nat} (h : SlN w (.slice A n k) xs) {j x : Nat} (hj : xs[j]? = some x) : ∃ g o, A = some ⟨g, o, none⟩ ∧ g < w.heap.size ∧ w.cell? ⟨g, o + j, none⟩ = some (.int .i64 (x : Int)) := by
  obtain ⟨A', c', he, -, -, -, hcc⟩ := h
  injection he with e1 e2 e3
  subst e1
  have gm := ilist_get hj
  obtain ⟨g, o, rfl, hgl, hgc⟩ := hcc.at_ (fun e => by rw [e] at gm; simp at gm)
  exact ⟨g, o, rfl, hgl, hgc _ _ gm⟩
theorem SlN.get0 {w : World} {g n k : Nat} {xs : List Nat} (h : SlN w (.slice (some ⟨g, 0, none⟩) n k) xs) {j x : Nat} (hj : xs[j]? = some x) : w.cell? ⟨g, j, none⟩ = some (.int .i64 (x : Int)) := by
  obtain ⟨g', o, he, -, hc⟩ := h.get hj
  injection he with he
  injection he with e1 e2
  subst e1 e2
  rwa [Nat.zero_add] at hc
/-- as long as it may be -/
theorem SlN.clip {w : World} {A : Option Addr} {k : Nat} {xs : List Nat} (h : SlN w (.slice A xs.length k) xs) : SlN w (.slice A xs.length xs.length) xs := by
  obtain ⟨A', c', he, h1, h2, h3, hcc⟩ := h
  injection he with e1 e2 e3
  subst e1
  exact ⟨A, xs.length, rfl, Nat.le_refl _, Nat.le_trans h1 h2, h3, hcc⟩
theorem clipn_any (w : World) (ad : Addr) (n c : Nat) (hnc : n ≤ c) (hc : c ≤ maxLen) : Calls Tryd.prog 53 #[.slice (some ad) n c] w fun e w' => e = .returned (.slice (some ad) n n) ∧ w = w' := by
  unfold maxLen at hc
  go_enter Tryd.func53, Tryd.ntmps53
  go_wp2
  go_ret
  exact ⟨rfl, rfl⟩

namespace Gy
/-- the blocks that are turned: those of the waits, of the heap, of its row, of the rounds' row -/
def T (q p : Nat) (u o : Value) (k : Nat) : Prop := k = q ∨ k = p ∨ u.ownBlock = some k ∨ o.ownBlock = some k
structure St (w0 : World) (B q r p N : Nat) (vs : List Value) (wr : World) (ws : List Int) (u : Value) (hl : List Nat) (o : Value) (os : List Value) (fs : List (Value × List Nat)) : Prop where
  wt : wr.ownsRow B 3 1 (.slice (some ⟨q, 0, none⟩) N N) N (ints .i64 ws)
  nb : Blk wr r 26 vs
  hp : HpR wr B p u hl
  ou : wr.ownsRow B 26 1 o os.length os
  far : ∀ x ∈ fs, SlN wr x.1 x.2 ∧ FarU (T q p u o) x.1 x.2
  below : Below B w0 wr
  plo : B ≤ p
  uq : u.ownBlock ≠ some q
  nor : o.ownBlock ≠ some r
section
variable {w0 wr w' : World} {B q r p N : Nat} {vs : List Value} {ws ws' : List Int} {u u' o o' : Value} {hl hl' : List Nat} {os os' : List Value} {fs fs' : List (Value × List Nat)}
theorem St.tlt (h : St w0 B q r p N vs wr ws u hl o os fs) : ∀ k, T q p u o k → k < wr.heap.size := fun k hk => by
  rcases hk with rfl | rfl | hk | hk
  · exact (h.wt.lt _ rfl).2
  · exact h.hp.blk.lt
  · exact (h.hp.row.lt k hk).2
  · exact (h.ou.lt k hk).2
theorem St.tge (h : St w0 B q r p N vs wr ws u hl o os fs) : ∀ k, T q p u o k → B ≤ k := fun k hk => by
  rcases hk with rfl | rfl | hk | hk
  · exact (h.wt.lt _ rfl).1
  · exact h.plo
  · exact (h.hp.row.lt k hk).1
  · exact (h.ou.lt k hk).1
theorem St.tr (h : St w0 B q r p N vs wr ws u hl o os fs) : ¬ T q p u o r := fun hk => by
  rcases hk with rfl | rfl | hk | hk
  · exact own_blk_ne h.wt h.nb (by decide) rfl
  · have h1 := h.nb
    have h2 := h.hp.blk
    have := h1.symm.trans h2
    injection this with this
    injection this with _ e
    exact absurd e (by decide)
  · exact own_blk_ne h.hp.row h.nb (by decide) hk
  · exact h.nor hk
/-- a turn: only what may be turned was turned -/
theorem St.turn {S : Nat → Prop} (h : St w0 B q r p N vs wr ws u hl o os fs) (hk : Keeps S wr w') (hS : ∀ k, S k → T q p u o k)
    (wt' : w'.ownsRow B 3 1 (.slice (some ⟨q, 0, none⟩) N N) N (ints .i64 ws')) (hp' : HpR w' B p u' hl') (ou' : w'.ownsRow B 26 1 o' os'.length os')
    (hT : ∀ k, T q p u' o' k → T q p u o k ∨ wr.heap.size ≤ k) (uq' : u'.ownBlock ≠ some q) (hf : ∀ x ∈ fs', x ∈ fs ∨ (SlN w' x.1 x.2 ∧ FarU (T q p u' o') x.1 x.2)) : St w0 B q r p N vs w' ws' u' hl' o' os' fs' := by
  refine ⟨wt', h.nb.keeps hk (fun hs => h.tr (hS _ hs)), hp', ou', fun x hx => ?_, h.below.trans (hk.below h.hp.base (fun k hs => h.tge k (hS k hs))), h.plo, uq', fun e => ?_⟩
  · rcases hf x hx with h1 | h1
    · obtain ⟨a, b⟩ := h.far x h1
      exact ⟨a.far hk (b.mono hS), b.stepN a hT⟩
    · exact h1
  · rcases hT r (.inr (.inr (.inr e))) with h1 | h1
    · exact h.tr h1
    · have := h.nb.lt
      omega
theorem St.step (h : St w0 B q r p N vs wr ws u hl o os fs) (hb : Below wr.heap.size wr w') : St w0 B q r p N vs w' ws u hl o os fs :=
  h.turn (Keeps.of_below hb (fun _ => False)) (fun _ hk => hk.elim) (own_keeps h.wt (Keeps.of_below hb (fun _ => False)) (fun _ _ => id))
    ⟨h.hp.blk.below hb, own_keeps h.hp.row (Keeps.of_below hb (fun _ => False)) (fun _ _ => id), Nat.le_trans h.hp.base hb.size⟩
    (own_keeps h.ou (Keeps.of_below hb (fun _ => False)) (fun _ _ => id)) (fun _ hk => .inl hk) h.uq (fun _ hx => .inl hx)
/-- the heap is turned -/
theorem St.heap (h : St w0 B q r p N vs wr ws u hl o os fs) (hp' : HpR w' B p u' hl') (hk : Keeps (HpT p u) wr w') (hu : u'.ownBlock = u.ownBlock ∨ ∀ k, u'.ownBlock = some k → wr.heap.size ≤ k) : St w0 B q r p N vs w' ws u' hl' o os fs := by
  have hqp : q ≠ p := fun e => own_blk_ne h.wt h.hp.blk (by decide) (by rw [e]; rfl)
  have hop : o.ownBlock ≠ some p := own_blk_ne h.ou h.hp.blk (by decide)
  have hou : ∀ k, o.ownBlock = some k → u.ownBlock ≠ some k := fun k h1 h2 => own_own_ne h.ou h.hp.row (by decide) h1 h2
  refine h.turn hk (fun k hs => hs.elim (fun e => .inr (.inl e)) (fun e => .inr (.inr (.inl e)))) (own_keeps h.wt hk (fun g hg hs => ?_)) hp' (own_keeps h.ou hk (fun g hg hs => ?_)) (fun k hk => ?_) ?_ (fun _ hx => .inl hx)
  · injection hg with hg
    subst hg
    exact hs.elim hqp h.uq
  · exact hs.elim (fun e => hop (by rw [hg, e])) (hou g hg)
  · rcases hk with e | e | e | e
    · exact .inl (.inl e)
    · exact .inl (.inr (.inl e))
    · rcases hu with h1 | h1
      · exact .inl (.inr (.inr (.inl (by rw [← h1]; exact e))))
      · exact .inr (h1 k e)
    · exact .inl (.inr (.inr (.inr e)))
  · rcases hu with h1 | h1
    · rw [h1]; exact h.uq
    · intro e
      have := h1 q e
      have := (h.wt.lt q rfl).2
      omega
/-- how many one waits for is turned -/
theorem St.wait (h : St w0 B q r p N vs wr ws u hl o os fs) (wt' : w'.ownsRow B 3 1 (.slice (some ⟨q, 0, none⟩) N N) N (ints .i64 ws')) (hg : wr.grownBy w' (some q)) : St w0 B q r p N vs w' ws' u hl o os fs := by
  have hqp : q ≠ p := fun e => own_blk_ne h.wt h.hp.blk (by decide) (by rw [e]; rfl)
  have hoq : o.ownBlock ≠ some q := fun e => own_own_ne h.ou h.wt (by decide) e rfl
  have hk := Keeps.of_grown hg
  refine h.turn hk (fun k hs => .inl (by injection hs)) wt' ⟨h.hp.blk.grown hg (fun e => hqp (by injection e with e; exact e.symm)), own_keeps h.hp.row hk (fun g hg e => h.uq (by rw [hg, e])), Nat.le_trans h.hp.base hg.size⟩ (own_keeps h.ou hk (fun g hg e => hoq (by rw [hg, e]))) (fun _ hk => .inl hk) h.uq (fun _ hx => .inl hx)
/-- one round more -/
theorem St.out {v : Value} (h : St w0 B q r p N vs wr ws u hl o os fs) (hr : w'.ownsRow B 26 1 o' (os.length + 1) (os ++ [v])) (hg : wr.grownBy w' o.ownBlock) (hv : o'.ownBlock = o.ownBlock ∨ ∃ k, wr.heap.size ≤ k ∧ o'.ownBlock = some k) (hf : ∀ x ∈ fs', x ∈ fs) : St w0 B q r p N vs w' ws u hl o' (os ++ [v]) fs' := by
  have hop : o.ownBlock ≠ some p := own_blk_ne h.ou h.hp.blk (by decide)
  have hou : ∀ k, o.ownBlock = some k → u.ownBlock ≠ some k := fun k h1 h2 => own_own_ne h.ou h.hp.row (by decide) h1 h2
  have hoq : o.ownBlock ≠ some q := fun e => own_own_ne h.ou h.wt (by decide) e rfl
  have hk := Keeps.of_grown hg
  refine h.turn hk (fun k hs => .inr (.inr (.inr hs.symm))) (own_keeps h.wt hk (fun g hg e => hoq (by rw [← e, ← hg]; rfl))) ⟨h.hp.blk.grown hg (fun e => hop e.symm), own_keeps h.hp.row hk (fun g hg e => hou g e.symm hg), Nat.le_trans h.hp.base hg.size⟩ (by simpa using hr) (fun k hk => ?_) h.uq (fun x hx => .inl (hf x hx))
  rcases hk with e | e | e | e
  · exact .inl (.inl e)
  · exact .inl (.inr (.inl e))
  · exact .inl (.inr (.inr (.inl e)))
  · rcases hv with h1 | ⟨j, hj, h1⟩
    · exact .inl (.inr (.inr (.inr (by rw [← h1]; exact e))))
    · rw [h1] at e; injection e with e; exact .inr (by omega)
/-- one more that is read -/
theorem St.more {v : Value} {a : List Nat} (h : St w0 B q r p N vs wr ws u hl o os fs) (hv : SlN wr v a) (hf : FarU (T q p u o) v a) : St w0 B q r p N vs wr ws u hl o os ((v, a) :: fs) :=
  ⟨h.wt, h.nb, h.hp, h.ou, fun x hx => (List.mem_cons.1 hx).elim (fun e => by subst e; exact ⟨hv, hf⟩) (h.far x), h.below, h.plo, h.uq, h.nor⟩
theorem St.only {fs' : List (Value × List Nat)} (h : St w0 B q r p N vs wr ws u hl o os fs) (hf : ∀ x ∈ fs', x ∈ fs) : St w0 B q r p N vs wr ws u hl o os fs' :=
  ⟨h.wt, h.nb, h.hp, h.ou, fun x hx => h.far x (hf x hx), h.below, h.plo, h.uq, h.nor⟩
end
/-- the nodes' rows are laid, the heap is made -/
theorem St.start {w2 wr : World} {B q r N : Nat} {T0 : Nat → Prop} {vs : List Value} {ws : List Int} {nx : List (List Nat)} (h : OwnTo B w2 T0 wr r 26 vs (tkR (.slice (some ⟨q, 0, none⟩) N N) ws vs nx)) (hb : Below B w2 wr) (hl : ws.length = N) :
    St w2 B q r wr.heap.size N vs (wr.alloc (.cells #[.slice none 0 0] 90)) ws (.slice none 0 0) [] (.slice none 0 0) [] (vs.zip nx) := by
  have ho := h.own
  have ha := ho.alloc (.cells #[.slice none 0 0] 90)
  have hwt : ∀ w', Own B w' r 26 vs (tkR (.slice (some ⟨q, 0, none⟩) N N) ws vs nx) → w'.ownsRow B 3 1 (.slice (some ⟨q, 0, none⟩) N N) N (ints .i64 ws) := fun w' h => by
    have := h.row 0 rfl
    unfold Rw.at_ wrw at this
    rw [hl] at this
    exact this
  refine ⟨hwt _ ha, ha.blk, ⟨Blk.new wr 90 [.slice none 0 0], World.ownsRow_nil _ _ _ _, ha.base⟩, World.ownsRow_nil _ _ _ _, fun x hx => ?_, hb.trans (below_alloc (Below.refl _ _) _ |>.mono ho.base), ho.base, by simp [Value.ownBlock], by simp [Value.ownBlock]⟩
  obtain ⟨i, hi⟩ := List.getElem?_of_mem hx
  obtain ⟨v, c⟩ := x
  rw [List.getElem?_zip_eq_some] at hi
  obtain ⟨h1, h2⟩ := hi
  have hg := tkR_get (.slice (some ⟨q, 0, none⟩) N N) ws vs nx i v c h1 h2
  have hr : wr.ownsRow B 3 1 v c.length (ilist c) := ho.row (i + 1) hg
  refine ⟨(SlN.of_own hr).below (below_alloc (Below.refl _ _) _), fun hn p hp hk => ?_⟩
  have hv : v.ownBlock = some p.block := by
    rcases hr.2 with ⟨rfl, -⟩ | ⟨g, cap, cur, rfl, -⟩
    · cases hp
    · injection hp with hp
      rw [← hp]
      rfl
  rcases hk with e | e | e | e
  · refine ho.ap (i + 1) 0 _ _ hg rfl (by omega) p.block hv ?_
    rw [e]; rfl
  · have := (hr.lt _ hv).2
    omega
  · cases e
  · cases e
/-- what is pushed is a node that was not there: the heap is short -/
theorem short {N : Nat} {hl : List Nat} (h : hl.Nodup) (hm : ∀ x ∈ hl, x < N) : hl.length ≤ N := by
  have := h.length_le_of_subset (l₂ := List.range N) (fun x hx => List.mem_range.2 (hm x hx))
  simpa using this
end Gy
end Go.Proofs.YtfjmhmfkhgjnhaaDoor


namespace Go.Proofs.YtfjmhmfkhgjnhaaDoor
set_option linter.unusedVariables false
set_option linter.unusedSimpArgs false
set_option maxRecDepth 100000
open Go.RowKit

/-- what Rounds gives -/
def Gy.Rs (w : World) (os : List Value) (ls : List (List Nat)) : Prop := os.length = ls.length ∧ ∀ x ∈ os.zip ls, SlN w x.1 x.2

/-- between two rounds -/
structure Gy.L3 (N : Nat) (es : List Gr.Ed) (W : Nat) (ls : List (List Nat)) (os : List Value) (hl : List Nat) (f : Nat) : Prop where
  good : Gr.Good N es ls.flatten
  len : os.length = ls.length
  short : ls.length ≤ ls.flatten.length
  fuel : N ≤ f + ls.flatten.length
  run : ls ++ Gr.rounds N es W f ls.flatten = Gr.all N es W
  ok : Hp.Ok hl
  nd : hl.Nodup
  mem : ∀ x, x ∈ hl ↔ x < N ∧ Gr.rdy es ls.flatten x = true
theorem Gy.L3.done {N : Nat} {es : List Gr.Ed} {W : Nat} {ls : List (List Nat)} {os : List Value} {hl : List Nat} {f : Nat} (h : Gy.L3 N es W ls os hl f) (hW : 0 < W) (h0 : hl = []) : ls = Gr.all N es W := by
  have hn := (Gr.heap_nil h.mem hW).1 h0
  have : Gr.rounds N es W f ls.flatten = [] := by
    cases f with
    | zero => rfl
    | succ f => rw [Gr.rounds, if_pos hn]
  rw [← h.run, this, List.append_nil]
theorem Gy.L3.next {N : Nat} {es : List Gr.Ed} {W : Nat} {ls : List (List Nat)} {os : List Value} {hl hl' : List Nat} {f : Nat} (h : Gy.L3 N es W ls os hl f) (hW : 0 < W) (h0 : hl ≠ []) (v : Value) (hok : Hp.Ok hl') (hP : Gr.HeapP N es ls.flatten (Gr.now N es W ls.flatten) (Gr.now N es W ls.flatten).length hl') :
    ∃ f', Gy.L3 N es W (ls ++ [Gr.now N es W ls.flatten]) (os ++ [v]) hl' f' ∧ ls.length < N := by
  have hne : Gr.now N es W ls.flatten ≠ [] := fun e => h0 ((Gr.heap_nil h.mem hW).2 e)
  have hpos := List.length_pos_iff.2 hne
  have hg := h.good.round (w := W)
  have hgl := hg.length
  rw [List.length_append] at hgl
  obtain ⟨h1, h2⟩ := hP.last
  have hfl : (ls ++ [Gr.now N es W ls.flatten]).flatten = ls.flatten ++ Gr.now N es W ls.flatten := by simp
  cases f with
  | zero => have := h.fuel; omega
  | succ f =>
    refine ⟨f, ⟨by rw [hfl]; exact hg, by simp [h.len], ?_, ?_, ?_, hok, h1, by rw [hfl]; exact h2⟩, by have := h.short; omega⟩
    · rw [hfl, List.length_append, List.length_append]
      have := h.short
      simp only [List.length_singleton]
      omega
    · rw [hfl, List.length_append]
      have := h.fuel
      omega
    · rw [hfl, List.append_assoc]
      have := h.run
      rw [Gr.rounds, if_neg hne] at this
      exact this

set_option maxHeartbeats 4000000 in
theorem rounds_core (N : Nat) (es : List Gr.Ed) (W : Nat) (w : World) (A : Option Addr) (c : Nat) (hN : N ≤ 200) (hes : ∀ e ∈ es, e.1 < N ∧ e.2 < N) (hW1 : 1 ≤ W) (hW2 : W ≤ 16) (hA : SlV w 2 (.slice A es.length c) es.length (edcs es)) (hle : es.length ≤ 1099511627776)
    (hwr : ∀ w', Below w.heap.size w w' → Calls Tryd.prog 29 #[.agg #[.int .i64 (N : Int), .slice A es.length c]] w' fun e w'' => e = .returned (.int .i64 0) ∧ Below w'.heap.size w' w'') :
    Calls Tryd.prog 24 #[.agg #[.int .i64 (N : Int), .slice A es.length c], .int .i64 (W : Int)] w fun e w' => ∃ u os, e = .returned (.tuple #[u, .int .i64 0]) ∧ w'.ownsRow w.heap.size 26 1 u os.length os ∧ Gy.Rs w' os (Gr.all N es W) ∧ Below w.heap.size w w' := by
  have HES := Lib.hid hes
  have x00 := Blk.new w 24 [.int .i64 (N : Int), .slice A es.length c]
  have hb00 : Below w.heap.size w (w.alloc (.cells #[.int .i64 (N : Int), .slice A es.length c] 24)) := below_alloc (Below.refl _ _) _
  have hwr1 := hwr _ hb00
  clear hes hwr
  go_enter Tryd.func24, Tryd.ntmps24
  go_upto_region 1 with (fail)
  generalize (w.alloc (.cells #[.int .i64 (N : Int), .slice A es.length c] 24)) = V0 at x00 hb00 hwr1 ⊢
  have d0 : V0.cell? ⟨w.heap.size, 0, none⟩ = some (.int .i64 (N : Int)) := (x00.cell 0).trans rfl
  have d1 : V0.cell? ⟨w.heap.size, 1, none⟩ = some (.slice A es.length c) := (x00.cell 1).trans rfl
  go_wp2_with fail
  refine hwr1.mono ?_
  rintro _ W0 ⟨rfl, hbW⟩
  have x0 := x00.below hbW
  have hb0 := below_next hbW hb00
  have hlt0 : w.heap.size < W0.heap.size := x0.lt
  clear hwr1 x00 hb00 hbW d0 d1
  have n47 : 8 * N ≤ 281474976710656 := by omega
  have n47' : 24 * N ≤ 281474976710656 := by omega
  have n63 : N ≤ 9223372036854775807 := by omega
  obtain ⟨Q, hz0⟩ : ∃ Q, W0.heap.size = Q + 1 := ⟨W0.heap.size - 1, by omega⟩
  have hQw : w.heap.size ≤ Q := by omega
  have c00 : W0.cell? ⟨w.heap.size, 0, none⟩ = some (.int .i64 (N : Int)) := (x0.cell 0).trans rfl
  have c01 : W0.cell? ⟨w.heap.size, 1, none⟩ = some (.slice A es.length c) := (x0.cell 1).trans rfl
  have HZ0 := Lib.hid hz0
  clear hlt0
  go_wp2_with (first | (at_make; refine wp_make _ 26 3 (.int .i64 0) 8 N Tryd.underlying26 info_int rfl (by omega) (by omega) n47 n63 rfl rfl rfl rfl ?_; intro w1 hown1 hb1 hs1; have x1 := x0.below hb1; have c10 : w1.cell? ⟨w.heap.size, 0, none⟩ = some (.int .i64 (N : Int)) := (x1.cell 0).trans rfl; have c11 : w1.cell? ⟨w.heap.size, 1, none⟩ = some (.slice A es.length c) := (x1.cell 1).trans rfl) | (at_make; refine wp_make _ 49 26 (.slice none 0 0) 24 N Tryd.underlying49 info_sint rfl (by omega) (by omega) n47' n63 rfl rfl rfl rfl ?_; intro w2 hown2 hb2 hs2; have x2 := x1.below hb2; have c20 : w2.cell? ⟨w.heap.size, 0, none⟩ = some (.int .i64 (N : Int)) := (x2.cell 0).trans rfl; have c21 : w2.cell? ⟨w.heap.size, 1, none⟩ = some (.slice A es.length c) := (x2.cell 1).trans rfl) | fail)
  have hO : Own (Q + 1) w2 (Q + 1 + 1) 26 (List.replicate N (.slice none 0 0)) (tkR (.slice (some ⟨Q + 1, 0, none⟩) N N) (Gr.wl N []) (List.replicate N (.slice none 0 0)) (Gr.nl N [])) := by
    have hz := HZ0.out
    rw [hz] at hown1 hs1
    have hw := row_whole hown2
    rw [hs1] at hw
    exact tk_start hown1 hb2 hs1.symm hw (by omega)
  have hb02 : Below w.heap.size w w2 := below_next hb2 (below_next hb1 hb0)
  have hQ2 : Q + 1 + 1 < w2.heap.size := hO.blk.lt
  have HQ := Lib.hid hQw
  clear hown1 hown2 hb1 hb2 hs1 hs2 x0 hb0 n47 n47' n63 c00 c01 c10 c11 c20 c21 x1 HZ0 hz0 hQw
  have keepB : ∀ (vs : List Value) (rs : List Rw) (wr : World), OwnTo (Q + 1) w2 (Tw (Q + 1 + 1) (tkR (.slice (some ⟨Q + 1, 0, none⟩) N N) (Gr.wl N []) (List.replicate N (.slice none 0 0)) (Gr.nl N []))) wr (Q + 1 + 1) 26 vs rs → Below w.heap.size w wr := fun _ _ wr h => hb02.trans ((hO.below h.kp).mono (by have := HQ.out; omega))
  have HK := Lib.hid keepB
  clear keepB
  go_loopw [40] (fun i wr => ∃ (k : Nat) (vs : List Value), k ≤ es.length ∧ i = .int .i64 (k : Int) ∧ vs.length = N ∧ OwnTo (Q + 1) w2 (Tw (Q + 1 + 1) (tkR (.slice (some ⟨Q + 1, 0, none⟩) N N) (Gr.wl N []) (List.replicate N (.slice none 0 0)) (Gr.nl N []))) wr (Q + 1 + 1) 26 vs (tkR (.slice (some ⟨Q + 1, 0, none⟩) N N) (Gr.wl N (es.take k)) vs (Gr.nl N (es.take k)))) (fun i _ => es.length - (intOf i).toNat)
  case atStart => exact ⟨0, _, Nat.zero_le _, rfl, by simp, OwnTo.start hO⟩
  case round =>
    obtain ⟨k, vs, hk, rfl, hvl, hOk⟩ := hrel
    have hbw := HK.out _ _ wr hOk
    by_cases hlt : k < es.length
    · obtain ⟨⟨a, b⟩, hx⟩ : ∃ x, es[k]? = some x := ⟨_, List.getElem?_eq_getElem hlt⟩
      obtain ⟨ha, hb⟩ := HES.out _ (List.mem_of_getElem? hx)
      have gx := flat_get edc 2 (fun _ => rfl) es k
      have g1 := gx 0 _ hx (by omega)
      have g2 := gx 1 _ hx (by omega)
      obtain ⟨A', c', he, -, -, -, hcc⟩ := hA.below hbw
      injection he with e1 e2 e3
      subst e1 e3
      obtain ⟨g, o, rfl, hgl, hcell⟩ := hcc.at_ (fun e => by rw [show List.flatMap edc es = edcs es from rfl, e] at g1; simp [edc] at g1)
      have d0 : wr.cell? ⟨g, o + k * 2, none⟩ = some (.int .i64 (a : Int)) := (hcell _ _ g1).trans rfl
      have d1 : wr.cell? ⟨g, o + k * 2 + 1, none⟩ = some (.int .i64 (b : Int)) := by rw [Nat.add_assoc]; exact hcell _ _ g2
      have htk := Gr.take_snoc hx
      have hw1 := Gr.wl_one N (es.take k) a b
      have hn1 := Gr.nl_one N (es.take k) a b
      rw [← htk] at hw1 hn1
      obtain ⟨U, hU⟩ : ∃ U, U = Gr.wt (es.take k) [] b := ⟨_, rfl⟩
      rw [← hU] at hw1
      have hUb : U ≤ 1099511627776 := by rw [hU]; exact Nat.le_trans (Gr.wt_le _ _ _) (by rw [List.length_take]; omega)
      have hwl : (Gr.wl N (es.take k)).length = N := by simp [Gr.wl]
      have hTA := hOk.later (below_alloc (Below.refl _ _) (.cells #[.int .i64 (a : Int), .int .i64 (b : Int)] 39))
      have hE := Blk.new wr 39 [.int .i64 (a : Int), .int .i64 (b : Int)]
      have r0 := hTA.own.row 0 rfl
      unfold Rw.at_ wrw at r0
      rw [hwl] at r0
      have c0 := own_cell r0 (j := b) (u := .int .i64 (U : Int)) (by
        show (List.map _ _)[b]? = _
        rw [List.getElem?_map, show (Gr.wl N (es.take k))[b]? = some (U : Int) by rw [hU]; exact Gr.map_get _ _ _ hb]
        rfl)
      obtain ⟨v, hv⟩ : ∃ v, vs[a]? = some v := ⟨_, List.getElem?_eq_getElem (by omega)⟩
      have hnx : (Gr.nl N (es.take k))[a]? = some (Gr.next (es.take k) a) := Gr.map_get _ _ _ ha
      have hnl : (Gr.next (es.take k) a).length ≤ 1099511627776 := by
        have := List.length_filter_le (fun e : Gr.Ed => e.1 == a) (es.take k)
        rw [List.length_take] at this
        unfold Gr.next
        rw [List.length_map]
        omega
      obtain ⟨nx, hnxq⟩ : ∃ nx, nx = Gr.next (es.take k) a := ⟨_, rfl⟩
      rw [← hnxq] at hnx hn1 hnl
      clear hnxq
      have hvne : v.ownBlock ≠ some wr.heap.size := fun e => by
        have := ((hOk.own.row (a + 1) (tkR_get _ _ _ _ a v nx hv hnx)).lt _ e).2
        omega
      have HX := Lib.hid (And.intro hw1 (And.intro hn1 (And.intro hwl (And.intro hv hnx))))
      clear hv hnx
      have HO := Lib.hid hO
      have hlw : Q + 1 + 1 < wr.heap.size := Nat.lt_of_lt_of_le hQ2 hOk.kp.size
      clear hOk htk hw1 hn1 hx gx g1 g2 hcc hcell e2 hA hO hwl hU hbw
      go_upto_region 11 with (fail)
      have hb5 : Below wr.heap.size wr (wr.alloc (.cells #[.int .i64 (a : Int), .int .i64 (b : Int)] 39)) := below_alloc (Below.refl _ _) _
      generalize (wr.alloc (.cells #[.int .i64 (a : Int), .int .i64 (b : Int)] 39)) = W5 at hTA hE r0 c0 hb5 ⊢
      have e0 : W5.cell? ⟨wr.heap.size, 0, none⟩ = some (.int .i64 (a : Int)) := (hE.cell 0).trans rfl
      have e1 : W5.cell? ⟨wr.heap.size, 1, none⟩ = some (.int .i64 (b : Int)) := (hE.cell 1).trans rfl
      clear d0 d1
      have f0 := row_frozen r0 b
      have hr6 := row_set r0 b (.int .i64 ((U : Int) + 1))
      have hg6 := grown_setCell W5 (Q + 1) b (.int .i64 ((U : Int) + 1))
      go_wp2_with fail
      obtain ⟨w6, hw6⟩ : ∃ w6, w6 = W5.setCell ⟨Q + 1, b, none⟩ (.int .i64 ((U : Int) + 1)) := ⟨_, rfl⟩
      rw [← hw6] at hr6 hg6 ⊢
      clear hw6 c0 f0
      have hT6 : OwnTo (Q + 1) w2 (Tw (Q + 1 + 1) (tkR (.slice (some ⟨Q + 1, 0, none⟩) N N) (Gr.wl N []) (List.replicate N (.slice none 0 0)) (Gr.nl N []))) w6 (Q + 1 + 1) 26 vs (tkR (.slice (some ⟨Q + 1, 0, none⟩) N N) (Gr.wl N (es.take (k + 1))) vs (Gr.nl N (es.take k))) := by
        rw [← ints_set, ← HX.out.1] at hr6
        have hl1 : (Gr.wl N (es.take (k + 1))).length = N := by simp [Gr.wl]
        have h1 : W5.grownBy w6 (wrw (.slice (some ⟨Q + 1, 0, none⟩) N N) (Gr.wl N (es.take k))).v.ownBlock := hg6
        have hp := (hTA.own.put (i := 0) rfl (v' := .slice (some ⟨Q + 1, 0, none⟩) N N) (n' := N) hr6 h1 (.inl rfl)).1
        have := hTA.step (hTA.own.put_to (i := 0) rfl (v' := .slice (some ⟨Q + 1, 0, none⟩) N N) (n' := N) hr6 h1 (.inl rfl) hp (World.grownBy.refl w6 _))
        have e : (tkR (.slice (some ⟨Q + 1, 0, none⟩) N N) (Gr.wl N (es.take k)) vs (Gr.nl N (es.take k))).set 0 ⟨3, 1, .slice (some ⟨Q + 1, 0, none⟩) N N, N, ints .i64 (Gr.wl N (es.take (k + 1)))⟩ = tkR (.slice (some ⟨Q + 1, 0, none⟩) N N) (Gr.wl N (es.take (k + 1))) vs (Gr.nl N (es.take k)) := by
          show _ = wrw _ _ :: _
          unfold wrw
          rw [hl1]
          rfl
        exact e ▸ this
      have hE6 := hE.grown hg6 (by intro e; injection e with e; omega)
      clear hTA r0 hr6 hg6 hE e0 e1
      have hget := tkR_get (.slice (some ⟨Q + 1, 0, none⟩) N N) (Gr.wl N (es.take (k + 1))) vs (Gr.nl N (es.take k)) a v nx HX.out.2.2.2.1 HX.out.2.2.2.2
      have rv : w6.ownsRow (Q + 1) 3 1 v nx.length (ilist nx) := hT6.own.row (a + 1) hget
      have hng : v.ownBlock ≠ some (Q + 1 + 1) := hT6.own.ng _ (List.mem_of_getElem? hget)
      obtain ⟨VB, cb, rfl, -, -⟩ := own_slice rv
      have hR : ∀ w', Below w6.heap.size w6 w' → w'.ownsRow (Q + 1) 3 1 (.slice VB nx.length cb) nx.length (ilist nx) ∧ Q + 1 ≤ w'.heap.size := fun w' hb => ⟨(hT6.own.later hb).row (a + 1) hget, (hT6.own.later hb).base⟩
      have keepS : ∀ w', Keeps (fun k => (Value.slice VB nx.length cb).ownBlock = some k) w6 w' → Keeps (fun k => (Value.slice VB nx.length cb).ownBlock = some k) w6 w' ∧ w'.cell? ⟨Q + 1 + 1, a, none⟩ = some (.slice VB nx.length cb) ∧ w'.cell? ⟨wr.heap.size, 0, none⟩ = some (.int .i64 (a : Int)) ∧ w'.cell? ⟨wr.heap.size, 1, none⟩ = some (.int .i64 (b : Int)) := fun w' k =>
        ⟨k, ((hT6.own.blk.keeps k hng).cell a).trans HX.out.2.2.2.1, ((hE6.keeps k hvne).cell 0).trans rfl, ((hE6.keeps k hvne).cell 1).trans rfl⟩
      have hS1 := keepS _ ((Keeps.refl _ w6).drewN 1)
      have hn63 : nx.length + 1 ≤ maxLen := by unfold maxLen; omega
      have hn47 : (nx.length + 1) * 8 ≤ 140737488355328 := by omega
      have HT := Lib.hid (And.intro hT6 hget)
      clear hT6 rv hE6 hget hng hvne
      refine wp_walk_mt 13 (fun i => ([11] : List Nat).contains i) (fun i => ([0,1,2,12] : List Nat).contains i) [11] (by intro m h; simpa using h) (by kernel_rfl) (by kernel_rfl) (by kernel_rfl) (fun w w' => Below w.heap.size w w')  (fun w' => Keeps (fun k => (Value.slice VB nx.length cb).ownBlock = some k) w6 w' ∧ w'.cell? ⟨Q + 1 + 1, a, none⟩ = some (.slice VB nx.length cb) ∧ w'.cell? ⟨wr.heap.size, 0, none⟩ = some (.int .i64 (a : Int)) ∧ w'.cell? ⟨wr.heap.size, 1, none⟩ = some (.int .i64 (b : Int))) (fun w' => Below w6.heap.size w6 w') hS1 (below_drew (Below.refl _ _)) (fun _ _ h h' => below_next h' h) ?_
      simp only [List.length_cons, List.length_nil, Nat.reduceAdd, Nat.reduceSub, List.take_succ_cons, List.take_zero, List.drop_succ_cons, List.drop_zero]
      repeat (first | (refine nsettle_skip (by rfl) (fun _ => by rfl) ?_; (simp only [Act.put, List.setIfInBounds_toArray, List.set_cons_zero, List.set_cons_succ])) | (refine' nsettle_run (by rfl) (fun _ _ => Below.refl _ _) (fun _ => by rfl) ?_ ?_; rotate_left; (focus (intro ρ w hS hF hP; (try dsimp only at hS); go_split_ands; go_simp; try with_reducible rfl)); (simp only [Act.put, List.setIfInBounds_toArray, List.set_cons_zero, List.set_cons_succ])))
      (refine nsettle_known (FSl 1 1 [.int .i64 (b : Int)]) (by rfl) (by rfl) (by rfl) (fun _ => by rfl)  ?_ ?_; (focus (intro ρ w hS hF hP K hK; (simp only [Act.put, List.setIfInBounds_toArray, List.set_cons_zero, List.set_cons_succ] at hK); go_simp; exact hK _ _ (SlV.lit w [.int .i64 (b : Int)] 3 1 1 rfl (by decide)) (keepS _ (hS.1.alloc _)) (below_alloc (Below.refl _ _) _))); (simp only [Act.put, List.setIfInBounds_toArray, List.set_cons_zero, List.set_cons_succ]))
      (refine nsettle_mark (FPush w6 (Q + 1) 3 1 (.slice VB nx.length cb) (nx.length + 1) (ilist nx ++ [.int .i64 (b : Int)])) (by rfl) (by rfl) (by rfl) (fun _ => by rfl) ?_ ?_; (focus (intro ρ w hS hF hP K hK; refine oper_append (.tmp 58) (.tmp 61) (Q + 1) _ _ _ _ _ Tryd.underlying26 info_int rfl (by decide) (hR w (hP (by rfl))).1 (hF.1 (by rfl)) (by simp [Value.oneCell']) hn63 hn47 (hR w (hP (by rfl))).2 rfl rfl rfl ?_; intro v' w' hown hg hv _; exact hK v' w' ⟨w, hP (by rfl), hg, hown, hv.imp id fun e => ⟨_, Nat.le_refl _, e⟩⟩ (keepS _ (hS.1.trans ((Keeps.of_grown hg).mono fun i hi => hi.symm))))); (simp only [Act.put, List.setIfInBounds_toArray, List.set_cons_zero, List.set_cons_succ]))
      repeat (first | (refine nsettle_skip (by rfl) (fun _ => by rfl) ?_; (simp only [Act.put, List.setIfInBounds_toArray, List.set_cons_zero, List.set_cons_succ])) | (refine' nsettle_run (by rfl) (fun _ _ => Below.refl _ _) (fun _ => by rfl) ?_ ?_; rotate_left; (focus (intro ρ w hS hF hP; (try dsimp only at hS); go_split_ands; go_simp; try with_reducible rfl)); (simp only [Act.put, List.setIfInBounds_toArray, List.set_cons_zero, List.set_cons_succ])))
      refine nsettle_nil ?_
      intro ρ w7 hS hF
      obtain ⟨wa, ha1, ha2, ha3, ha4⟩ := hF 62 (FPush w6 (Q + 1) 3 1 (.slice VB nx.length cb) (nx.length + 1) (ilist nx ++ [.int .i64 (b : Int)])) (by repeat (first | exact List.mem_cons_self | apply List.mem_cons_of_mem))
      clear hF hS hS1 keepS hR
      dsimp only
      generalize ρ 61 = v61
      generalize ρ 62 = v4 at ha3 ha4 ⊢
      have hx4 : wa.grownBy w7 (irw (.slice VB nx.length cb) nx).v.ownBlock := ha2
      have ho4 : w7.ownsRow (Q + 1) 3 1 v4 (nx ++ [b]).length (ilist (nx ++ [b])) := by simpa [ilist, ints] using ha3
      have hB4 := ((HT.out.1.own.later ha1).put (i := a + 1) HT.out.2 ho4 hx4 ha4).1
      have hend : ∀ w8, Blk w8 (Q + 1 + 1) 26 (vs.set a v4) → w7.grownBy w8 (some (Q + 1 + 1)) → OwnTo (Q + 1) w2 (Tw (Q + 1 + 1) (tkR (.slice (some ⟨Q + 1, 0, none⟩) N N) (Gr.wl N []) (List.replicate N (.slice none 0 0)) (Gr.nl N []))) w8 (Q + 1 + 1) 26 (vs.set a v4) (tkR (.slice (some ⟨Q + 1, 0, none⟩) N N) (Gr.wl N (es.take (k + 1))) (vs.set a v4) (Gr.nl N (es.take (k + 1)))) := fun w8 b8 g8 => by
        have := (HT.out.1.later ha1).step ((HT.out.1.own.later ha1).put_to (i := a + 1) HT.out.2 ho4 hx4 ha4 b8 g8)
        have e := tkR_i (.slice (some ⟨Q + 1, 0, none⟩) N N) (Gr.wl N (es.take (k + 1))) vs (Gr.nl N (es.take k)) a v4 (nx ++ [b])
        rw [← HX.out.2.1] at e
        exact e ▸ this
      obtain ⟨V4, c4, rfl, -, -⟩ := own_slice ha3
      clear ha1 ha2 ha3 ha4 hx4 ho4
      have hva : a < vs.length := by omega
      refine wpl_set_blk hB4 a _ (by kernel_rfl) hva rfl rfl rfl rfl rfl rfl ?_
      intro w8 hB8 hg8
      have T8 := hend w8 hB8 hg8
      have HT8 := Lib.hid T8
      clear hB4 hB8 hg8 hend T8 HT
      go_wp2_with fail
      go_roundw
      case rel => exact ⟨k + 1, _, by omega, by go_num, by simpa using hvl, HT8.out⟩
      case measure => simp [intOf]; omega
    · obtain rfl : k = es.length := by omega
      rw [List.take_length] at hOk
      clear hA
      have hwlN : (Gr.wl N es).length = N := by simp [Gr.wl]
      have hbT := hO.below hOk.kp
      have hS0 := Gy.St.start hOk hbT hwlN
      have hwd : (Gr.wl N es) = wo N es [] := rfl
      rw [hwd] at hS0
      have HK3 := Lib.hid (And.intro hb02 (show Gy.T = Gy.T from rfl))
      obtain ⟨p, hp⟩ : ∃ p, p = wr.heap.size := ⟨_, rfl⟩
      rw [← hp] at hS0
      have HP := Lib.hid hp
      clear hwlN hbT hOk hwd hb02 hO HK
      go_wp2_with fail
      rw [← HP.out]
      generalize (wr.alloc (.cells #[.slice none 0 0] 90)) = wz at hS0 ⊢
      clear hp x2 hbw hk hlt
      go_loopw [67] (fun i wr => ∃ (k : Nat) (u : Value) (hl : List Nat), k ≤ N ∧ i = .int .i64 (k : Int) ∧ Hp.Ok hl ∧ hl.Nodup ∧ (∀ x, x ∈ hl ↔ x < k ∧ Gr.wt es [] x = 0) ∧ Gy.St w2 (Q + 1) (Q + 1) (Q + 1 + 1) p N vs wr (wo N es []) u hl (.slice none 0 0) [] (vs.zip (Gr.nl N es))) (fun i _ => N - (intOf i).toNat)
      case atStart => exact ⟨0, _, [], Nat.zero_le _, rfl, fun k _ h => by simp at h, List.nodup_nil, fun x => by simp, hS0⟩
      case round =>
        clear hS0
        obtain ⟨k, u, hl, hk, rfl, hOk, hnd, hmem, hS⟩ := hrel
        by_cases hlt : k < N
        · have c0 := own_cell hS.wt (j := k) (u := .int .i64 ((Gr.wt es [] k : Nat) : Int)) (by
            show (List.map _ _)[k]? = _
            rw [List.getElem?_map, show (wo N es [])[k]? = some ((Gr.wt es [] k : Nat) : Int) from Gr.map_get _ _ _ hlt]
            rfl)
          obtain ⟨U, hU⟩ : ∃ U, U = Gr.wt es [] k := ⟨_, rfl⟩
          rw [← hU] at c0
          have HU := Lib.hid hU
          have hlen := Gy.short hnd (fun x hx => Nat.lt_trans ((hmem x).1 hx).1 hlt)
          by_cases h0 : U = 0
          · subst h0
            have hpush := push_any wr (Q + 1) p u hl k hS.hp hOk (by omega)
            have HS := Lib.hid (And.intro hS (And.intro hnd hmem))
            clear hU hS hnd hmem hlen hOk
            go_wp2_with fail
            refine hpush.mono ?_
            rintro _ w5 ⟨rfl, u5, l5, hR5, hOk5, hpm5, hk5, hu5⟩
            have hS5 := HS.out.1.heap hR5 hk5 hu5
            have hnk : k ∉ hl := fun h => by have := ((HS.out.2.2 k).1 h).1; omega
            have HF := Lib.hid (And.intro hS5 (And.intro hOk5 (And.intro (hpm5.nodup_iff.2 (List.nodup_cons.2 ⟨hnk, HS.out.2.1⟩)) (show ∀ x, x ∈ l5 ↔ x < k + 1 ∧ Gr.wt es [] x = 0 from fun x => by
              rw [hpm5.mem_iff, List.mem_cons, HS.out.2.2 x]
              constructor
              · rintro (rfl | ⟨a, b⟩)
                · exact ⟨by omega, HU.out.symm⟩
                · exact ⟨by omega, b⟩
              · rintro ⟨a, b⟩
                by_cases e : x = k
                · exact .inl e
                · exact .inr ⟨by omega, b⟩))))
            clear hpush hR5 hOk5 hpm5 hk5 hu5 hS5 hnk c0
            go_wp2_with fail
            go_roundw
            case rel => exact ⟨k + 1, _, _, by omega, by go_num, HF.out.2.1, HF.out.2.2.1, HF.out.2.2.2, HF.out.1⟩
            case measure => simp [intOf]; omega
          · have g0 : ((U : Int) == 0) = false := by simp; omega
            have HF := Lib.hid (And.intro hS (And.intro hOk (And.intro hnd (show ∀ x, x ∈ hl ↔ x < k + 1 ∧ Gr.wt es [] x = 0 from fun x => by
              rw [hmem x]
              constructor
              · rintro ⟨a, b⟩; exact ⟨by omega, b⟩
              · rintro ⟨a, b⟩
                by_cases e : x = k
                · subst e; exact absurd (hU.trans b) h0
                · exact ⟨by omega, b⟩))))
            clear hU hS hnd hmem hlen hOk h0
            go_wp2_with fail
            go_roundw
            case rel => exact ⟨k + 1, _, _, by omega, by go_num, HF.out.2.1, HF.out.2.2.1, HF.out.2.2.2, HF.out.1⟩
            case measure => simp [intOf]; omega
        · obtain rfl : N = k := by omega
          have hmem' : ∀ x, x ∈ hl ↔ x < N ∧ Gr.rdy es [] x = true := fun x => by rw [hmem x, Gr.rdy_wt]; simp
          have H0 := Lib.hid (And.intro hS (And.intro hOk (And.intro hnd hmem')))
          clear hS hOk hnd hmem hmem'
          go_wp2_with fail
          obtain ⟨wy, rfl⟩ : ∃ wy : World, wy = wr := ⟨_, rfl⟩
          go_loopw [14] (fun o wr => ∃ (ls : List (List Nat)) (os : List Value) (u : Value) (hl : List Nat) (f : Nat), slLen o = ls.length ∧ Gy.L3 N es W ls os hl f ∧ Gy.St w2 (Q + 1) (Q + 1) (Q + 1 + 1) p N vs wr (wo N es ls.flatten) u hl o os (vs.zip (Gr.nl N es) ++ os.zip ls)) (fun o _ => N - slLen o)
          case atStart => exact ⟨[], [], u, hl, N, rfl, ⟨Gr.Good.nil N es, rfl, Nat.zero_le _, by simp, rfl, H0.out.2.1, H0.out.2.2.1, H0.out.2.2.2⟩, by simpa using H0.out.1⟩
          case round =>
            clear H0
            obtain ⟨ls, os, u, hl, f, hol, hL, hS⟩ := hrel
            have hrow := hS.hp.row
            obtain ⟨Au, cu, rfl, -, -⟩ := own_slice hrow
            obtain ⟨Ao, co, rfl, -, -⟩ := own_slice hS.ou
            have cp : wr.cell? ⟨p, 0, none⟩ = some (.slice Au hl.length cu) := by rw [hS.hp.blk.cell]; rfl
            by_cases hl0 : 0 < hl.length
            · have hne : hl ≠ [] := by intro e; rw [e] at hl0; simp at hl0
              have hlen := Gy.short hL.nd (fun x hx => ((hL.mem x).1 hx).1)
              have htake := htake_any wr (Q + 1) p _ hl W hS.hp (by omega) (by omega)
              obtain ⟨hr1, hr2, hr3⟩ := Gr.heap_round (w := W) hL.ok hL.nd hL.mem
              obtain ⟨a, ha⟩ : ∃ a, a = Gr.now N es W ls.flatten := ⟨_, rfl⟩
              obtain ⟨l1, hl1⟩ : ∃ l1, l1 = (Hp.take W hl).2 := ⟨_, rfl⟩
              rw [hr1, ← ha, ← hl1, hnats_ilist] at htake
              rw [← hl1] at hr2
              rw [← ha, ← hl1] at hr3
              have ha0 : 0 < a.length := by
                rw [ha]
                exact List.length_pos_iff.2 (fun e => hne ((Gr.heap_nil hL.mem (by omega)).2 e))
              have haW : a.length ≤ 16 := by rw [ha]; exact Nat.le_trans (Gr.now_length _ _ _ _) hW2
              have H1 := Lib.hid (And.intro hS (And.intro hL (And.intro ha (And.intro hr2 (And.intro hr3 hne)))))
              clear hS hL ha hr1 hr2 hr3 hl1 hne hrow hlen
              go_wp2_with fail
              refine htake.mono ?_
              rintro _ w3 ⟨v, rfl, hv3, u3, hR3, hk3, hu3⟩
              have hS3 := H1.out.1.heap hR3 hk3 (.inl hu3)
              have hN3 : SlN w3 v a := SlN.of_own hv3
              have hf3 : FarU (Gy.T (Q + 1) p u3 (.slice Ao os.length co)) v a := FarU.new (new_own hv3) (fun k hk => H1.out.1.tlt k (hk.imp id (Or.imp id (Or.imp (fun e => hu3 ▸ e) id))))
              obtain ⟨gv, cv, rfl, hvc, hvm, -⟩ := own_addr hv3 ha0
              have hS4 := hS3.more hN3 hf3
              have H4 := Lib.hid hS4
              clear htake hv3 hR3 hk3 hu3 hS3 hN3 hf3 hS4 cp
              go_wp2_with fail
              go_loopw [85] (fun i wr => ∃ (k : Nat) (u : Value) (hl : List Nat), k ≤ a.length ∧ i = .int .i64 (k : Int) ∧ Hp.Ok hl ∧ Gr.HeapP N es ls.flatten a k hl ∧ Gy.St w2 (Q + 1) (Q + 1) (Q + 1 + 1) p N vs wr (wo N es (ls.flatten ++ a.take k)) u hl (.slice Ao os.length co) os ((.slice (some ⟨gv, 0, none⟩) a.length cv, a) :: (vs.zip (Gr.nl N es) ++ os.zip ls))) (fun i _ => a.length - (intOf i).toNat)
              case atStart => exact ⟨0, u3, l1, Nat.zero_le _, rfl, H1.out.2.2.2.1, H1.out.2.2.2.2.1, by simpa using H4.out⟩
              case round =>
                clear H4
                obtain ⟨k, u, hl, hk, rfl, hOk, hP, hS⟩ := hrel
                by_cases hka : k < a.length
                · obtain ⟨n, hn⟩ : ∃ n, a[k]? = some n := ⟨_, List.getElem?_eq_getElem hka⟩
                  have hnow : n ∈ Gr.now N es W ls.flatten := by rw [← H1.out.2.2.1]; exact List.mem_of_getElem? hn
                  obtain ⟨hnN, hnr⟩ := Gr.now_mem hnow
                  obtain ⟨hno, hnp⟩ := Gr.rdy_iff.1 hnr
                  have hgd : Gr.Good N es (ls.flatten ++ a.take k) := by rw [H1.out.2.2.1]; exact H1.out.2.1.good.part k (by rw [← H1.out.2.2.1]; omega)
                  have hno2 : n ∉ ls.flatten ++ a.take k := by
                    have := (H1.out.2.1.good.part (w := W) (k + 1) (by rw [← H1.out.2.2.1]; omega)).nd
                    rw [← H1.out.2.2.1, Gr.take_snoc hn, ← List.append_assoc] at this
                    exact fun h => (List.nodup_append.1 this).2.2 n h n (by simp) rfl
                  have hnp2 : ∀ e ∈ es, e.2 = n → e.1 ∈ ls.flatten ++ a.take k := fun e he em => List.mem_append_left _ (hnp e he em)
                  obtain ⟨D, hD⟩ : ∃ D, D = ls.flatten ++ a.take k := ⟨_, rfl⟩
                  obtain ⟨nx, hnx⟩ : ∃ nx, nx = Gr.next es n := ⟨_, rfl⟩
                  have hnl : (Gr.nl N es)[n]? = some nx := by rw [hnx]; exact Gr.map_get _ _ _ hnN
                  obtain ⟨vn, hvn⟩ : ∃ v, vs[n]? = some v := ⟨_, List.getElem?_eq_getElem (by omega)⟩
                  have hin : (vn, nx) ∈ vs.zip (Gr.nl N es) := List.mem_of_getElem? (List.getElem?_zip_eq_some.2 ⟨hvn, hnl⟩)
                  have c1 := (hS.far _ List.mem_cons_self).1.get0 hn
                  have c2 : wr.cell? ⟨Q + 1 + 1, n, none⟩ = some vn := (hS.nb.cell n).trans hvn
                  have hfn : SlN wr vn nx := (hS.far _ (List.mem_cons_of_mem _ (List.mem_append_left _ hin))).1
                  obtain ⟨VB, cb, rfl, hcb, hcm⟩ := hfn.form
                  clear hfn
                  have hnxl : nx.length ≤ 1099511627776 := by
                    rw [hnx]
                    unfold Gr.next
                    rw [List.length_map]
                    exact Nat.le_trans (List.length_filter_le _ _) hle
                  have e0 : wo N es D = Gr.wj N es D n 0 := (Gr.wj_zero N es D n).symm
                  have hQ0 := hP.begin hn
                  rw [← hD] at hgd hno2 hnp2 hS
                  rw [e0] at hS
                  have HG := Lib.hid (And.intro hn (And.intro hnow (And.intro hgd (And.intro hno2 (And.intro hnp2 (And.intro hD (And.intro hnx hin)))))))
                  have H5 := Lib.hid (And.intro hS (And.intro hOk hQ0))
                  clear hn hnow hnr hno hnp hgd hno2 hnp2 hD hnx hnl hvn hin hS hOk hP hQ0 e0
                  go_wp2_with fail
                  clear c1 c2
                  go_loopw [94] (fun i wr => ∃ (j : Nat) (u : Value) (hl : List Nat), j ≤ nx.length ∧ i = .int .i64 (j : Int) ∧ Hp.Ok hl ∧ Gr.HeapQ N es ls.flatten a k n j hl ∧ Gy.St w2 (Q + 1) (Q + 1) (Q + 1 + 1) p N vs wr (Gr.wj N es D n j) u hl (.slice Ao os.length co) os ((.slice (some ⟨gv, 0, none⟩) a.length cv, a) :: (vs.zip (Gr.nl N es) ++ os.zip ls))) (fun i _ => nx.length - (intOf i).toNat)
                  case atStart => exact ⟨0, u, hl, Nat.zero_le _, rfl, H5.out.2.1, H5.out.2.2, H5.out.1⟩
                  case round =>
                    clear H5
                    obtain ⟨j, u, hl, hj, rfl, hOk, hHQ, hS⟩ := hrel
                    by_cases hjl : j < nx.length
                    · obtain ⟨m, hm⟩ : ∃ m, nx[j]? = some m := ⟨_, List.getElem?_eq_getElem hjl⟩
                      have hm' : (Gr.next es n)[j]? = some m := by rw [← HG.out.2.2.2.2.2.2.1]; exact hm
                      have hmN : m < N := (HES.out _ (Gr.mem_next.1 (List.mem_of_getElem? hm'))).2
                      have hfn : SlN wr (.slice VB nx.length cb) nx := (hS.far _ (List.mem_cons_of_mem _ (List.mem_append_left _ HG.out.2.2.2.2.2.2.2))).1
                      obtain ⟨gb, go, hVB, hgl, c1⟩ := hfn.get hm
                      clear hfn
                      subst hVB
                      have hwl : (Gr.wj N es D n j).length = N := by simp [Gr.wj]
                      have r0 := hS.wt
                      obtain ⟨X, hX⟩ : ∃ X : Int, X = ((Gr.wt es D m : Nat) : Int) - ((((Gr.next es n).take j).count m : Nat) : Int) := ⟨_, rfl⟩
                      have c0 := own_cell r0 (j := m) (u := .int .i64 X) (by
                        show (List.map _ _)[m]? = _
                        rw [List.getElem?_map, Gr.wj_get hmN, hX]
                        rfl)
                      have hX0 : 0 ≤ X := by
                        have h1 := Gr.count_le HG.out.2.2.2.1 es m
                        have h2 : ((Gr.next es n).take j).count m ≤ (Gr.next es n).count m := List.Sublist.count_le m (List.take_sublist _ _)
                        omega
                      have hX1 : X ≤ 1099511627776 := by
                        have := Gr.wt_le es D m
                        omega
                      have f0 := row_frozen r0 m
                      have hr9 := row_set r0 m (.int .i64 (X - 1))
                      have hg9 := grown_setCell wr (Q + 1) m (.int .i64 (X - 1))
                      have H9 := Lib.hid (And.intro hS (And.intro hOk (And.intro hHQ (And.intro hX hm'))))
                      clear hS hOk hHQ hX hm hm' r0 hwl
                      go_upto_region 31 with (fail)
                      obtain ⟨w9, hw9⟩ : ∃ w9, w9 = wr.setCell ⟨Q + 1, m, none⟩ (.int .i64 (X - 1)) := ⟨_, rfl⟩
                      rw [← hw9] at hr9 hg9 ⊢
                      have hws : Gr.wj N es D n (j + 1) = (Gr.wj N es D n j).set m (X - 1) := by rw [Gr.wj_step H9.out.2.2.2.2, H9.out.2.2.2.1]
                      have c2 := own_cell hr9 (j := m) (u := .int .i64 (X - 1)) (List.getElem?_set_self (by rw [ints_length]; simp [Gr.wj]; exact hmN))
                      rw [← ints_set, ← hws] at hr9
                      have hS9 := H9.out.1.wait hr9 hg9
                      clear hr9 hg9 hw9 c0 c1 f0 hws
                      generalize hY : X - 1 = Y at c2 ⊢
                      have HY := Lib.hid hY
                      have HS9 := Lib.hid hS9
                      have hlen := Gy.short H9.out.2.2.1.1 (fun x hx => ((H9.out.2.2.1.2 x).1 hx).1.1)
                      clear hY hX0 hX1 hS9
                      by_cases hy : Y = 0
                      · subst hy
                        have hpush := push_any w9 (Q + 1) p u hl m HS9.out.hp H9.out.2.1 (by omega)
                        clear hlen
                        go_wp2_with fail
                        refine hpush.mono ?_
                        rintro _ w5 ⟨rfl, u5, l5, hR5, hOk5, hpm5, hk5, hu5⟩
                        have hHQ' := H9.out.2.2.1.push (by rw [← HG.out.2.2.2.2.2.1]; exact HG.out.2.2.1) (fun e he => (HES.out e he).2) (by rw [← HG.out.2.2.2.2.2.1]; exact HG.out.2.2.2.1) (by rw [← HG.out.2.2.2.2.2.1]; exact HG.out.2.2.2.2.1) H9.out.2.2.2.2 (by rw [H1.out.2.2.1]; exact Gr.next_out HG.out.2.1 (List.mem_of_getElem? H9.out.2.2.2.2)) (by rw [← HG.out.2.2.2.2.2.1]; have := H9.out.2.2.2.1; have := HY.out; omega) hpm5
                        have HF := Lib.hid (And.intro (HS9.out.heap hR5 hk5 hu5) (And.intro hOk5 hHQ'))
                        clear hpush hR5 hOk5 hpm5 hk5 hu5 hHQ' c2
                        go_wp2_with fail
                        go_roundw
                        case rel => exact ⟨j + 1, _, _, by omega, by go_num, HF.out.2.1, HF.out.2.2, HF.out.1⟩
                        case measure => simp [intOf]; omega
                      · have gy : (Y == 0) = false := by simpa using hy
                        have hHQ' := H9.out.2.2.1.stay (by rw [← HG.out.2.2.2.2.2.1]; exact HG.out.2.2.1) (fun e he => (HES.out e he).2) (by rw [← HG.out.2.2.2.2.2.1]; exact HG.out.2.2.2.1) (by rw [← HG.out.2.2.2.2.2.1]; exact HG.out.2.2.2.2.1) H9.out.2.2.2.2 (by rw [← HG.out.2.2.2.2.2.1]; exact fun h => hy (by have := H9.out.2.2.2.1; have := HY.out; omega))
                        have HF := Lib.hid hHQ'
                        clear hHQ' hy hlen
                        go_wp2_with fail
                        go_roundw
                        case rel => exact ⟨j + 1, _, _, by omega, by go_num, H9.out.2.1, HF.out, HS9.out⟩
                        case measure => simp [intOf]; omega
                    · obtain rfl : j = nx.length := by omega
                      have hnn : nx.length = (Gr.next es n).length := by rw [HG.out.2.2.2.2.2.2.1]
                      rw [hnn] at hHQ hS
                      have e1 : Gr.wj N es D n (Gr.next es n).length = wo N es (D ++ [n]) := Gr.wj_full HG.out.2.2.2.1
                      have e2 : D ++ [n] = ls.flatten ++ a.take (k + 1) := by rw [HG.out.2.2.2.2.2.1, Gr.take_snoc HG.out.1, List.append_assoc]
                      rw [e1, e2] at hS
                      have hP' := hHQ.finish HG.out.1 (by rw [← HG.out.2.2.2.2.2.1]; exact HG.out.2.2.2.1)
                      have HF := Lib.hid (And.intro hS (And.intro hOk hP'))
                      clear hS hOk hP' hHQ e1 e2 hnn
                      go_wp2_with fail
                      go_roundw
                      case rel => exact ⟨k + 1, _, _, by omega, by go_num, HF.out.2.1, HF.out.2.2, HF.out.1⟩
                      case measure => simp [intOf]; omega
                · obtain rfl : k = a.length := by omega
                  rw [List.take_length] at hS
                  have hPn := hP
                  rw [H1.out.2.2.1] at hPn
                  obtain ⟨f', hL', hlsN⟩ := H1.out.2.1.next (by omega) H1.out.2.2.2.2.2 (.slice (some ⟨gv, 0, none⟩) a.length a.length) hOk hPn
                  rw [← H1.out.2.2.1] at hL'
                  have hos : os.length = ls.length := H1.out.2.1.len
                  have hcl := clipn_any wr ⟨gv, 0, none⟩ a.length cv hvc hvm
                  have n63 : os.length + 1 ≤ maxLen := by unfold maxLen; omega
                  have n47 : (os.length + 1) * 24 ≤ 140737488355328 := by omega
                  have hrow := hS.ou
                  have hbase := hS.hp.base
                  have H6 := Lib.hid (And.intro hS (And.intro hL' (And.intro hlsN hos)))
                  clear hS hL' hlsN hos hP hPn hOk
                  go_wp2_with fail
                  refine hcl.mono ?_
                  rintro _ _ ⟨rfl, rfl⟩
                  go_wp2_with (first | (at_builtin; refine wp_push_at _ _ _ _ (by first | rfl | simp) _ _ _ _ _ _ Tryd.underlying49 info_sint rfl (by decide) hrow [.slice (some ⟨gv, 0, none⟩) a.length a.length] rfl (by simp [Value.oneCell']) n63 n47 hbase rfl rfl rfl rfl ?_; intro v7 w7 hr7 hg7 hv7 hb7) | fail)
                  have hvc2 := (H6.out.1.far _ List.mem_cons_self).1.clip
                  have hvf2 : FarU (Gy.T (Q + 1) p u (.slice Ao os.length co)) (.slice (some ⟨gv, 0, none⟩) a.length a.length) a := (H6.out.1.far _ List.mem_cons_self).2
                  have hlv7 := own_len hr7
                  have hS7 := (H6.out.1.more hvc2 hvf2).out (fs' := vs.zip (Gr.nl N es) ++ (os ++ [Value.slice (some ⟨gv, 0, none⟩) a.length a.length]).zip (ls ++ [a])) hr7 hg7 (hv7.imp id fun e => ⟨_, Nat.le_succ _, e⟩) (fun x hx => by
                    rw [List.zip_append H6.out.2.2.2] at hx
                    simp only [List.zip_cons_cons, List.zip_nil_right, List.mem_append, List.mem_singleton] at hx
                    rcases hx with hx | hx | rfl
                    · exact List.mem_cons_of_mem _ (List.mem_cons_of_mem _ (List.mem_append_left _ hx))
                    · exact List.mem_cons_of_mem _ (List.mem_cons_of_mem _ (List.mem_append_right _ hx))
                    · exact List.mem_cons_self)
                  have efl : ls.flatten ++ a = (ls ++ [a]).flatten := by simp
                  rw [efl] at hS7
                  have HF := Lib.hid (And.intro hS7 H6.out.2.1)
                  have hlsn := H6.out.2.2.1
                  have hosn := H6.out.2.2.2
                  clear hr7 hg7 hv7 hb7 hvc2 hvf2 hS7 efl hcl hrow hbase
                  go_roundw
                  case rel => exact ⟨ls ++ [a], _, u, _, f', by rw [hlv7]; simp [hosn], HF.out.2, HF.out.1⟩
                  case measure => rw [hlv7]; simp only [slLen]; omega
            · have hnil : hl = [] := List.eq_nil_of_length_eq_zero (by omega)
              have hall : ls = Gr.all N es W := hL.done (by omega) hnil
              have hz : hl.length = 0 := by omega
              have HF := Lib.hid (And.intro hS (And.intro hL hall))
              clear hS hL hall hrow hnil hl0
              go_wp2_with fail
              go_ret2
              refine ⟨_, os, rfl, own_base HF.out.1.ou (by have := HQ.out; omega), ⟨?_, ?_⟩, ?_⟩
              · rw [← HF.out.2.2]; exact HF.out.2.1.len
              · rw [← HF.out.2.2]; exact fun x hx => (HF.out.1.far x (List.mem_append_right _ hx)).1
              · exact HK3.out.1.trans (HF.out.1.below.mono (by have := HQ.out; omega))
end Go.Proofs.YtfjmhmfkhgjnhaaDoor


namespace Go.Proofs.YtfjmhmfkhgjnhaaDoor
set_option linter.unusedVariables false
set_option linter.unusedSimpArgs false
set_option maxRecDepth 100000
open Go.RowKit

namespace Gy
def err (n : Int) (es : List Gr.Er) (k : Int) : Int := if Gr.wrong n es ≠ 0 then Gr.wrong n es else if k < 1 ∨ 16 < k then 2 else 0
def res (n : Int) (es : List Gr.Er) (k : Int) : List (List Nat) := if err n es k = 0 then Gr.all n.toNat (Gr.nat es) k.toNat else []
theorem err_zero {n : Int} {es : List Gr.Er} {k : Int} : err n es k = 0 ↔ Gr.wrong n es = 0 ∧ 1 ≤ k ∧ k ≤ 16 := by
  unfold err
  by_cases h : Gr.wrong n es = 0
  · rw [if_neg (by simpa using h)]
    by_cases h2 : k < 1 ∨ 16 < k
    · rw [if_pos h2]
      constructor
      · intro h; cases h
      · rintro ⟨-, a, b⟩; omega
    · rw [if_neg h2]
      exact ⟨fun _ => ⟨h, by omega, by omega⟩, fun _ => rfl⟩
  · rw [if_pos h]
    exact ⟨fun e => absurd e h, fun e => absurd e.1 h⟩
theorem Rs.nil (w : World) : Rs w [] [] := ⟨rfl, fun x hx => by simp at hx⟩
theorem Rs.below {w w' : World} {os : List Value} {ls : List (List Nat)} (h : Rs w os ls) (hb : Below w.heap.size w w') : Rs w' os ls := ⟨h.1, fun x hx => (h.2 x hx).below hb⟩
theorem Rs.get {w : World} {os : List Value} {ls : List (List Nat)} (h : Rs w os ls) {i : Nat} {l : List Nat} (hi : ls[i]? = some l) : ∃ v, os[i]? = some v ∧ SlN w v l := by
  obtain ⟨hl, -⟩ := List.getElem?_eq_some_iff.1 hi
  have hv : os[i]? = some (os[i]'(by rw [h.1]; exact hl)) := List.getElem?_eq_getElem _
  exact ⟨_, hv, h.2 (_, l) (List.mem_of_getElem? (List.getElem?_zip_eq_some.2 ⟨hv, hi⟩))⟩
end Gy
theorem Gr.wrong_none {n : Int} {es : List Gr.Er} (h : Gr.wrong n es = 0) : ∃ N : Nat, n = (N : Int) ∧ N ≤ 200 ∧ (∀ e ∈ Gr.nat es, e.1 < N ∧ e.2 < N) ∧ (Gr.nat es).length = es.length ∧ ercs es = edcs (Gr.nat es) ∧ (Gr.take N (Gr.nat es)).length = N := by
  unfold Gr.wrong at h
  by_cases hok : Gr.okG n es = true
  · rw [if_pos hok] at h
    obtain ⟨N, rfl, h1, h2, h3, -⟩ := Gr.nat_ok hok
    refine ⟨N, rfl, h1, h2, h3, ercs_nat hok, ?_⟩
    have hg := (Gr.good_take N (Gr.nat es)).length
    rw [Int.toNat_natCast] at h
    split at h
    · cases h
    · omega
  · rw [if_neg hok] at h
    cases h

set_option maxHeartbeats 4000000 in
theorem rounds_any (n : Int) (es : List Gr.Er) (k : Int) (w : World) (A : Option Addr) (c : Nat) (hA : SlV w 2 (.slice A es.length c) es.length (ercs es)) (hle : es.length ≤ 1099511627776) (hT : Tab w) :
    Calls Tryd.prog 24 #[.agg #[.int .i64 n, .slice A es.length c], .int .i64 k] w fun e w' => ∃ u os, e = .returned (.tuple #[u, .int .i64 (Gy.err n es k)]) ∧ w'.ownsRow w.heap.size 26 1 u os.length os ∧ Gy.Rs w' os (Gy.res n es k) ∧ Below w.heap.size w w' := by
  have hwr : ∀ w', Below w.heap.size w w' → Calls Tryd.prog 29 #[.agg #[.int .i64 n, .slice A es.length c]] w' fun e w'' => e = .returned (.int .i64 (Gr.wrong n es)) ∧ Below w'.heap.size w' w'' := fun w' hb =>
    wrong_any n es w' A c (hA.below hb) hle (fun j hj => (hb.cell (p := ⟨0, j, none⟩) hT.lt).trans (hT j hj))
  by_cases he : Gy.err n es k = 0
  · obtain ⟨h0, k1, k2⟩ := Gy.err_zero.1 he
    obtain ⟨N, rfl, hN, hes, hln, hcs, -⟩ := Gr.wrong_none h0
    obtain ⟨K, rfl⟩ := Int.eq_ofNat_of_zero_le (show 0 ≤ k by omega)
    have := rounds_core N (Gr.nat es) K w A c hN hes (by omega) (by omega) (by rw [hln, ← hcs]; exact hA) (by omega) (by rw [hln]; rw [h0] at hwr; exact hwr)
    rw [hln] at this
    unfold Gy.res
    rw [he, if_pos rfl]
    exact this
  · have hres : Gy.res n es k = [] := by unfold Gy.res; rw [if_neg he]
    have x0 := Blk.new w 24 [.int .i64 n, .slice A es.length c]
    have hb0 : Below w.heap.size w (w.alloc (.cells #[.int .i64 n, .slice A es.length c] 24)) := below_alloc (Below.refl _ _) _
    have hwr1 := hwr _ hb0
    obtain ⟨E, hE⟩ : ∃ E, E = Gy.err n es k := ⟨_, rfl⟩
    obtain ⟨R, hR⟩ : ∃ R, R = Gr.wrong n es := ⟨_, rfl⟩
    have hER : E = if R ≠ 0 then R else if k < 1 ∨ 16 < k then 2 else 0 := by rw [hE, hR]; rfl
    rw [hres, ← hE]
    rw [← hR] at hwr1
    have he' : E ≠ 0 := by rw [hE]; exact he
    clear he hres hwr hE hR hA
    go_enter Tryd.func24, Tryd.ntmps24
    go_upto_region 1 with (fail)
    generalize (w.alloc (.cells #[.int .i64 n, .slice A es.length c] 24)) = V0 at x0 hb0 hwr1 ⊢
    have d0 : V0.cell? ⟨w.heap.size, 0, none⟩ = some (.int .i64 n) := (x0.cell 0).trans rfl
    have d1 : V0.cell? ⟨w.heap.size, 1, none⟩ = some (.slice A es.length c) := (x0.cell 1).trans rfl
    have HE := Lib.hid hER
    have HE' := Lib.hid he'
    clear hER he'
    go_wp2_with fail
    refine hwr1.mono ?_
    rintro _ W0 ⟨rfl, hbW⟩
    have HB := Lib.hid (below_next hbW hb0)
    clear hwr1 hb0 hbW x0 d0 d1
    by_cases h0 : R = 0
    · subst h0
      have hE2 := HE.out
      rw [if_neg (by simp)] at hE2
      have hk : k < 1 ∨ 16 < k := Decidable.byContradiction fun h => HE'.out (by rw [hE2, if_neg h])
      rw [if_pos hk] at hE2
      subst hE2
      clear HE
      rcases k1 : decide (k < 1) with _ | _
      · have k2 : decide (16 < k) = true := decide_eq_true (hk.resolve_left (of_decide_eq_false k1))
        clear hk
        go_wp2_with fail
        go_ret2
        exact ⟨_, [], rfl, World.ownsRow_nil _ _ _ _, Gy.Rs.nil _, HB.out⟩
      · clear hk
        go_wp2_with fail
        go_ret2
        exact ⟨_, [], rfl, World.ownsRow_nil _ _ _ _, Gy.Rs.nil _, HB.out⟩
    · have g0 : (R != 0) = true := by simpa using h0
      have hE2 := HE.out
      rw [if_pos h0] at hE2
      subst hE2
      clear HE HE' h0
      go_wp2_with fail
      go_ret2
      exact ⟨_, [], rfl, World.ownsRow_nil _ _ _ _, Gy.Rs.nil _, HB.out⟩
end Go.Proofs.YtfjmhmfkhgjnhaaDoor


namespace Go.Proofs.YtfjmhmfkhgjnhaaDoor
set_option linter.unusedVariables false
set_option linter.unusedSimpArgs false
set_option maxRecDepth 100000
open Go.RowKit

theorem alive6_plain : Gy.err 4 [(2, 0)] 2 = 0 ∧ Gy.res 4 [(2, 0)] 2 = [[1, 2], [0, 3]] := by decide +kernel
theorem SlN.ints {w : World} {v : Value} {c : List Nat} (h : SlN w v c) : SlV w 1 v (c.map fun (x : Nat) => (x : Int)).length (ints .i64 (c.map fun (x : Nat) => (x : Int))) := by
  have := h
  unfold SlN at this
  rw [List.length_map]
  exact this

theorem alive6_any (w : World) (hT : Tab w) : Calls Tryd.prog 23 #[] w fun e w' => e = .returned (.bool true) ∧ Below w.heap.size w w' := by
  have hb0 : Below w.heap.size w (w.alloc (.cells #[.int .i64 2, .int .i64 0] 39)) := below_alloc (Below.refl _ _) _
  have hr := rounds_any 4 [(2, 0)] 2 (w.alloc (.cells #[.int .i64 2, .int .i64 0] 39)) (some ⟨w.heap.size, 0, none⟩) 1 (SlV.lit w (ercs [(2, 0)]) 39 2 1 rfl (by decide)) (by decide) (fun j hj => (hb0.cell (p := ⟨0, j, none⟩) hT.lt).trans (hT j hj))
  rw [alive6_plain.1, alive6_plain.2] at hr
  have HB := Lib.hid hb0
  clear hb0 hT
  go_enter Tryd.func23, Tryd.ntmps23
  go_wp2_with fail
  refine hr.mono ?_
  rintro _ w2 ⟨u, os, rfl, hrow, hR, hb2⟩
  have hb02 := below_next hb2 HB.out
  clear hr hb2
  obtain ⟨v0, v1, rfl⟩ : ∃ a b, os = [a, b] := by
    have h1 := hR.1
    rcases os with _ | ⟨a, _ | ⟨b, _ | ⟨c, os⟩⟩⟩ <;> simp at h1
    exact ⟨a, b, rfl⟩
  have h0 : SlN w2 v0 [1, 2] := hR.2 (v0, [1, 2]) (by simp)
  have h1 : SlN w2 v1 [0, 3] := hR.2 (v1, [0, 3]) (by simp)
  obtain ⟨g, c, rfl, hle, hm, -⟩ := own_addr hrow (by simp)
  unfold maxLen at hm
  have c0 := own_cell hrow (j := 0) (u := v0) rfl
  have c1 := own_cell hrow (j := 1) (u := v1) rfl
  have hgl := (hrow.lt g rfl).2
  obtain ⟨A0, k0, rfl, -, -⟩ := h0.form
  obtain ⟨A1, k1, rfl, -, -⟩ := h1.form
  have he0 : ∀ w', Below w2.heap.size w2 w' → ∀ v', SlV w' 1 v' 2 (ints .i64 [1, 2]) → Calls Tryd.prog 26 #[.slice A0 2 k0, v'] w' fun e w'' => e = .returned (.bool true) ∧ Below w2.heap.size w2 w'' := fun w' hb v' hv' =>
    (equal_i64 _ v' [1, 2] [1, 2] w' ((h0.below hb).ints) hv').mono fun e w'' ⟨h1, m, h2⟩ => ⟨h1, by rw [h2]; exact below_drewN hb m⟩
  have he1 : ∀ w', Below w2.heap.size w2 w' → ∀ v', SlV w' 1 v' 2 (ints .i64 [0, 3]) → Calls Tryd.prog 26 #[.slice A1 2 k1, v'] w' fun e w'' => e = .returned (.bool true) ∧ Below w2.heap.size w2 w'' := fun w' hb v' hv' =>
    (equal_i64 _ v' [0, 3] [0, 3] w' ((h1.below hb).ints) hv').mono fun e w'' ⟨h1, m, h2⟩ => ⟨h1, by rw [h2]; exact below_drewN hb m⟩
  have HS := Lib.hid (And.intro hb02 hrow)
  clear hR hrow h0 h1 hb02 HB
  go_wp2_with fail
  refine (he0 _ (below_alloc (Below.refl _ _) (.cells #[.int .i64 1, .int .i64 2] 3)) _ (SlV.lit w2 (ints .i64 [1, 2]) 3 1 2 rfl (by decide))).mono ?_
  rintro _ w3 ⟨rfl, hb3⟩
  have c1' : w3.cell? ⟨g, 1, none⟩ = some (.slice A1 2 k1) := (hb3.cell (p := ⟨g, 1, none⟩) hgl).trans c1
  have HB3 := Lib.hid hb3
  clear c0 c1 he0 hb3
  go_wp2_with fail
  refine (he1 _ (below_alloc HB3.out (.cells #[.int .i64 0, .int .i64 3] 3)) _ (SlV.lit w3 (ints .i64 [0, 3]) 3 1 2 rfl (by decide))).mono ?_
  rintro _ w4 ⟨rfl, hb4⟩
  have HB4 := Lib.hid (below_next hb4 HS.out.1)
  clear he1 hb4 c1'
  go_wp2
  go_ret
  exact ⟨rfl, HB4.out⟩
end Go.Proofs.YtfjmhmfkhgjnhaaDoor


namespace Go.Proofs.YtfjmhmfkhgjnhaaDoor.Gr
set_option linter.unusedVariables false
set_option linter.unusedSimpArgs false
set_option maxRecDepth 100000

theorem all_good (N : Nat) (es : List Ed) (w : Nat) (k : Nat) : Good N es ((all N es w).take k).flatten := by
  have := good_rounds (w := w) N [] (Good.nil N es) k
  rwa [List.nil_append] at this
theorem all_nodup (N : Nat) (es : List Ed) (w : Nat) : (all N es w).flatten.Nodup := by
  have := (all_good N es w (all N es w).length).nd
  rwa [List.take_length] at this
theorem all_at {N : Nat} {es : List Ed} {w k : Nat} {a : List Nat} (h : (all N es w)[k]? = some a) : a.length ≤ w ∧ a ≠ [] ∧ ∀ x ∈ a, x < N := by
  obtain ⟨ha, hne⟩ := rounds_at N [] k a h
  refine ⟨by rw [ha]; exact now_length _ _ _ _, hne, fun x hx => ?_⟩
  rw [ha] at hx
  exact (now_mem hx).1

/-- the round in which it is done -/
def rnd (ls : List (List Nat)) (x : Nat) : Nat := ls.findIdx (·.contains x)
theorem rnd_eq {ls : List (List Nat)} {k x : Nat} {a : List Nat} (hn : ls.flatten.Nodup) (h : ls[k]? = some a) (hx : x ∈ a) : rnd ls x = k := by
  unfold rnd
  obtain ⟨hk, rfl⟩ := List.getElem?_eq_some_iff.1 h
  rw [List.findIdx_eq hk]
  refine ⟨by simpa using hx, fun j hj => ?_⟩
  rw [Bool.eq_false_iff]
  intro hc
  have hc' : x ∈ ls[j] := by simpa using hc
  obtain ⟨-, hp⟩ := List.pairwise_flatten.1 hn
  have := (List.pairwise_iff_getElem.1 hp) j k (by omega) hk hj
  exact this x hc' x hx rfl
/-- what the map holds when those of D are told -/
def at_ (ls : List (List Nat)) (D : List Nat) (x : Int) : Int := if 0 ≤ x ∧ x.toNat ∈ D then ((rnd ls x.toNat + 1 : Nat) : Int) else 0
theorem at_nil (ls : List (List Nat)) : at_ ls [] = fun _ => 0 := by
  funext x
  simp [at_]
theorem at_out {ls : List (List Nat)} {D : List Nat} {n : Nat} (h : n ∉ D) : at_ ls D (n : Int) = 0 := by
  unfold at_
  rw [if_neg (by simpa using h)]
theorem at_in {ls : List (List Nat)} {D : List Nat} {n : Nat} (h : n ∈ D) : at_ ls D (n : Int) = ((rnd ls n + 1 : Nat) : Int) := by
  unfold at_
  rw [if_pos ⟨by omega, by simpa using h⟩]
  simp
theorem at_snoc {ls : List (List Nat)} {D a : List Nat} {k n : Nat} (hn : ls.flatten.Nodup) (h : ls[k]? = some a) (hx : n ∈ a) : (fun j => if j = (n : Int) then ((k : Int) + 1) else at_ ls D j) = at_ ls (D ++ [n]) := by
  funext j
  by_cases e : j = (n : Int)
  · subst e
    rw [if_pos rfl, at_in (by simp), rnd_eq hn h hx]
    omega
  · rw [if_neg e]
    unfold at_
    by_cases h0 : 0 ≤ j
    · have : j.toNat ≠ n := fun h => e (by omega)
      simp [h0, this]
    · simp [h0]
/-- none is done ahead of what it waits for -/
theorem rnd_order {N : Nat} {es : List Ed} {w : Nat} {e : Ed} (hw : 0 < w) (hT : (take N es).length = N) (he : e ∈ es) (h2 : e.2 < N) : rnd (all N es w) e.1 < rnd (all N es w) e.2 := by
  have hin := (all_full (es := es) hw hT).1 e.2 h2
  obtain ⟨a, ha, hea⟩ := List.mem_flatten.1 hin
  obtain ⟨k, hk⟩ := List.getElem?_of_mem ha
  obtain ⟨j, b, hjk, hj, hb⟩ := all_order hk hea e he rfl
  have hn := all_nodup N es w
  rw [rnd_eq hn hk hea, rnd_eq hn hj hb]
  exact hjk
theorem short_flat : ∀ {ls : List (List Nat)}, (∀ a ∈ ls, a ≠ []) → ls.length ≤ ls.flatten.length
  | [], _ => Nat.le_refl _
  | a :: ls, h => by
    have h1 := List.length_pos_iff.2 (h a List.mem_cons_self)
    have h2 := short_flat (ls := ls) (fun b hb => h b (List.mem_cons_of_mem _ hb))
    rw [List.flatten_cons, List.length_append, List.length_cons]
    omega
theorem all_short (N : Nat) (es : List Ed) (w : Nat) : (all N es w).length ≤ N := by
  have h1 := (all_good N es w (all N es w).length).length
  rw [List.take_length] at h1
  refine Nat.le_trans (short_flat fun a ha => ?_) h1
  obtain ⟨k, hk⟩ := List.getElem?_of_mem ha
  exact (all_at hk).2.1
end Go.Proofs.YtfjmhmfkhgjnhaaDoor.Gr


namespace Go.Proofs.YtfjmhmfkhgjnhaaDoor
set_option linter.unusedVariables false
set_option linter.unusedSimpArgs false
set_option maxRecDepth 100000
open Go.RowKit

set_option maxHeartbeats 4000000 in
theorem sort_any (n : Int) (es : List Gr.Er) (w : World) (A : Option Addr) (c : Nat) (hA : SlV w 2 (.slice A es.length c) es.length (ercs es)) (hle : es.length ≤ 1099511627776) (hT : Tab w) :
    Calls Tryd.prog 25 #[.agg #[.int .i64 n, .slice A es.length c]] w fun e w' => ∃ v, e = .returned (.tuple #[v, .int .i64 (Gr.wrong n es)]) ∧ (Gr.wrong n es ≠ 0 → v = .slice none 0 0) ∧ (Gr.wrong n es = 0 → w'.ownsRow w.heap.size 3 1 v (Gr.take n.toNat (Gr.nat es)).length (ilist (Gr.take n.toNat (Gr.nat es)))) ∧ Below w.heap.size w w' := by
  have x0 := Blk.new w 24 [.int .i64 n, .slice A es.length c]
  have hb0 : Below w.heap.size w (w.alloc (.cells #[.int .i64 n, .slice A es.length c] 24)) := below_alloc (Below.refl _ _) _
  have hTb : ∀ w', Below w.heap.size w w' → Tab w' := fun w' hb j hj => (hb.cell (p := ⟨0, j, none⟩) hT.lt).trans (hT j hj)
  have hwr : ∀ w', Below w.heap.size w w' → Calls Tryd.prog 29 #[.agg #[.int .i64 n, .slice A es.length c]] w' fun e w'' => e = .returned (.int .i64 (Gr.wrong n es)) ∧ Below w'.heap.size w' w'' := fun w' hb => wrong_any n es w' A c (hA.below hb) hle (hTb w' hb)
  have htk : Gr.wrong n es = 0 → ∀ w', Below w.heap.size w w' → Calls Tryd.prog 54 #[.agg #[.int .i64 n, .slice A es.length c]] w' fun e w'' => ∃ u, e = .returned u ∧ w''.ownsRow w'.heap.size 3 1 u (Gr.take n.toNat (Gr.nat es)).length (ilist (Gr.take n.toNat (Gr.nat es))) ∧ Below w'.heap.size w' w'' := fun h0 w' hb => by
    have hok : Gr.okG n es = true := by
      cases h : Gr.okG n es with
      | true => rfl
      | false =>
        unfold Gr.wrong at h0
        rw [h] at h0
        cases h0
    obtain ⟨N, rfl, hN, hes, hln, -⟩ := Gr.nat_ok hok
    have h4 := hA.below hb
    rw [ercs_nat hok, ← hln] at h4
    have := take_any N (Gr.nat es) w' A c hN hes h4 (by omega) (hTb w' hb)
    rw [hln] at this
    exact this
  obtain ⟨R, hR⟩ : ∃ R, R = Gr.wrong n es := ⟨_, rfl⟩
  rw [← hR] at hwr htk ⊢
  generalize Gr.take n.toNat (Gr.nat es) = L at htk ⊢
  clear hR hA hTb hT
  go_enter Tryd.func25, Tryd.ntmps25
  go_upto_region 1 with (fail)
  generalize (w.alloc (.cells #[.int .i64 n, .slice A es.length c] 24)) = W0 at x0 hb0 ⊢
  have d0 : W0.cell? ⟨w.heap.size, 0, none⟩ = some (.int .i64 n) := (x0.cell 0).trans rfl
  have d1 : W0.cell? ⟨w.heap.size, 1, none⟩ = some (.slice A es.length c) := (x0.cell 1).trans rfl
  go_wp2_with fail
  refine (hwr W0 hb0).mono ?_
  rintro e w1 ⟨rfl, hb1⟩
  have x1 := x0.below hb1
  have c0 : w1.cell? ⟨w.heap.size, 0, none⟩ = some (.int .i64 n) := (x1.cell 0).trans rfl
  have c1 : w1.cell? ⟨w.heap.size, 1, none⟩ = some (.slice A es.length c) := (x1.cell 1).trans rfl
  have hb01 := below_next hb1 hb0
  clear d0 d1 x0 x1 hwr hb1 hb0
  by_cases h0 : R = 0
  · have hk := htk h0 w1 hb01
    subst h0
    clear htk
    have HB := Lib.hid hb01
    clear hb01
    go_wp2_with fail
    refine hk.mono ?_
    rintro e w2 ⟨u, rfl, ho, hb2⟩
    obtain ⟨A', c', rfl, -, -⟩ := own_slice ho
    have HE := Lib.hid (And.intro (own_base ho HB.out.size) (below_next hb2 HB.out))
    clear ho hb2 hk c0 c1
    go_wp2_with fail
    go_ret2
    exact ⟨_, rfl, HE.out.1, HE.out.2⟩
  · have g0 : (R != 0) = true := by simpa using h0
    have HE := Lib.hid (And.intro h0 hb01)
    clear htk h0 hb01 c0 c1
    go_wp2_with fail
    go_ret2
    exact ⟨_, rfl, fun _ => rfl, fun h => absurd h HE.out.1, HE.out.2⟩
end Go.Proofs.YtfjmhmfkhgjnhaaDoor


namespace Go.Proofs.YtfjmhmfkhgjnhaaDoor
set_option linter.unusedVariables false
set_option linter.unusedSimpArgs false
set_option maxRecDepth 100000

def rv (l : List Int) (k : Nat) : List Int := (List.range l.length).map fun i => if i < k ∨ l.length ≤ i + k then l.getD (l.length - 1 - i) 0 else l.getD i 0
theorem rv_length (l : List Int) (k : Nat) : (rv l k).length = l.length := by simp [rv]
theorem rv_get (l : List Int) (k i : Nat) (h : i < l.length) : (rv l k)[i]? = some (if i < k ∨ l.length ≤ i + k then l.getD (l.length - 1 - i) 0 else l.getD i 0) := by
  unfold rv
  rw [List.getElem?_map, List.getElem?_range h]
  rfl
theorem rv_zero (l : List Int) : rv l 0 = l := by
  apply List.ext_getElem?
  intro i
  by_cases h : i < l.length
  · rw [rv_get l 0 i h, if_neg (by omega), List.getD_eq_getElem?_getD, List.getElem?_eq_getElem h]
    rfl
  · rw [List.getElem?_eq_none (by rw [rv_length]; omega), List.getElem?_eq_none (by omega)]
theorem rv_step (l : List Int) (k : Nat) (h : 2 * k + 1 < l.length) : rv l (k + 1) = ((rv l k).set k (l.getD (l.length - 1 - k) 0)).set (l.length - 1 - k) (l.getD k 0) := by
  apply List.ext_getElem?
  intro i
  by_cases hi : i < l.length
  · rw [rv_get l (k + 1) i hi, List.getElem?_set, List.getElem?_set]
    by_cases e1 : l.length - 1 - k = i
    · subst e1
      rw [if_pos rfl, if_pos (by omega), if_pos (by rw [List.length_set, rv_length]; omega), show l.length - 1 - (l.length - 1 - k) = k by omega]
    · rw [if_neg e1]
      by_cases e2 : k = i
      · subst e2
        rw [if_pos rfl, if_pos (by omega), if_pos (by rw [rv_length]; omega)]
      · rw [if_neg e2, rv_get l k i hi]
        by_cases h1 : i < k ∨ l.length ≤ i + k
        · rw [if_pos h1, if_pos (by omega)]
        · rw [if_neg h1, if_neg (by omega)]
  · rw [List.getElem?_eq_none (by rw [rv_length]; omega), List.getElem?_eq_none (by rw [List.length_set, List.length_set, rv_length]; omega)]
theorem rv_end (l : List Int) (k : Nat) (h : l.length ≤ 2 * k + 1) : rv l k = l.reverse := by
  apply List.ext_getElem?
  intro i
  by_cases hi : i < l.length
  · rw [rv_get l k i hi, List.getElem?_reverse hi, List.getElem?_eq_getElem (by omega)]
    by_cases h1 : i < k ∨ l.length ≤ i + k
    · rw [if_pos h1, List.getD_eq_getElem?_getD, List.getElem?_eq_getElem (by omega)]
      rfl
    · have : i = l.length - 1 - i := by omega
      rw [if_neg h1, List.getD_eq_getElem?_getD, List.getElem?_eq_getElem hi]
      simp only [Option.getD_some]
      congr 1
      congr 1
  · rw [List.getElem?_eq_none (by rw [rv_length]; omega), List.getElem?_eq_none (by simp; omega)]
end Go.Proofs.YtfjmhmfkhgjnhaaDoor


namespace Go.Proofs.YtfjmhmfkhgjnhaaDoor
set_option linter.unusedVariables false
set_option linter.unusedSimpArgs false
set_option maxRecDepth 100000
open Go.RowKit

set_option maxHeartbeats 2000000 in
theorem reverse_any (w : World) (B g c : Nat) (l : List Int) (h : w.ownsRow B 3 1 (.slice (some ⟨g, 0, none⟩) l.length c) l.length (ints .i64 l)) (hl : l.length ≤ 1099511627776) :
    Calls Tryd.prog 34 #[.slice (some ⟨g, 0, none⟩) l.length c] w fun e w' => (∃ v, e = .returned v) ∧ w'.ownsRow B 3 1 (.slice (some ⟨g, 0, none⟩) l.length c) l.length (ints .i64 l.reverse) ∧ w.grownBy w' (some g) := by
  have H := Lib.hid h
  clear h
  go_enter Tryd.func34, Tryd.ntmps34
  go_wp2_with fail
  go_loopw [2, 3] (fun i j wr => ∃ k : Nat, 2 * k ≤ l.length + 1 ∧ i = .int .i64 (k : Int) ∧ j = .int .i64 ((l.length : Int) - 1 - k) ∧ wr.ownsRow B 3 1 (.slice (some ⟨g, 0, none⟩) l.length c) l.length (ints .i64 (rv l k)) ∧ w.grownBy wr (some g)) (fun i _ _ => l.length - (intOf i).toNat)
  case atStart => exact ⟨0, by omega, rfl, by simp, by rw [rv_zero]; exact H.out, World.grownBy.refl w _⟩
  case round =>
    obtain ⟨k, hk, rfl, rfl, hr, hg⟩ := hrel
    by_cases hlt : 2 * k + 1 < l.length
    · obtain ⟨m, hm⟩ : ∃ m : Nat, m = l.length - 1 - k := ⟨_, rfl⟩
      have hmi : (l.length : Int) - 1 - k = (m : Int) := by omega
      rw [hmi]
      have hkm : k < m := by omega
      have hml : m < l.length := by omega
      obtain ⟨a, ha⟩ : ∃ a, a = l.getD k 0 := ⟨_, rfl⟩
      obtain ⟨b, hb⟩ : ∃ b, b = l.getD m 0 := ⟨_, rfl⟩
      have c0 := own_cell hr (j := k) (u := .int .i64 a) (by
        show (List.map _ _)[k]? = _
        rw [List.getElem?_map, rv_get l k k (by omega), if_neg (by omega), ha]
        rfl)
      have c1 := own_cell hr (j := m) (u := .int .i64 b) (by
        show (List.map _ _)[m]? = _
        rw [List.getElem?_map, rv_get l k m hml, if_neg (by omega), hb]
        rfl)
      have f0 := row_frozen hr k
      have f1 := row_frozen hr m
      have hst := rv_step l k (by omega)
      rw [← hm, ← ha, ← hb] at hst
      have HH := Lib.hid (And.intro hr (And.intro hg (And.intro hst (And.intro hmi hm))))
      have hlen : l.length = m + k + 1 := by omega
      clear hr hg hst hmi hm ha hb
      go_wp2_with fail
      go_region
      have hrow : ((wr.setCell ⟨g, k, none⟩ (.int .i64 b)).setCell ⟨g, m, none⟩ (.int .i64 a)).drew.ownsRow B 3 1 (.slice (some ⟨g, 0, none⟩) l.length c) l.length (ints .i64 (rv l (k + 1))) := by
        rw [HH.out.2.2.1, ints_set, ints_set]
        exact row_set (row_set HH.out.1 k (.int .i64 b)) m (.int .i64 a)
      have hgr : w.grownBy ((wr.setCell ⟨g, k, none⟩ (.int .i64 b)).setCell ⟨g, m, none⟩ (.int .i64 a)).drew (some g) := grown_trans HH.out.2.1 (grown_trans (grown_setCell wr g k _) (grown_trans (grown_setCell _ g m _) (grown_drew _ _)))
      generalize ((wr.setCell ⟨g, k, none⟩ (.int .i64 b)).setCell ⟨g, m, none⟩ (.int .i64 a)).drew = wN at hrow hgr ⊢
      have HN := Lib.hid (And.intro hrow hgr)
      clear hrow hgr c0 c1 f0 f1
      go_wp2_with fail
      go_roundw
      case rel => exact ⟨k + 1, by omega, by go_num, by congr 1; have := HH.out.2.2.2.1; omega, HN.out.1, HN.out.2⟩
      case measure => simp [intOf]; omega
    · have e := rv_end l k (by omega)
      rw [e] at hr
      have HR := Lib.hid (And.intro hr hg)
      clear hr hg e
      have hlt' : decide ((k : Int) < (l.length : Int) - 1 - k) = false := by simp; omega
      go_wp2_with fail
      go_end0
      exact ⟨⟨_, rfl⟩, HR.out⟩
end Go.Proofs.YtfjmhmfkhgjnhaaDoor


namespace Go.Proofs.YtfjmhmfkhgjnhaaDoor.Gr
set_option linter.unusedVariables false
set_option linter.unusedSimpArgs false
set_option maxRecDepth 100000
open Bs
theorem behL_snoc {S : Type} (em : S) (un : S → Nat → S → S) (es : List Ed) : ∀ (l : List Nat) (n : Nat) (B : List S), behL em un es (l ++ [n]) B = (behL em un es l B).set n (beh1 em un es (behL em un es l B) n)
  | [], n, B => rfl
  | k :: l, n, B => by
    rw [List.cons_append]
    unfold behL
    exact behL_snoc em un es l n _
/-- when the first k from the end are done -/
def bk (N : Nat) (es : List Ed) (k : Nat) : List (List Nat) := behL [] un es ((take N es).reverse.take k) (List.replicate N [])
theorem bk_zero (N : Nat) (es : List Ed) : bk N es 0 = List.replicate N [] := by unfold bk; rw [List.take_zero]; rfl
theorem bk_all {N : Nat} {es : List Ed} (hl : (take N es).length = N) : bk N es N = behW N es := by
  unfold bk behW
  rw [List.take_of_length_le (by rw [List.length_reverse, hl]; exact Nat.le_refl _)]
theorem bk_length (N : Nat) (es : List Ed) (k : Nat) : (bk N es k).length = N := by unfold bk; rw [behL_length]; simp
theorem bk_gs {N : Nat} {es : List Ed} (hes : ∀ e ∈ es, e.2 < N) (k : Nat) : ∀ s ∈ bk N es k, Gs N s := behL_gs hes _ _ fun s hs => by
  rw [(List.mem_replicate.1 hs).2]
  exact Gs.nil N
/-- the set of one node, when j of those it leads to are in -/
def bs (N : Nat) (es : List Ed) (k n j : Nat) : List Nat := ((next es n).take j).foldl (fun s m => un s m ((bk N es k).getD m [])) []
theorem bs_zero (N : Nat) (es : List Ed) (k n : Nat) : bs N es k n 0 = [] := by unfold bs; rw [List.take_zero]; rfl
theorem bs_step {N : Nat} {es : List Ed} {k n j m : Nat} (hj : (next es n)[j]? = some m) : bs N es k n (j + 1) = op for_ (put (bs N es k n j) m) ((bk N es k).getD m []) := by
  unfold bs
  rw [take_snoc hj, List.foldl_append]
  rfl
theorem bk_step {N : Nat} {es : List Ed} {k n : Nat} (hk : (take N es).reverse[k]? = some n) : bk N es (k + 1) = (bk N es k).set n (bs N es k n (next es n).length) := by
  have h := take_snoc hk
  unfold bk at *
  rw [h, behL_snoc]
  unfold beh1 bs
  rw [List.take_length]
  rfl
theorem bs_gs {N : Nat} {es : List Ed} (hes : ∀ e ∈ es, e.2 < N) (k n : Nat) : ∀ j, Gs N (bs N es k n j)
  | 0 => by rw [bs_zero]; exact Gs.nil N
  | j + 1 => by
    by_cases hj : j < (next es n).length
    · rw [bs_step (List.getElem?_eq_getElem hj)]
      refine ((bs_gs hes k n j).put (hes _ (mem_next.1 (List.getElem_mem hj)))).or ?_
      by_cases hm : (next es n)[j] < (bk N es k).length
      · rw [List.getD_eq_getElem?_getD, List.getElem?_eq_getElem hm, Option.getD_some]
        exact bk_gs hes k _ (List.getElem_mem hm)
      · rw [List.getD_eq_getElem?_getD, List.getElem?_eq_none (by omega), Option.getD_none]
        exact Gs.nil N
    · have := bs_gs hes k n j
      unfold bs at *
      rw [List.take_of_length_le (by omega)] at this ⊢
      exact this
end Go.Proofs.YtfjmhmfkhgjnhaaDoor.Gr
namespace Go.Proofs.YtfjmhmfkhgjnhaaDoor
open Go.RowKit

theorem info_swords : (Tryd.prog.info? 65).map (fun i => (i.zero, i.size, i.bytes)) = some (some (.slice none 0 0), 1, 24) := by kernel_rfl
/-- a slice of sets, as words -/
def SlW (w : World) (v : Value) (L : List (List Nat)) : Prop := ∃ os, SlV w 1 v L.length os ∧ ∀ (i : Nat) (u : Value) (s : List Nat), os[i]? = some u → L[i]? = some s → SlU w u s
theorem SlW.below {w w' : World} {v : Value} {L : List (List Nat)} (h : SlW w v L) (hb : Below w.heap.size w w') : SlW w' v L := by
  obtain ⟨os, h1, h2⟩ := h
  exact ⟨os, h1.below hb, fun i u s hu hs => (h2 i u s hu hs).below hb⟩
def FSU (B : Nat) (s : List Nat) : Fact (fun w w' => Below w.heap.size w w') := ⟨fun v w => SlU w v s ∧ New B v, fun _ _ _ h k => ⟨h.1.below k, h.2⟩⟩
theorem own_slV {w : World} {B n : Nat} {e : TypeId} {v : Value} {xs : List Value} (h : w.ownsRow B e 1 v n xs) : SlV w 1 v n xs := by
  obtain ⟨A, c, rfl, h1, h2⟩ := own_slice h
  by_cases hn : n = 0
  · subst hn
    have : xs = [] := List.length_eq_zero_iff.1 (by have := h.1; omega)
    subst this
    exact ⟨A, c, rfl, h1, h2, rfl, 0, 0, fun e => absurd rfl e, fun j u hu => by simp at hu⟩
  · obtain ⟨g, c', e, -, -, -, h5⟩ := own_addr h (by omega)
    injection e with e1 e2 e3
    subst e1 e3
    exact ⟨_, c, rfl, h1, h2, by have := h.1; omega, g, 0, fun _ => ⟨rfl, h5⟩, fun j u hu => by rw [Nat.zero_add]; exact own_cell h hu⟩

theorem reverse_row (w : World) (B c : Nat) (A : Option Addr) (l : List Int) (h : w.ownsRow B 3 1 (.slice A l.length c) l.length (ints .i64 l)) (hl : l.length ≤ 1099511627776) :
    Calls Tryd.prog 34 #[.slice A l.length c] w fun e w' => (∃ v, e = .returned v) ∧ w'.ownsRow B 3 1 (.slice A l.length c) l.length (ints .i64 l.reverse) ∧ w.grownBy w' (Value.slice A l.length c).ownBlock := by
  rcases h.2 with ⟨h1, h2⟩ | ⟨g, cap, cur, h1, h2, h3, h4, h5, h6, h7⟩
  · injection h1 with e1 e2 e3
    subst e1 e3
    have hl0 : l = [] := List.length_eq_zero_iff.1 e2
    subst hl0
    clear e2
    go_enter Tryd.func34, Tryd.ntmps34
    go_wp2_with fail
    go_loopw [2, 3] (fun i j wr => i = .int .i64 0 ∧ j = .int .i64 (-1) ∧ w.grownBy wr none) (fun _ _ _ => 0)
    case atStart => exact ⟨rfl, rfl, World.grownBy.refl w _⟩
    case round =>
      obtain ⟨rfl, rfl, hg⟩ := hrel
      go_wp2_with fail
      go_end0
      exact ⟨⟨_, rfl⟩, World.ownsRow_nil _ _ _ _, hg⟩
  · injection h1 with e1 e2 e3
    subst e1
    exact reverse_any w B g c l h hl

theorem reverse_nat (w : World) (B c : Nat) (A : Option Addr) (l : List Nat) (h : w.ownsRow B 3 1 (.slice A l.length c) l.length (ilist l)) (hl : l.length ≤ 1099511627776) :
    Calls Tryd.prog 34 #[.slice A l.length c] w fun e w' => (∃ v, e = .returned v) ∧ w'.ownsRow B 3 1 (.slice A l.length c) l.length (ilist l.reverse) ∧ w.grownBy w' (Value.slice A l.length c).ownBlock := by
  have := reverse_row w B c A (l.map fun (x : Nat) => (x : Int)) (by rw [List.length_map]; exact h) (by rw [List.length_map]; exact hl)
  rw [List.length_map, ← List.map_reverse] at this
  exact this

/-- one row, and what each one leads to -/
def nxR (r : Rw) (vs : List Value) (L : List (List Nat)) : List Rw := r :: List.zipWith irw vs L
theorem nxR_i (r : Rw) (vs : List Value) (L : List (List Nat)) (i : Nat) (v : Value) (l : List Nat) : (nxR r vs L).set (i + 1) (irw v l) = nxR r (vs.set i v) (L.set i l) := by
  unfold nxR
  rw [List.set_cons_succ, zip_set]
theorem nxR_get (r : Rw) (vs : List Value) (L : List (List Nat)) (i : Nat) (v : Value) (l : List Nat) (hv : vs[i]? = some v) (hl : L[i]? = some l) : (nxR r vs L)[i + 1]? = some (irw v l) := by
  unfold nxR
  rw [List.getElem?_cons_succ, List.getElem?_zipWith, hv, hl]
theorem nl_nil (N : Nat) : Gr.nl N [] = List.replicate N [] := by
  apply List.ext_getElem
  · simp [Gr.nl]
  · intro i h h'; simp [Gr.nl, Gr.next]
theorem nx_start {B r : Nat} {w2 : World} {N : Nat} (r0 : Rw) (h1 : r0.at_ B w2) (hne : r0.v.ownBlock ≠ some r) (h2 : Blk w2 r 26 (List.replicate N (.slice none 0 0))) (hB : B ≤ w2.heap.size) (lo : B ≤ r) :
    Own B w2 r 26 (List.replicate N (.slice none 0 0)) (nxR r0 (List.replicate N (.slice none 0 0)) (Gr.nl N [])) := by
  have hz : List.zipWith irw (List.replicate N (.slice none 0 0)) (List.replicate N []) = List.replicate N (irw (.slice none 0 0) []) := by simp
  unfold nxR
  rw [nl_nil, hz]
  refine ⟨h2, fun s hs => ?_, fun i j s t hi hj hij => ?_, fun s hs => ?_, hB, lo⟩
  · rcases List.mem_cons.1 hs with rfl | hs
    · exact h1
    · rw [(List.mem_replicate.1 hs).2]
      exact World.ownsRow_nil _ _ _ _
  · intro k hk hk'
    cases i with
    | zero =>
      cases j with
      | zero => exact hij rfl
      | succ j =>
        rw [List.getElem?_cons_succ, List.getElem?_replicate] at hj
        split at hj
        · injection hj with hj; subst hj; simp [irw, Value.ownBlock] at hk'
        · cases hj
    | succ i =>
      rw [List.getElem?_cons_succ, List.getElem?_replicate] at hi
      split at hi
      · injection hi with hi; subst hi; simp [irw, Value.ownBlock] at hk
      · cases hi
  · rcases List.mem_cons.1 hs with rfl | hs
    · exact hne
    · rw [(List.mem_replicate.1 hs).2]
      simp [irw, Value.ownBlock]

set_option maxHeartbeats 4000000 in
theorem behind_yes (N : Nat) (es : List Gr.Ed) (w : World) (A : Option Addr) (c : Nat) (hN : N ≤ 200) (hes : ∀ e ∈ es, e.1 < N ∧ e.2 < N) (hl : (Gr.take N es).length = N) (hA : SlV w 2 (.slice A es.length c) es.length (edcs es)) (hle : es.length ≤ 1099511627776)
    (hs : ∀ w', Below w.heap.size w w' → Calls Tryd.prog 25 #[.agg #[.int .i64 (N : Int), .slice A es.length c]] w' fun e w'' => ∃ v, e = .returned (.tuple #[v, .int .i64 0]) ∧ w''.ownsRow w'.heap.size 3 1 v N (ilist (Gr.take N es)) ∧ Below w'.heap.size w' w'') :
    Calls Tryd.prog 35 #[.agg #[.int .i64 (N : Int), .slice A es.length c]] w fun e w' => ∃ v, e = .returned (.tuple #[v, .int .i64 0]) ∧ SlW w' v (Gr.behW N es) ∧ Below w.heap.size w w' := by
  have HES := Lib.hid hes
  have HL := Lib.hid hl
  have x0 := Blk.new w 24 [.int .i64 (N : Int), .slice A es.length c]
  have hb0 : Below w.heap.size w (w.alloc (.cells #[.int .i64 (N : Int), .slice A es.length c] 24)) := below_alloc (Below.refl _ _) _
  have hz0 : (w.alloc (.cells #[.int .i64 (N : Int), .slice A es.length c] 24)).heap.size = w.heap.size + 1 := by simp
  have HZ0 := Lib.hid hz0
  clear hes hl hz0
  have n47' : 24 * N ≤ 281474976710656 := by omega
  have n63 : N ≤ 9223372036854775807 := by omega
  go_enter Tryd.func35, Tryd.ntmps35
  go_upto_region 1 with (fail)
  have HZ := Lib.hid HZ0.out
  clear HZ0
  generalize (w.alloc (.cells #[.int .i64 (N : Int), .slice A es.length c] 24)) = W0 at x0 hb0 HZ ⊢
  have d0 : W0.cell? ⟨w.heap.size, 0, none⟩ = some (.int .i64 (N : Int)) := (x0.cell 0).trans rfl
  have d1 : W0.cell? ⟨w.heap.size, 1, none⟩ = some (.slice A es.length c) := (x0.cell 1).trans rfl
  go_wp2_with fail
  refine (hs W0 hb0).mono ?_
  rintro e w1 ⟨lv, rfl, ho1, hb1⟩
  obtain ⟨VB, cl, rfl, -, -⟩ := own_slice ho1
  have x1 := x0.below hb1
  have hb01 := below_next hb1 hb0
  have c0 : w1.cell? ⟨w.heap.size, 0, none⟩ = some (.int .i64 (N : Int)) := (x1.cell 0).trans rfl
  have c1 : w1.cell? ⟨w.heap.size, 1, none⟩ = some (.slice A es.length c) := (x1.cell 1).trans rfl
  clear d0 d1 x0 hs
  go_wp2_with (first | (at_make; refine wp_make _ 61 65 (.slice none 0 0) 24 N Tryd.underlying61 info_swords rfl (by omega) (by omega) n47' n63 rfl rfl rfl rfl ?_; intro w2 hown2 hb2 hs2; have x2 := x1.below hb2; have c20 : w2.cell? ⟨w.heap.size, 0, none⟩ = some (.int .i64 (N : Int)) := (x2.cell 0).trans rfl; have c21 : w2.cell? ⟨w.heap.size, 1, none⟩ = some (.slice A es.length c) := (x2.cell 1).trans rfl) | fail)
  have hrev : Calls Tryd.prog 34 #[.slice VB N cl] w2 fun e w' => (∃ v, e = .returned v) ∧ w'.ownsRow W0.heap.size 3 1 (.slice VB N cl) N (ilist (Gr.take N es).reverse) ∧ w2.grownBy w' (Value.slice VB N cl).ownBlock := by
    have h1 := own_keeps ho1 (Keeps.of_below hb2 (fun _ => False)) (fun _ _ => id)
    have hrl : (Gr.take N es).length = N := HL.out
    have h2 := reverse_nat w2 W0.heap.size cl VB (Gr.take N es) (by rw [hrl]; exact h1) (by rw [hrl]; omega)
    rw [hrl] at h2
    exact h2
  refine hrev.mono ?_
  rintro e w3 ⟨⟨rv, rfl⟩, ho3, hg3⟩
  have hlge : ∀ k, (Value.slice VB N cl).ownBlock = some k → w.heap.size + 1 ≤ k := fun k hk => by have := own_ge ho1 k hk; have := HZ.out; omega
  have hllt : ∀ k, (Value.slice VB N cl).ownBlock = some k → k < w1.heap.size := fun k hk => (ho1.lt k hk).2
  have x3 := x2.keeps (Keeps.of_grown hg3) (fun e => by have := hlge _ e.symm; omega)
  have c30 : w3.cell? ⟨w.heap.size, 0, none⟩ = some (.int .i64 (N : Int)) := (x3.cell 0).trans rfl
  have hown3 := own_keeps hown2 (Keeps.of_grown hg3) (fun k hk e => by have h1 := hllt k e.symm; have h2 : w1.heap.size = k := (by injection hk); omega)
  have hb03 : Below w.heap.size w w3 := (below_next hb2 hb01).trans ((Keeps.of_grown hg3).below (below_next hb2 hb01).size (fun k hk => by have := hlge k hk.symm; omega))
  have hsW0 := hb1.size
  have hs13 : w1.heap.size < w3.heap.size := by have := (Keeps.of_grown hg3).size; omega
  clear hown2 hg3 hrev ho1 hb01 hb2 hs2 x2 x1 c0 c1 c20 c21 hb1
  go_wp2_with (first | (at_make; refine wp_make _ 49 26 (.slice none 0 0) 24 N Tryd.underlying49 info_sint rfl (by omega) (by omega) n47' n63 rfl rfl rfl rfl ?_; intro w4 hown4 hb4 hs4; have x4 := x3.below hb4; have c40 : w4.cell? ⟨w.heap.size, 0, none⟩ = some (.int .i64 (N : Int)) := (x4.cell 0).trans rfl; have c41 : w4.cell? ⟨w.heap.size, 1, none⟩ = some (.slice A es.length c) := (x4.cell 1).trans rfl) | fail)
  have hlr : w4.ownsRow W0.heap.size 3 1 (.slice VB N cl) N (ilist (Gr.take N es).reverse) := own_keeps ho3 (Keeps.of_below hb4 (fun _ => False)) (fun _ _ => id)
  have hor := own_keeps hown3 (Keeps.of_below hb4 (fun _ => False)) (fun _ _ => id)
  have hnb := row_whole hown4
  have hb04 := below_next hb4 hb03
  have hsQ : W0.heap.size = w.heap.size + 1 := HZ.out
  have hne0 : (Value.slice (some ⟨w1.heap.size, 0, none⟩) N N).ownBlock ≠ some w3.heap.size := fun e => by
    have h2 : w1.heap.size = w3.heap.size := (by injection e)
    omega
  have hO : Own (w.heap.size + 1) w4 w3.heap.size 26 (List.replicate N (.slice none 0 0)) (nxR ⟨65, 1, .slice (some ⟨w1.heap.size, 0, none⟩) N N, N, List.replicate N (.slice none 0 0)⟩ (List.replicate N (.slice none 0 0)) (Gr.nl N [])) :=
    nx_start _ (own_base hor (by omega)) hne0 hnb (by have := hb04.size; omega) (by omega)
  have hlr' : w4.ownsRow (w.heap.size + 1) 3 1 (.slice VB N cl) N (ilist (Gr.take N es).reverse) := own_base hlr (by omega)
  have hsz : w.heap.size + 1 ≤ w1.heap.size ∧ w1.heap.size < w3.heap.size ∧ w3.heap.size < w4.heap.size := ⟨by omega, hs13, by omega⟩
  clear hlr hor hnb hne0 hown3 hown4 ho3 hb4 hs4 hb03 hsQ hsW0 hs13 x3 x4 c30 HZ hb0
  obtain ⟨gO, hgO⟩ : ∃ g, g = w1.heap.size := ⟨_, rfl⟩
  obtain ⟨gN, hgN⟩ : ∃ g, g = w3.heap.size := ⟨_, rfl⟩
  obtain ⟨Q, hQ⟩ : ∃ g, g = w.heap.size := ⟨_, rfl⟩
  have HQ := Lib.hid hQ
  simp only [← hgO, ← hgN, ← hQ] at hb04 hO hlr' hsz hlge hllt c40 c41 ⊢
  clear hgO hgN hQ
  obtain ⟨r0, hr0⟩ : ∃ r : Rw, r = ⟨65, 1, .slice (some ⟨gO, 0, none⟩) N N, N, List.replicate N (.slice none 0 0)⟩ := ⟨_, rfl⟩
  rw [← hr0] at hO
  have hOT := OwnTo.start hO
  have hkT : ∀ w', Keeps (Tw gN (nxR r0 (List.replicate N (.slice none 0 0)) (Gr.nl N []))) w4 w' → Below Q w w' := fun w' h => hb04.trans ((hO.below h).mono (by omega))
  have hTb : ∀ k, Tw gN (nxR r0 (List.replicate N (.slice none 0 0)) (Gr.nl N [])) k → gO ≤ k := fun k hk => by
    rcases hk with rfl | ⟨s, hs, hk⟩
    · exact Nat.le_of_lt hsz.2.1
    · unfold nxR at hs
      rw [nl_nil] at hs
      rcases List.mem_cons.1 hs with rfl | hs
      · rw [hr0] at hk
        have : gO = k := by injection hk
        omega
      · have hz : List.zipWith irw (List.replicate N (.slice none 0 0)) (List.replicate N []) = List.replicate N (irw (.slice none 0 0) []) := by simp
        rw [hz] at hs
        rw [(List.mem_replicate.1 hs).2] at hk
        simp [irw, Value.ownBlock] at hk
  obtain ⟨T0, hT0⟩ : ∃ T, T = Tw gN (nxR r0 (List.replicate N (.slice none 0 0)) (Gr.nl N [])) := ⟨_, rfl⟩
  rw [← hT0] at hOT hkT hTb
  have HR0 := Lib.hid hr0
  have HKT := Lib.hid hkT
  have HLR := Lib.hid (And.intro hlr' (And.intro hlge hllt))
  clear hO hT0 hr0 hkT hlr' hlge hllt hb04 c40
  go_loopw [34] (fun i wr => ∃ (k : Nat) (vs : List Value), k ≤ es.length ∧ i = .int .i64 (k : Int) ∧ vs.length = N ∧ OwnTo (Q + 1) w4 T0 wr gN 26 vs (nxR r0 vs (Gr.nl N (es.take k)))) (fun i _ => es.length - (intOf i).toNat)
  case atStart => exact ⟨0, _, Nat.zero_le _, rfl, by simp, hOT⟩
  case round =>
    obtain ⟨k, vs, hk, rfl, hvl, hOk⟩ := hrel
    have hbw := HKT.out _ hOk.kp
    by_cases hlt : k < es.length
    · obtain ⟨⟨a, b⟩, hx⟩ : ∃ x, es[k]? = some x := ⟨_, List.getElem?_eq_getElem hlt⟩
      obtain ⟨ha, hb⟩ := HES.out _ (List.mem_of_getElem? hx)
      have gx := flat_get edc 2 (fun _ => rfl) es k
      have g1 := gx 0 _ hx (by omega)
      have g2 := gx 1 _ hx (by omega)
      rw [HQ.out] at hbw
      obtain ⟨A', c', he, -, -, -, hcc⟩ := hA.below hbw
      injection he with e1 e2 e3
      subst e1 e3
      obtain ⟨g, o, rfl, hgl, hcell⟩ := hcc.at_ (fun e => by rw [show List.flatMap edc es = edcs es from rfl, e] at g1; simp [edc] at g1)
      have d0 : wr.cell? ⟨g, o + k * 2, none⟩ = some (.int .i64 (a : Int)) := (hcell _ _ g1).trans rfl
      have d1 : wr.cell? ⟨g, o + k * 2 + 1, none⟩ = some (.int .i64 (b : Int)) := by rw [Nat.add_assoc]; exact hcell _ _ g2
      have htk := Gr.take_snoc hx
      have hn1 := Gr.nl_one N (es.take k) a b
      rw [← htk] at hn1
      have hTA := hOk.later (below_alloc (Below.refl _ _) (.cells #[.int .i64 (a : Int), .int .i64 (b : Int)] 39))
      have hE := Blk.new wr 39 [.int .i64 (a : Int), .int .i64 (b : Int)]
      obtain ⟨v, hv⟩ : ∃ v, vs[a]? = some v := ⟨_, List.getElem?_eq_getElem (by omega)⟩
      have hnx : (Gr.nl N (es.take k))[a]? = some (Gr.next (es.take k) a) := Gr.map_get _ _ _ ha
      have hnl : (Gr.next (es.take k) a).length ≤ 1099511627776 := by
        have := List.length_filter_le (fun e : Gr.Ed => e.1 == a) (es.take k)
        rw [List.length_take] at this
        unfold Gr.next
        rw [List.length_map]
        omega
      obtain ⟨nx, hnxq⟩ : ∃ nx, nx = Gr.next (es.take k) a := ⟨_, rfl⟩
      rw [← hnxq] at hnx hn1 hnl
      clear hnxq
      have hvne : v.ownBlock ≠ some wr.heap.size := fun e => by
        have := ((hOk.own.row (a + 1) (nxR_get _ _ _ a v nx hv hnx)).lt _ e).2
        omega
      have HX := Lib.hid (And.intro hn1 (And.intro hv hnx))
      clear hv hnx
      have HA := Lib.hid hA
      clear hOk htk hn1 hx gx g1 g2 hcc hcell e2 hA hbw
      go_upto_region 10 with (fail)
      have hb5 : Below wr.heap.size wr (wr.alloc (.cells #[.int .i64 (a : Int), .int .i64 (b : Int)] 39)) := below_alloc (Below.refl _ _) _
      generalize (wr.alloc (.cells #[.int .i64 (a : Int), .int .i64 (b : Int)] 39)) = w6 at hTA hE hb5 ⊢
      clear d0 d1 hb5
      have hget := nxR_get r0 vs (Gr.nl N (es.take k)) a v nx HX.out.2.1 HX.out.2.2
      have rv : w6.ownsRow (Q + 1) 3 1 v nx.length (ilist nx) := hTA.own.row (a + 1) hget
      have hng : v.ownBlock ≠ some gN := hTA.own.ng _ (List.mem_of_getElem? hget)
      obtain ⟨VB2, cb, rfl, -, -⟩ := own_slice rv
      have hR : ∀ w', Below w6.heap.size w6 w' → w'.ownsRow (Q + 1) 3 1 (.slice VB2 nx.length cb) nx.length (ilist nx) ∧ Q + 1 ≤ w'.heap.size := fun w' hb => ⟨(hTA.own.later hb).row (a + 1) hget, (hTA.own.later hb).base⟩
      have keepS : ∀ w', Keeps (fun k => (Value.slice VB2 nx.length cb).ownBlock = some k) w6 w' → Keeps (fun k => (Value.slice VB2 nx.length cb).ownBlock = some k) w6 w' ∧ w'.cell? ⟨gN, a, none⟩ = some (.slice VB2 nx.length cb) ∧ w'.cell? ⟨wr.heap.size, 0, none⟩ = some (.int .i64 (a : Int)) ∧ w'.cell? ⟨wr.heap.size, 1, none⟩ = some (.int .i64 (b : Int)) := fun w' k =>
        ⟨k, ((hTA.own.blk.keeps k hng).cell a).trans HX.out.2.1, ((hE.keeps k hvne).cell 0).trans rfl, ((hE.keeps k hvne).cell 1).trans rfl⟩
      have hS1 := keepS _ ((Keeps.refl _ w6).drewN 1)
      have hn63 : nx.length + 1 ≤ maxLen := by unfold maxLen; omega
      have hn47 : (nx.length + 1) * 8 ≤ 140737488355328 := by omega
      have HT := Lib.hid (And.intro hTA hget)
      clear hTA rv hE hget hng hvne
      refine wp_walk_mt 13 (fun i => ([11] : List Nat).contains i) (fun i => ([0,1,2,12] : List Nat).contains i) [11] (by intro m h; simpa using h) (by kernel_rfl) (by kernel_rfl) (by kernel_rfl) (fun w w' => Below w.heap.size w w')  (fun w' => Keeps (fun k => (Value.slice VB2 nx.length cb).ownBlock = some k) w6 w' ∧ w'.cell? ⟨gN, a, none⟩ = some (.slice VB2 nx.length cb) ∧ w'.cell? ⟨wr.heap.size, 0, none⟩ = some (.int .i64 (a : Int)) ∧ w'.cell? ⟨wr.heap.size, 1, none⟩ = some (.int .i64 (b : Int))) (fun w' => Below w6.heap.size w6 w') hS1 (below_drew (Below.refl _ _)) (fun _ _ h h' => below_next h' h) ?_
      simp only [List.length_cons, List.length_nil, Nat.reduceAdd, Nat.reduceSub, List.take_succ_cons, List.take_zero, List.drop_succ_cons, List.drop_zero]
      repeat (first | (refine nsettle_skip (by rfl) (fun _ => by rfl) ?_; (simp only [Act.put, List.setIfInBounds_toArray, List.set_cons_zero, List.set_cons_succ])) | (refine' nsettle_run (by rfl) (fun _ _ => Below.refl _ _) (fun _ => by rfl) ?_ ?_; rotate_left; (focus (intro ρ w hS hF hP; (try dsimp only at hS); go_split_ands; go_simp; try with_reducible rfl)); (simp only [Act.put, List.setIfInBounds_toArray, List.set_cons_zero, List.set_cons_succ])))
      (refine nsettle_known (FSl 1 1 [.int .i64 (b : Int)]) (by rfl) (by rfl) (by rfl) (fun _ => by rfl)  ?_ ?_; (focus (intro ρ w hS hF hP K hK; (simp only [Act.put, List.setIfInBounds_toArray, List.set_cons_zero, List.set_cons_succ] at hK); go_simp; exact hK _ _ (SlV.lit w [.int .i64 (b : Int)] 3 1 1 rfl (by decide)) (keepS _ (hS.1.alloc _)) (below_alloc (Below.refl _ _) _))); (simp only [Act.put, List.setIfInBounds_toArray, List.set_cons_zero, List.set_cons_succ]))
      (refine nsettle_mark (FPush w6 (Q + 1) 3 1 (.slice VB2 nx.length cb) (nx.length + 1) (ilist nx ++ [.int .i64 (b : Int)])) (by rfl) (by rfl) (by rfl) (fun _ => by rfl) ?_ ?_; (focus (intro ρ w hS hF hP K hK; refine oper_append (.tmp 45) (.tmp 48) (Q + 1) _ _ _ _ _ Tryd.underlying26 info_int rfl (by decide) (hR w (hP (by rfl))).1 (hF.1 (by rfl)) (by simp [Value.oneCell']) hn63 hn47 (hR w (hP (by rfl))).2 rfl rfl rfl ?_; intro v' w' hown hg hv _; exact hK v' w' ⟨w, hP (by rfl), hg, hown, hv.imp id fun e => ⟨_, Nat.le_refl _, e⟩⟩ (keepS _ (hS.1.trans ((Keeps.of_grown hg).mono fun i hi => hi.symm))))); (simp only [Act.put, List.setIfInBounds_toArray, List.set_cons_zero, List.set_cons_succ]))
      repeat (first | (refine nsettle_skip (by rfl) (fun _ => by rfl) ?_; (simp only [Act.put, List.setIfInBounds_toArray, List.set_cons_zero, List.set_cons_succ])) | (refine' nsettle_run (by rfl) (fun _ _ => Below.refl _ _) (fun _ => by rfl) ?_ ?_; rotate_left; (focus (intro ρ w hS hF hP; (try dsimp only at hS); go_split_ands; go_simp; try with_reducible rfl)); (simp only [Act.put, List.setIfInBounds_toArray, List.set_cons_zero, List.set_cons_succ])))
      refine nsettle_nil ?_
      intro ρ w7 hS hF
      obtain ⟨wa, ha1, ha2, ha3, ha4⟩ := hF 49 (FPush w6 (Q + 1) 3 1 (.slice VB2 nx.length cb) (nx.length + 1) (ilist nx ++ [.int .i64 (b : Int)])) (by repeat (first | exact List.mem_cons_self | apply List.mem_cons_of_mem))
      clear hF hS hS1 keepS hR
      dsimp only
      generalize ρ 48 = v44
      generalize ρ 49 = v4 at ha3 ha4 ⊢
      have hx4 : wa.grownBy w7 (irw (.slice VB2 nx.length cb) nx).v.ownBlock := ha2
      have ho4 : w7.ownsRow (Q + 1) 3 1 v4 (nx ++ [b]).length (ilist (nx ++ [b])) := by simpa [ilist, ints] using ha3
      have hB4 := ((HT.out.1.own.later ha1).put (i := a + 1) HT.out.2 ho4 hx4 ha4).1
      have hend : ∀ w8, Blk w8 gN 26 (vs.set a v4) → w7.grownBy w8 (some gN) → OwnTo (Q + 1) w4 T0 w8 gN 26 (vs.set a v4) (nxR r0 (vs.set a v4) (Gr.nl N (es.take (k + 1)))) := fun w8 b8 g8 => by
        have := (HT.out.1.later ha1).step ((HT.out.1.own.later ha1).put_to (i := a + 1) HT.out.2 ho4 hx4 ha4 b8 g8)
        have e := nxR_i r0 vs (Gr.nl N (es.take k)) a v4 (nx ++ [b])
        rw [← HX.out.1] at e
        exact e ▸ this
      obtain ⟨V4, c4, rfl, -, -⟩ := own_slice ha3
      clear ha1 ha2 ha3 ha4 hx4 ho4
      have hva : a < vs.length := by omega
      refine wpl_set_blk hB4 a _ (by kernel_rfl) hva rfl rfl rfl rfl rfl rfl ?_
      intro w8 hB8 hg8
      have T8 := hend w8 hB8 hg8
      have HT8 := Lib.hid T8
      clear hB4 hB8 hg8 hend T8 HT
      go_wp2_with fail
      go_roundw
      case rel => exact ⟨k + 1, _, by omega, by go_num, by simpa using hvl, HT8.out⟩
      case measure => simp [intOf]; omega
    · obtain rfl : k = es.length := by omega
      rw [List.take_length] at hOk
      clear hA
      have hlr4 := HLR.out.1
      have hlrz : wr.ownsRow (Q + 1) 3 1 (.slice VB N cl) N (ilist (Gr.take N es).reverse) := own_keeps hlr4 hOk.kp (fun k hk e => by have := hTb k e; have := HLR.out.2.2 k hk; omega)
      have r0z : wr.ownsRow (Q + 1) 65 1 (.slice (some ⟨gO, 0, none⟩) N N) N (List.replicate N (.slice none 0 0)) := by
        have := hOk.own.row 0 rfl
        rw [HR0.out] at this
        exact this
      obtain ⟨wz, rfl⟩ : ∃ wz : World, wz = wr := ⟨_, rfl⟩
      have hgz : gO < wz.heap.size := (r0z.lt _ rfl).2
      have hk2 : ∀ w', Keeps (fun k => k = gO) wz w' → (∀ n, n < N → ∃ v, w'.cell? ⟨gN, n, none⟩ = some v ∧ w'.ownsRow (Q + 1) 3 1 v (Gr.next es n).length (ilist (Gr.next es n))) ∧ w'.ownsRow (Q + 1) 3 1 (.slice VB N cl) N (ilist (Gr.take N es).reverse) ∧ Below Q w w' := fun w' hk => by
        refine ⟨fun n hn => ?_, own_keeps hlrz hk (fun k hk e => by have := HLR.out.2.2 k hk; omega), hbw.trans ((hk.below (B := Q) (by have := hbw.size; have := HQ.out; omega) (fun k hk => by omega)).mono (by have := HQ.out; omega))⟩
        obtain ⟨v, hv⟩ : ∃ v, vs[n]? = some v := ⟨_, List.getElem?_eq_getElem (by omega)⟩
        have hget := nxR_get r0 vs (Gr.nl N es) n v _ hv (Gr.map_get _ _ _ hn)
        refine ⟨v, ((hOk.own.blk.keeps hk (by omega)).cell n).trans hv, own_keeps (hOk.own.row (n + 1) hget) hk (fun k hk e => ?_)⟩
        refine hOk.own.ap (n + 1) 0 _ _ hget rfl (by omega) k hk ?_
        rw [HR0.out, e]
        rfl
      have HK2 := Lib.hid hk2
      clear hk2 hlr4 hlrz hOk hbw hOT c41 HKT HLR HR0 hTb hlt
      go_wp2_with fail
      go_loopw [54] (fun i wr => ∃ (k : Nat) (os : List Value), k ≤ N ∧ i = .int .i64 (k : Int) ∧ os.length = N ∧ wr.ownsRow (Q + 1) 65 1 (.slice (some ⟨gO, 0, none⟩) N N) N os ∧ (∀ (i : Nat) (u : Value) (s : List Nat), os[i]? = some u → (Gr.bk N es k)[i]? = some s → SlU wr u s ∧ FarU (fun k => k = gO) u s) ∧ Keeps (fun k => k = gO) wz wr) (fun i _ => N - (intOf i).toNat)
      case atStart => exact ⟨0, _, Nat.zero_le _, rfl, by simp, r0z, fun i u s hu hs => by
        rw [Gr.bk_zero] at hs
        have h1 := List.eq_of_mem_replicate (List.mem_of_getElem? hu)
        have h2 := List.eq_of_mem_replicate (List.mem_of_getElem? hs)
        subst h1 h2
        exact ⟨SlU.nil _, fun h => absurd rfl h⟩, Keeps.refl _ _⟩
      case round =>
        obtain ⟨k, os, hk, rfl, hol, hro, hos, hkz⟩ := hrel
        by_cases hlt : k < N
        · obtain ⟨hnx, hlr, -⟩ := HK2.out _ hkz
          obtain ⟨n, hn⟩ : ∃ n, (Gr.take N es).reverse[k]? = some n := ⟨_, List.getElem?_eq_getElem (by rw [List.length_reverse, HL.out]; exact hlt)⟩
          have hnN : n < N := (Gr.good_take N es).lt n (List.mem_reverse.1 (List.mem_of_getElem? hn))
          obtain ⟨gl, cl', e, -, -, -, -⟩ := own_addr hlr (by omega)
          injection e with e1 e2 e3
          subst e1 e3
          have c0 := own_cell hlr (j := k) (u := .int .i64 (n : Int)) (by unfold ilist ints; rw [List.map_map, List.getElem?_map, hn]; rfl)
          obtain ⟨v, hv, hrv⟩ := hnx n hnN
          obtain ⟨V, cv, rfl, -, -⟩ := own_slice hrv
          have HN := Lib.hid (And.intro hn (And.intro hrv (And.intro hro (And.intro hos hkz))))
          have hln : (Gr.next es n).length ≤ es.length := by unfold Gr.next; rw [List.length_map]; exact List.length_filter_le _ _
          have hgr : gO < wr.heap.size := Nat.lt_of_lt_of_le hgz hkz.size
          clear hn hrv hro hos hkz hnx hlr e2
          go_wp2_with fail
          obtain ⟨wy, rfl⟩ : ∃ wy : World, wy = wr := ⟨_, rfl⟩
          clear c0 hv
          go_loopw [12, 63] (fun u i wr => ∃ j : Nat, j ≤ (Gr.next es n).length ∧ i = .int .i64 (j : Int) ∧ SlU wr u (Gr.bs N es k n j) ∧ New wy.heap.size u ∧ Below wy.heap.size wy wr) (fun _ i _ => (Gr.next es n).length - (intOf i).toNat)
          case atStart => exact ⟨0, Nat.zero_le _, rfl, by rw [Gr.bs_zero]; exact SlU.nil _, New.nil _ _ _, Below.refl _ _⟩
          case round =>
            obtain ⟨j, hj, rfl, hu, hnw, hby⟩ := hrel
            obtain ⟨A8, c8, rfl⟩ := slU_form hu
            by_cases hjl : j < (Gr.next es n).length
            · obtain ⟨m, hm⟩ : ∃ m, (Gr.next es n)[j]? = some m := ⟨_, List.getElem?_eq_getElem hjl⟩
              have hmN : m < N := (HES.out _ (Gr.mem_next.1 (List.mem_of_getElem? hm))).2
              have hrv := own_keeps HN.out.2.1 (Keeps.of_below hby (fun _ => False)) (fun _ _ => id)
              obtain ⟨gv, cv', e, -, -, -, -⟩ := own_addr hrv (by omega)
              injection e with e1 e2 e3
              subst e1 e3
              have c0 := own_cell hrv (j := j) (u := .int .i64 (m : Int)) (by unfold ilist ints; rw [List.map_map, List.getElem?_map, hm]; rfl)
              obtain ⟨um, hum⟩ : ∃ u, os[m]? = some u := ⟨_, List.getElem?_eq_getElem (by omega)⟩
              obtain ⟨sm, hsm⟩ : ∃ s, (Gr.bk N es k)[m]? = some s := ⟨_, List.getElem?_eq_getElem (by rw [Gr.bk_length]; exact hmN)⟩
              have hsu := (HN.out.2.2.2.1 m um sm hum hsm).1.below hby
              have hro := own_keeps HN.out.2.2.1 (Keeps.of_below hby (fun _ => False)) (fun _ _ => id)
              have c2 := own_cell hro hum
              obtain ⟨Am, cm, rfl⟩ := slU_form hsu
              have hst := Gr.bs_step hm (N := N) (k := k)
              rw [List.getD_eq_getElem?_getD, hsm, Option.getD_some] at hst
              have hg1 := Gr.bs_gs (fun e he => (HES.out e he).2) k n j (N := N)
              have hgm := Gr.bk_gs (fun e he => (HES.out e he).2) k _ (List.mem_of_getElem? hsm)
              have HST := Lib.hid hst
              have HJ := Lib.hid (And.intro hm hby)
              obtain ⟨sj, hsj⟩ : ∃ s, s = Gr.bs N es k n j := ⟨_, rfl⟩
              rw [← hsj] at hu hg1 HST ⊢
              have hadd := fun w' (hb : Below wr.heap.size wr w') => put_new w' _ sj m (hu.below hb) (by omega) (Nat.le_trans hg1.length (by omega))
              have hl1 : (Bs.put sj m).length ≤ 17592186044416 := Nat.le_trans (hg1.put hmN).length (by omega)
              have hl2 : sm.length ≤ 17592186044416 := Nat.le_trans hgm.length (by omega)
              have hor := fun w' (v : Value) (hb : Below wr.heap.size wr w') (hv : SlU w' v (Bs.put sj m)) => sor_new w' v _ (Bs.put sj m) sm hv (hsu.below hb) hl1 hl2
              have keepS : ∀ w', Below wr.heap.size wr w' → Below wr.heap.size wr w' ∧ w'.cell? ⟨gO, m, none⟩ = some (.slice Am sm.length cm) := fun w' hb => ⟨hb, (hb.cell (p := ⟨gO, m, none⟩) (Nat.lt_of_lt_of_le hgr hby.size)).trans c2⟩
              have hS0 := keepS _ (below_drew (Below.refl _ _))
              have hby' := Lib.hid hby.size
              clear hm hum hsm hsu hro hst hg1 hgm hby hrv e2 hnw hsj hu
              go_upto_region 19 with (fail)
              refine wp_walk (by kernel_rfl) (by kernel_rfl) (fun w w' => Below w.heap.size w w') (fun w' => Below wr.heap.size wr w' ∧ w'.cell? ⟨gO, m, none⟩ = some (.slice Am sm.length cm)) hS0 ?_
              repeat (first | (refine settle_skip (fun _ => by rfl) ?_; (simp only [Act.put, List.setIfInBounds_toArray, List.set_cons_zero, List.set_cons_succ])) | (refine' settle_run (fun _ _ => Below.refl _ _) (fun _ => by rfl) ?_ ?_; rotate_left; (focus (intro ρ w hS hF; (try dsimp only at hS); go_split_ands; go_simp; try with_reducible rfl)); (simp only [Act.put, List.setIfInBounds_toArray, List.set_cons_zero, List.set_cons_succ])))
              (refine settle_known (FSU wy.heap.size (Bs.put sj m)) (by rfl) (fun _ => by rfl)  ?_ ?_; (focus (intro ρ w hS hF K hK; (simp only [Act.put, List.setIfInBounds_toArray, List.set_cons_zero, List.set_cons_succ] at hK); go_simp; (refine (hadd _ hS.1).mono ?_; rintro e w' ⟨u, rfl, ⟨h1, h2⟩, hb'⟩; exact hK _ _ ⟨h1, h2.mono (Nat.le_trans hby'.out hS.1.size)⟩ (keepS _ (below_next hb' hS.1)) hb'))); (simp only [Act.put, List.setIfInBounds_toArray, List.set_cons_zero, List.set_cons_succ]))
              repeat (first | (refine settle_skip (fun _ => by rfl) ?_; (simp only [Act.put, List.setIfInBounds_toArray, List.set_cons_zero, List.set_cons_succ])) | (refine' settle_run (fun _ _ => Below.refl _ _) (fun _ => by rfl) ?_ ?_; rotate_left; (focus (intro ρ w hS hF; (try dsimp only at hS); go_split_ands; go_simp; try with_reducible rfl)); (simp only [Act.put, List.setIfInBounds_toArray, List.set_cons_zero, List.set_cons_succ])))
              (refine settle_known (FSU wy.heap.size (Bs.op Bs.for_ (Bs.put sj m) sm)) (by rfl) (fun _ => by rfl)  ?_ ?_; (focus (intro ρ w hS hF K hK; (simp only [Act.put, List.setIfInBounds_toArray, List.set_cons_zero, List.set_cons_succ] at hK); go_simp; (refine (hor _ _ hS.1 (hF.1 (by rfl)).1).mono ?_; rintro e w' ⟨u, rfl, ⟨h1, h2⟩, hb'⟩; exact hK _ _ ⟨h1, h2.mono (Nat.le_trans hby'.out hS.1.size)⟩ (keepS _ (below_next hb' hS.1)) hb'))); (simp only [Act.put, List.setIfInBounds_toArray, List.set_cons_zero, List.set_cons_succ]))
              (refine settle_known (FSU wy.heap.size (Bs.op Bs.for_ (Bs.put sj m) sm)) (by rfl) (fun _ => by rfl)  ?_ ?_; (focus (intro ρ w hS hF K hK; (simp only [Act.put, List.setIfInBounds_toArray, List.set_cons_zero, List.set_cons_succ] at hK); go_simp; exact hK _ _ (hF.1 (by rfl)) hS (Below.refl _ _))); (simp only [Act.put, List.setIfInBounds_toArray, List.set_cons_zero, List.set_cons_succ]))
              refine settle_nil ?_
              intro ρ wE hS hF
              obtain ⟨hE1, hE2⟩ := hF 12 (FSU wy.heap.size (Bs.op Bs.for_ (Bs.put sj m) sm)) (by repeat (first | exact List.mem_cons_self | apply List.mem_cons_of_mem))
              dsimp only
              generalize ρ 12 = v12 at hE1 hE2 ⊢
              rw [← HST.out] at hE1
              have HE := Lib.hid (And.intro hE1 (And.intro hE2 (below_next hS.1 HJ.out.2)))
              clear hF hS hS0 keepS hor hadd hE1 hE2 c2
              generalize ρ 69 = v69
              generalize ρ 74 = v74
              go_wp2_with fail
              go_roundw
              case rel => exact ⟨j + 1, by omega, by go_num, HE.out⟩
              case measure => simp [intOf]; omega
            · obtain rfl : j = (Gr.next es n).length := by omega
              have hro := own_keeps HN.out.2.2.1 (Keeps.of_below hby (fun _ => False)) (fun _ _ => id)
              have hst := Gr.bk_step HN.out.1
              have hos := fun i u s hi hs => (HN.out.2.2.2.1 i u s hi hs).1.below hby
              have hfo := fun i u s hi hs => (HN.out.2.2.2.1 i u s hi hs).2
              have hkz : Keeps (fun k => k = gO) wz wr := HN.out.2.2.2.2.trans (Keeps.of_below hby _)
              obtain ⟨sj, hsj⟩ : ∃ s, s = Gr.bs N es k n (Gr.next es n).length := ⟨_, rfl⟩
              rw [← hsj] at hu hst hnw ⊢
              have HST := Lib.hid (And.intro hst hsj)
              obtain ⟨uo, huo⟩ : ∃ u, os[n]? = some u := ⟨_, List.getElem?_eq_getElem (by omega)⟩
              have c9 := own_cell hro huo
              clear hst hsj hby
              have f0 := row_frozen hro n
              have hr6 := row_set hro n (.slice A8 sj.length c8)
              have hg6 := grown_setCell wr gO n (.slice A8 sj.length c8)
              go_wp2_with fail
              generalize (wr.setCell ⟨gO, n, none⟩ (.slice A8 sj.length c8)) = w6 at hr6 hg6 ⊢
              have kk : Keeps (fun k => k = gO) wr w6 := (Keeps.of_grown hg6).mono fun i hi => by injection hi
              have hfn : FarU (fun k => k = gO) (.slice A8 sj.length c8) sj := FarU.new hnw fun k hk => by omega
              have hend : ∀ (i : Nat) (u : Value) (s : List Nat), (os.set n (.slice A8 sj.length c8))[i]? = some u → (Gr.bk N es (k + 1))[i]? = some s → SlU w6 u s ∧ FarU (fun k => k = gO) u s := fun i u s hi hs => by
                rw [HST.out.1] at hs
                by_cases e : n = i
                · subst e
                  rw [List.getElem?_set_self (by omega)] at hi
                  rw [List.getElem?_set_self (by rw [Gr.bk_length]; omega)] at hs
                  injection hi with hi
                  injection hs with hs
                  subst hi hs
                  exact ⟨hu.far kk hfn, hfn⟩
                · rw [List.getElem?_set_ne e] at hi hs
                  exact ⟨(hos i u s hi hs).far kk (hfo i u s hi hs), hfo i u s hi hs⟩
              go_roundw
              case rel => exact ⟨k + 1, _, by omega, by go_num, by simpa using hol, hr6, hend, hkz.step kk fun _ _ h => h⟩
              case measure => simp [intOf]; omega
        · obtain rfl : k = N := by omega
          have hbw := (HK2.out _ hkz).2.2
          have hlk : (Gr.bk k es k).length = k := Gr.bk_length _ _ _
          have hSW : SlW wr (.slice (some ⟨gO, 0, none⟩) k k) (Gr.bk k es k) := by
            refine ⟨os, ?_, fun i u s hu hs => (hos i u s hu hs).1⟩
            rw [hlk]
            exact own_slV hro
          rw [Gr.bk_all HL.out] at hSW
          rw [HQ.out] at hbw
          have HE := Lib.hid (And.intro hSW hbw)
          clear hSW hbw hlk hos hro hkz hol
          go_wp2_with fail
          go_ret2
          exact ⟨_, rfl, HE.out.1, HE.out.2⟩
end Go.Proofs.YtfjmhmfkhgjnhaaDoor


namespace Go.Proofs.YtfjmhmfkhgjnhaaDoor
set_option linter.unusedVariables false
set_option linter.unusedSimpArgs false
set_option maxRecDepth 100000
open Go.RowKit

theorem Gr.wrong_zero {n : Int} {es : List Gr.Er} (h : Gr.wrong n es = 0) : Gr.okG n es = true ∧ ∃ N : Nat, n = (N : Int) ∧ N ≤ 200 ∧ (∀ e ∈ Gr.nat es, e.1 < N ∧ e.2 < N) ∧ (Gr.nat es).length = es.length ∧ (Gr.take N (Gr.nat es)).length = N := by
  have hok : Gr.okG n es = true := by
    cases h1 : Gr.okG n es with
    | true => rfl
    | false =>
      unfold Gr.wrong at h
      rw [h1] at h
      cases h
  obtain ⟨N, rfl, hN, hes, hln, -⟩ := Gr.nat_ok hok
  refine ⟨hok, N, rfl, hN, hes, hln, ?_⟩
  unfold Gr.wrong at h
  rw [hok] at h
  simp only [if_true, Int.toNat_natCast] at h
  by_cases hl : (Gr.take N (Gr.nat es)).length < N
  · rw [if_pos hl] at h
    cases h
  · have := (Gr.good_take N (Gr.nat es)).length
    omega

set_option maxHeartbeats 4000000 in
theorem behind_no (R : Int) (hR : R ≠ 0) (w : World) (x : Value) (A : Option Addr) (l c : Nat) (n : Int) (hx : x = .agg #[.int .i64 n, .slice A l c])
    (hs : ∀ w', Below w.heap.size w w' → Calls Tryd.prog 25 #[x] w' fun e w'' => ∃ v, e = .returned (.tuple #[v, .int .i64 R]) ∧ v = .slice none 0 0 ∧ Below w'.heap.size w' w'') :
    Calls Tryd.prog 35 #[x] w fun e w' => ∃ v, e = .returned (.tuple #[v, .int .i64 R]) ∧ v = .slice none 0 0 ∧ Below w.heap.size w w' := by
  subst hx
  have x0 := Blk.new w 24 [.int .i64 n, .slice A l c]
  have hb0 : Below w.heap.size w (w.alloc (.cells #[.int .i64 n, .slice A l c] 24)) := below_alloc (Below.refl _ _) _
  go_enter Tryd.func35, Tryd.ntmps35
  go_upto_region 1 with (fail)
  generalize (w.alloc (.cells #[.int .i64 n, .slice A l c] 24)) = W0 at x0 hb0 ⊢
  have d0 : W0.cell? ⟨w.heap.size, 0, none⟩ = some (.int .i64 n) := (x0.cell 0).trans rfl
  have d1 : W0.cell? ⟨w.heap.size, 1, none⟩ = some (.slice A l c) := (x0.cell 1).trans rfl
  have g0 : (R != 0) = true := by simpa using hR
  have HR := Lib.hid hR
  clear hR
  go_wp2_with fail
  refine (hs W0 hb0).mono ?_
  rintro e w1 ⟨v, rfl, rfl, hb1⟩
  have hb01 := Lib.hid (below_next hb1 hb0)
  clear d0 d1 x0 hs hb1 hb0
  go_wp2_with fail
  go_ret2
  exact ⟨_, rfl, rfl, hb01.out⟩

theorem behind_any (n : Int) (es : List Gr.Er) (w : World) (A : Option Addr) (c : Nat) (hA : SlV w 2 (.slice A es.length c) es.length (ercs es)) (hle : es.length ≤ 1099511627776) (hT : Tab w) :
    Calls Tryd.prog 35 #[.agg #[.int .i64 n, .slice A es.length c]] w fun e w' => ∃ v, e = .returned (.tuple #[v, .int .i64 (Gr.wrong n es)]) ∧ (Gr.wrong n es ≠ 0 → v = .slice none 0 0) ∧ (Gr.wrong n es = 0 → SlW w' v (Gr.behW n.toNat (Gr.nat es))) ∧ Below w.heap.size w w' := by
  have hTb : ∀ w', Below w.heap.size w w' → Tab w' := fun w' hb j hj => (hb.cell (p := ⟨0, j, none⟩) hT.lt).trans (hT j hj)
  have hs := fun w' (hb : Below w.heap.size w w') => sort_any n es w' A c (hA.below hb) hle (hTb w' hb)
  by_cases h0 : Gr.wrong n es = 0
  · obtain ⟨hok, N, rfl, hN, hes, hln, hl⟩ := Gr.wrong_zero h0
    rw [Int.toNat_natCast] at hs ⊢
    have h4 := hA
    rw [ercs_nat hok, ← hln] at h4
    have hb := behind_yes N (Gr.nat es) w A c hN hes hl h4 (by omega) (fun w' hb => by
      rw [hln]
      refine (hs w' hb).mono ?_
      rintro e w'' ⟨v, rfl, -, h2, h3⟩
      have := h2 h0
      rw [hl] at this
      exact ⟨v, by rw [h0], this, h3⟩)
    rw [hln] at hb
    refine hb.mono ?_
    rintro e w' ⟨v, rfl, h1, h2⟩
    exact ⟨v, by rw [h0], fun h => absurd h0 h, fun _ => h1, h2⟩
  · refine (behind_no (Gr.wrong n es) h0 w _ A es.length c n rfl fun w' hb => ?_).mono ?_
    · refine (hs w' hb).mono ?_
      rintro e w'' ⟨v, rfl, h1, -, h3⟩
      exact ⟨v, rfl, h1 h0, h3⟩
    · rintro e w' ⟨v, rfl, h1, h2⟩
      exact ⟨v, rfl, fun _ => h1, fun h => absurd h h0, h2⟩
end Go.Proofs.YtfjmhmfkhgjnhaaDoor


namespace Go.Proofs.YtfjmhmfkhgjnhaaDoor.Gr
set_option linter.unusedVariables false
set_option linter.unusedSimpArgs false
set_option maxRecDepth 100000

theorem now_short {N : Nat} {es : List Ed} {w : Nat} {D : List Nat} (h : (now N es w D).length < w) {m : Nat} (hm : m < N) (hr : rdy es D m = true) : m ∈ now N es w D := by
  unfold now at h ⊢
  rw [List.length_take] at h
  rw [List.take_of_length_le (by omega)]
  exact List.mem_filter.2 ⟨List.mem_range.2 hm, hr⟩

/-- a round that is not full does all of the lowest level that is left -/
theorem brent_from {N v h : Nat} {es : List Ed} {lv : Nat → Nat} (hes : ∀ e ∈ es, e.1 < N) (up : ∀ e ∈ es, lv e.1 < lv e.2) (top : ∀ m, m < N → lv m < h) :
    ∀ (f : Nat) (D : List Nat) (lo : Nat), Good N es D → lo ≤ h → (∀ m, m < N → m ∉ D → lo ≤ lv m) → (v + 1) * (rounds N es (v + 1) f D).length + D.length ≤ N + v * (h - lo)
  | 0, D, lo, hG, hlo, hmin => by
    have := hG.length
    rw [rounds]
    simp only [List.length_nil, Nat.mul_zero]
    omega
  | f + 1, D, lo, hG, hlo, hmin => by
    unfold rounds
    split
    · have := hG.length
      simp only [List.length_nil, Nat.mul_zero]
      omega
    · rename_i hne
      have hG' := hG.round (w := v + 1)
      have hl := hG'.length
      have h0 : 0 < (now N es (v + 1) D).length := List.length_pos_iff.2 hne
      rw [List.length_append] at hl
      rw [List.length_cons, Nat.mul_add, Nat.mul_one]
      by_cases hfull : (now N es (v + 1) D).length < v + 1
      · have hlo1 : lo + 1 ≤ h := by
          obtain ⟨m, hm⟩ := List.exists_mem_of_ne_nil _ hne
          obtain ⟨m1, m2⟩ := now_mem hm
          have := top m m1
          have := hmin m m1 (rdy_iff.1 m2).1
          omega
        have ih := brent_from (v := v) hes up top f (D ++ now N es (v + 1) D) (lo + 1) hG' hlo1 (fun m hm hmD => by
          have hmD' : m ∉ D := fun x => hmD (List.mem_append_left _ x)
          have h1 := hmin m hm hmD'
          refine Decidable.byContradiction fun hlt => hmD (List.mem_append_right _ (now_short hfull hm (rdy_iff.2 ⟨hmD', fun e he em => ?_⟩)))
          refine Decidable.byContradiction fun hin => ?_
          have h2 := hmin e.1 (hes e he) hin
          have h3 := up e he
          rw [em] at h3
          omega)
        rw [List.length_append] at ih
        have e1 : v * (h - lo) = v * (h - (lo + 1)) + v := by
          rw [show h - lo = (h - (lo + 1)) + 1 by omega, Nat.mul_add, Nat.mul_one]
        omega
      · have ih := brent_from (v := v) hes up top f (D ++ now N es (v + 1) D) lo hG' hlo (fun m hm hmD => hmin m hm (fun x => hmD (List.mem_append_left _ x)))
        have := now_length N es (v + 1) D
        rw [List.length_append] at ih
        omega
theorem brent {N v h : Nat} {es : List Ed} {lv : Nat → Nat} (hes : ∀ e ∈ es, e.1 < N) (up : ∀ e ∈ es, lv e.1 < lv e.2) (top : ∀ m, m < N → lv m < h) : (v + 1) * (all N es (v + 1)).length ≤ N + v * h := by
  have := brent_from (v := v) hes up top N [] 0 (Good.nil N es) (Nat.zero_le _) (fun m _ _ => Nat.zero_le _)
  simpa [all] using this
/-- no fewer rounds than levels -/
theorem level_le {N w : Nat} {es : List Ed} {lv : Nat → Nat} (down : ∀ m, m < N → 0 < lv m → ∃ e ∈ es, e.2 = m ∧ lv e.1 + 1 = lv m) (hes : ∀ e ∈ es, e.1 < N) : ∀ (n m k : Nat) (a : List Nat), lv m = n → m < N → (all N es w)[k]? = some a → m ∈ a → lv m ≤ k := by
  intro n
  induction n with
  | zero => intro m k a h _ _ _; omega
  | succ n ih =>
    intro m k a h hm hk ha
    obtain ⟨e, he, em, hl⟩ := down m hm (by omega)
    obtain ⟨j, b, hjk, hj, hb⟩ := all_order hk ha e he em
    have := ih e.1 j b (by omega) (hes e he) hj hb
    omega
theorem rounds_high {N w h : Nat} {es : List Ed} {lv : Nat → Nat} (hw : 0 < w) (hT : (take N es).length = N) (down : ∀ m, m < N → 0 < lv m → ∃ e ∈ es, e.2 = m ∧ lv e.1 + 1 = lv m) (hes : ∀ e ∈ es, e.1 < N) (hh : ∃ m, m < N ∧ lv m + 1 = h) : h ≤ (all N es w).length := by
  obtain ⟨m, hm, e⟩ := hh
  obtain ⟨a, ha, hma⟩ := List.mem_flatten.1 ((all_full hw hT).1 m hm)
  obtain ⟨k, hk⟩ := List.getElem?_of_mem ha
  have h1 := level_le down hes _ m k a rfl hm hk hma
  have h2 := (List.getElem?_eq_some_iff.1 hk).1
  omega
theorem rounds_work {N w : Nat} {es : List Ed} (hw : 0 < w) (hT : (take N es).length = N) : N ≤ w * (all N es w).length := by
  have h1 := (all_full hw hT).2
  have h2 : ∀ l : List (List Nat), (∀ a ∈ l, a.length ≤ w) → l.flatten.length ≤ w * l.length := by
    intro l
    induction l with
    | nil => simp
    | cons a l ih =>
      intro h
      have h3 := h a (by simp)
      have h4 := ih (fun x hx => h x (by simp [hx]))
      rw [List.flatten_cons, List.length_append, List.length_cons, Nat.mul_add, Nat.mul_one]
      omega
  have := h2 (all N es w) (fun a ha => by
    obtain ⟨k, hk⟩ := List.getElem?_of_mem ha
    rw [(rounds_at N [] k a hk).1]
    exact now_length _ _ _ _)
  omega
end Go.Proofs.YtfjmhmfkhgjnhaaDoor.Gr


namespace Go.Proofs.YtfjmhmfkhgjnhaaDoor.Gr
set_option linter.unusedVariables false
set_option linter.unusedSimpArgs false
set_option maxRecDepth 100000

/-- the edges between those that are left -/
def left (es : List Ed) (D : List Nat) : List Ed := es.filter fun e => !D.contains e.1 && !D.contains e.2
theorem mem_left {es : List Ed} {D : List Nat} {e : Ed} : e ∈ left es D ↔ e ∈ es ∧ e.1 ∉ D ∧ e.2 ∉ D := by
  unfold left
  rw [List.mem_filter, Bool.and_eq_true]
  simp
/-- levels of a graph -/
structure Lv (N : Nat) (es : List Ed) (lv : Nat → Nat) (h : Nat) : Prop where
  up : ∀ e ∈ es, lv e.1 < lv e.2
  down : ∀ m, m < N → 0 < lv m → ∃ e ∈ es, e.2 = m ∧ lv e.1 + 1 = lv m
  top : ∀ m, m < N → lv m < h
  hit : ∃ m, m < N ∧ lv m + 1 = h
theorem idle_low {N w h h' : Nat} {es : List Ed} {D : List Nat} {lv lv' : Nat → Nat} (hes : ∀ e ∈ es, e.1 < N) (hs : (now N es w D).length < w) (h1 : Lv N (left es D) lv h) (h2 : Lv N (left es (D ++ now N es w D)) lv' h') :
    ∀ (n m : Nat), lv' m = n → m < N → m ∉ D ++ now N es w D → lv' m + 1 ≤ lv m := by
  intro n
  induction n with
  | zero =>
    intro m h0 hm hmD
    have hD : m ∉ D := fun x => hmD (List.mem_append_left _ x)
    rcases hr : rdy es D m with _ | _
    · obtain ⟨e, he, em, hin⟩ : ∃ e ∈ es, e.2 = m ∧ e.1 ∉ D := by
        refine Decidable.byContradiction fun hno => ?_
        have : rdy es D m = true := rdy_iff.2 ⟨hD, fun e he em => Decidable.byContradiction fun hin => hno ⟨e, he, em, hin⟩⟩
        rw [hr] at this
        cases this
      have := h1.up e (mem_left.2 ⟨he, hin, by rw [em]; exact hD⟩)
      rw [em] at this
      omega
    · exact absurd (List.mem_append_right _ (now_short hs hm hr)) hmD
  | succ n ih =>
    intro m h0 hm hmD
    obtain ⟨e, he, em, hl⟩ := h2.down m hm (by omega)
    obtain ⟨he1, he2, he3⟩ := mem_left.1 he
    have h3 := ih e.1 (by omega) (hes e he1) he2
    have h4 := h1.up e (mem_left.2 ⟨he1, fun x => he2 (List.mem_append_left _ x), fun x => he3 (List.mem_append_left _ x)⟩)
    rw [em] at h4
    omega
/-- the longest way among those left is shorter behind a round that is not full -/
theorem idle_height {N w h h' : Nat} {es : List Ed} {D : List Nat} {lv lv' : Nat → Nat} (hes : ∀ e ∈ es, e.1 < N) (hs : (now N es w D).length < w) (h1 : Lv N (left es D) lv h) (h2 : Lv N (left es (D ++ now N es w D)) lv' h') (hG : Good N es (D ++ now N es w D)) (hl : (D ++ now N es w D).length < N) : h' < h := by
  obtain ⟨m, hm, e⟩ := h2.hit
  by_cases hmD : m ∈ D ++ now N es w D
  · have hz : lv' m = 0 := by
      refine Decidable.byContradiction fun hne => ?_
      obtain ⟨x, hx, xm, -⟩ := h2.down m hm (by omega)
      obtain ⟨-, -, h3⟩ := mem_left.1 hx
      exact h3 (by rw [xm]; exact hmD)
    obtain ⟨y, hy, hyD⟩ : ∃ y, y < N ∧ y ∉ D ++ now N es w D := by
      refine Decidable.byContradiction fun hno => ?_
      have := (List.nodup_range (n := N)).length_le_of_subset (l₂ := D ++ now N es w D) (fun x hx => Decidable.byContradiction fun h => hno ⟨x, List.mem_range.1 hx, h⟩)
      rw [List.length_range] at this
      omega
    have h3 := idle_low hes hs h1 h2 _ y rfl hy hyD
    have h4 := h1.top y hy
    omega
  · have h3 := idle_low hes hs h1 h2 _ m rfl hm hmD
    have h4 := h1.top m hm
    omega
end Go.Proofs.YtfjmhmfkhgjnhaaDoor.Gr


namespace Go.Proofs.YtfjmhmfkhgjnhaaDoor.Gr
set_option linter.unusedVariables false
set_option linter.unusedSimpArgs false
set_option maxRecDepth 100000

def lget (L : List Nat) (m : Nat) : Nat := L.getD m 0
theorem lget_some {L : List Nat} {m : Nat} (h : m < L.length) : L[m]? = some (lget L m) := by simp [lget, List.getElem?_eq_getElem h]
theorem lget_set {L : List Nat} {m : Nat} (h : m < L.length) (x k : Nat) : lget (L.set m x) k = if k = m then x else lget L k := by
  unfold lget
  rw [List.getD_eq_getElem?_getD, List.getElem?_set, List.getD_eq_getElem?_getD]
  by_cases hk : m = k
  · subst hk; simp [h]
  · rw [if_neg hk, if_neg (fun e => hk e.symm)]
/-- D has told all; of those that n leads to, the first j have been told -/
structure LvI (N : Nat) (es : List Ed) (D : List Nat) (n j : Nat) (L : List Nat) : Prop where
  len : L.length = N
  up : ∀ e ∈ es, e.1 ∈ D → lget L e.1 + 1 ≤ lget L e.2
  upn : ∀ m ∈ (next es n).take j, lget L n + 1 ≤ lget L m
  down : ∀ m, 0 < lget L m → ∃ e ∈ es, e.2 = m ∧ e.1 ∈ D ++ [n] ∧ lget L e.1 + 1 = lget L m
  low : lget L n ≤ D.length
  top : ∀ m, lget L m ≤ D.length + 1
/-- D has told all -/
structure LvD (N : Nat) (es : List Ed) (D : List Nat) (L : List Nat) : Prop where
  len : L.length = N
  up : ∀ e ∈ es, e.1 ∈ D → lget L e.1 + 1 ≤ lget L e.2
  down : ∀ m, 0 < lget L m → ∃ e ∈ es, e.2 = m ∧ e.1 ∈ D ∧ lget L e.1 + 1 = lget L m
  top : ∀ m, lget L m ≤ D.length
/-- the levels of a graph -/
structure LvL (N : Nat) (es : List Ed) (L : List Nat) : Prop where
  len : L.length = N
  up : ∀ e ∈ es, lget L e.1 < lget L e.2
  down : ∀ m, 0 < lget L m → ∃ e ∈ es, e.2 = m ∧ lget L e.1 + 1 = lget L m
theorem LvD.start (N : Nat) (es : List Ed) : LvD N es [] (List.replicate N 0) := by
  have h0 : ∀ m, lget (List.replicate N 0) m = 0 := fun m => by
    unfold lget
    rw [List.getD_eq_getElem?_getD, List.getElem?_replicate]
    split <;> rfl
  exact ⟨by simp, fun e _ h => (by cases h), fun m h => (by rw [h0] at h; omega), fun m => (by rw [h0]; exact Nat.zero_le _)⟩
section
variable {N n j m : Nat} {es : List Ed} {D L : List Nat}
theorem LvD.begin (h : LvD N es D L) : LvI N es D n 0 L :=
  ⟨h.len, h.up, fun m hm => by simp at hm, fun m hm => by
    obtain ⟨e, h1, h2, h3, h4⟩ := h.down m hm
    exact ⟨e, h1, h2, List.mem_append_left _ h3, h4⟩, h.top n, fun m => Nat.le_succ_of_le (h.top m)⟩
theorem LvI.tell (h : LvI N es D n j L) (hj : (next es n)[j]? = some m) (hm : m < N) (hmD : m ∉ D ++ [n]) : LvI N es D n (j + 1) (L.set m (max (lget L m) (lget L n + 1))) := by
  have hs := lget_set (L := L) (m := m) (by rw [h.len]; exact hm) (max (lget L m) (lget L n + 1))
  have hD : ∀ a ∈ D ++ [n], lget (L.set m (max (lget L m) (lget L n + 1))) a = lget L a := fun a ha => by
    rw [hs, if_neg (fun e => hmD (by rw [← e]; exact ha))]
  have hge : ∀ a, lget L a ≤ lget (L.set m (max (lget L m) (lget L n + 1))) a := fun a => by
    rw [hs]
    split
    · rename_i e; subst e; exact Nat.le_max_left _ _
    · exact Nat.le_refl _
  have hn := hD n (by simp)
  have hlen : (L.set m (max (lget L m) (lget L n + 1))).length = N := by simpa using h.len
  generalize L.set m (max (lget L m) (lget L n + 1)) = L' at hs hD hge hn hlen ⊢
  refine ⟨hlen, fun e he hin => ?_, fun x hx => ?_, fun x hx => ?_, by rw [hn]; exact h.low, fun x => ?_⟩
  · rw [hD _ (List.mem_append_left _ hin)]
    exact Nat.le_trans (h.up e he hin) (hge _)
  · rw [hn]
    rw [take_snoc hj, List.mem_append] at hx
    rcases hx with hx | hx
    · exact Nat.le_trans (h.upn x hx) (hge _)
    · rw [List.mem_singleton.1 hx, hs, if_pos rfl]
      exact Nat.le_max_right _ _
  · by_cases e : x = m
    · subst e
      rw [hs, if_pos rfl] at hx ⊢
      by_cases hc : lget L x ≤ lget L n + 1
      · rw [Nat.max_eq_right hc]
        exact ⟨(n, x), mem_next.1 (List.mem_of_getElem? hj), rfl, by simp, by rw [hn]⟩
      · rw [Nat.max_eq_left (by omega)] at hx ⊢
        obtain ⟨e, h1, h2, h3, h4⟩ := h.down x (by omega)
        exact ⟨e, h1, h2, h3, by rw [hD _ h3]; exact h4⟩
    · rw [hs, if_neg e] at hx ⊢
      obtain ⟨e, h1, h2, h3, h4⟩ := h.down x hx
      exact ⟨e, h1, h2, h3, by rw [hD _ h3]; exact h4⟩
  · rw [hs]
    have := h.top x
    have := h.top m
    have := h.low
    split <;> omega
theorem LvI.finish (h : LvI N es D n (next es n).length L) : LvD N es (D ++ [n]) L := by
  refine ⟨h.len, fun e he hin => ?_, h.down, fun m => by rw [List.length_append]; exact h.top m⟩
  rcases List.mem_append.1 hin with hin | hin
  · exact h.up e he hin
  · have e1 := List.mem_singleton.1 hin
    rw [e1]
    have := h.upn e.2
    rw [List.take_length] at this
    exact this (mem_next.2 (by rw [← e1]; exact he))
theorem LvD.all (h : LvD N es D L) (hD : ∀ e ∈ es, e.1 ∈ D) : LvL N es L :=
  ⟨h.len, fun e he => h.up e he (hD e he), fun m hm => by
    obtain ⟨e, h1, h2, -, h4⟩ := h.down m hm
    exact ⟨e, h1, h2, h4⟩⟩
end
/-- whom a node of the order leads to comes later -/
theorem later_out {N k n m : Nat} {es : List Ed} {l : List Nat} (hg : Good N es l) (hk : l[k]? = some n) (hm : m ∈ next es n) : m ∉ l.take k ++ [n] := fun h => by
  have hed := mem_next.1 hm
  have hnm : ∀ i, l[i]? = some m → i ≤ k → False := fun i hi hik => by
    have := hg.topo i m hi _ hed rfl
    obtain ⟨j, hj⟩ := List.getElem?_of_mem this
    rw [List.getElem?_take] at hj
    split at hj
    · have := (List.getElem?_inj (by have := (List.getElem?_eq_some_iff.1 hk).1; omega) hg.nd).1 (hj.trans hk.symm)
      omega
    · cases hj
  rcases List.mem_append.1 h with h | h
  · obtain ⟨i, hi⟩ := List.getElem?_of_mem h
    rw [List.getElem?_take] at hi
    split at hi
    · exact hnm i hi (by omega)
    · cases hi
  · rw [List.mem_singleton.1 h] at hnm
    exact hnm k hk (Nat.le_refl _)
/-- how many levels there are -/
def hgt (L : List Nat) : Nat := if L = [] then 0 else L.foldl max 0 + 1
theorem foldl_max : ∀ (L : List Nat) (a : Nat), a ≤ L.foldl max a ∧ (∀ x ∈ L, x ≤ L.foldl max a) ∧ (L.foldl max a = a ∨ L.foldl max a ∈ L)
  | [], a => ⟨Nat.le_refl _, fun _ h => (by cases h), .inl rfl⟩
  | y :: L, a => by
    obtain ⟨h1, h2, h3⟩ := foldl_max L (max a y)
    rw [List.foldl_cons]
    refine ⟨Nat.le_trans (Nat.le_max_left _ _) h1, fun x hx => ?_, ?_⟩
    · rcases List.mem_cons.1 hx with rfl | hx
      · exact Nat.le_trans (Nat.le_max_right _ _) h1
      · exact h2 x hx
    · rcases h3 with h3 | h3
      · rw [h3]
        rcases Nat.le_total a y with h | h
        · right; rw [Nat.max_eq_right h]; exact List.mem_cons_self
        · left; exact Nat.max_eq_left h
      · exact .inr (List.mem_cons_of_mem _ h3)
theorem LvL.lv {N : Nat} {es : List Ed} {L : List Nat} (h : LvL N es L) (hN : 0 < N) : Lv N es (lget L) (hgt L) := by
  have hne : L ≠ [] := fun e => by have := h.len; rw [e] at this; simp at this; omega
  obtain ⟨-, h2, h3⟩ := foldl_max L 0
  unfold hgt
  rw [if_neg hne]
  refine ⟨h.up, fun m _ hm => h.down m hm, fun m hm => ?_, ?_⟩
  · have := h2 (lget L m) (List.mem_of_getElem? (lget_some (by rw [h.len]; exact hm)))
    omega
  · have hin : L.foldl max 0 ∈ L := by
      rcases h3 with h3 | h3
      · rw [h3]
        have := h2 _ (List.mem_of_getElem? (lget_some (L := L) (m := 0) (by rw [h.len]; exact hN)))
        rw [h3] at this
        have h0 : lget L 0 = 0 := by omega
        rw [← h0]
        exact List.mem_of_getElem? (lget_some (by rw [h.len]; exact hN))
      · exact h3
    obtain ⟨i, hi⟩ := List.getElem?_of_mem hin
    have hil := (List.getElem?_eq_some_iff.1 hi).1
    refine ⟨i, by rw [← h.len]; exact hil, ?_⟩
    rw [lget_some hil] at hi
    injection hi with hi
    rw [hi]
end Go.Proofs.YtfjmhmfkhgjnhaaDoor.Gr


namespace Go.Proofs.YtfjmhmfkhgjnhaaDoor
set_option linter.unusedVariables false
set_option linter.unusedSimpArgs false
set_option maxRecDepth 100000
open Go.RowKit

set_option maxHeartbeats 4000000 in
theorem levels_yes (N : Nat) (es : List Gr.Ed) (w : World) (A : Option Addr) (c : Nat) (hN : N ≤ 200) (hes : ∀ e ∈ es, e.1 < N ∧ e.2 < N) (hl : (Gr.take N es).length = N) (hA : SlV w 2 (.slice A es.length c) es.length (edcs es)) (hle : es.length ≤ 1099511627776)
    (hs : ∀ w', Below w.heap.size w w' → Calls Tryd.prog 25 #[.agg #[.int .i64 (N : Int), .slice A es.length c]] w' fun e w'' => ∃ v, e = .returned (.tuple #[v, .int .i64 0]) ∧ w''.ownsRow w'.heap.size 3 1 v N (ilist (Gr.take N es)) ∧ Below w'.heap.size w' w'') :
    Calls Tryd.prog 10 #[.agg #[.int .i64 (N : Int), .slice A es.length c]] w fun e w' => ∃ v L, e = .returned (.tuple #[v, .int .i64 0]) ∧ w'.ownsRow w.heap.size 3 1 v N (ilist L) ∧ Gr.LvL N es L ∧ (∀ m, Gr.lget L m ≤ N) ∧ Below w.heap.size w w' := by
  have HES := Lib.hid hes
  have HL := Lib.hid hl
  have x0 := Blk.new w 24 [.int .i64 (N : Int), .slice A es.length c]
  have hb0 : Below w.heap.size w (w.alloc (.cells #[.int .i64 (N : Int), .slice A es.length c] 24)) := below_alloc (Below.refl _ _) _
  have hz0 : (w.alloc (.cells #[.int .i64 (N : Int), .slice A es.length c] 24)).heap.size = w.heap.size + 1 := by simp
  have HZ0 := Lib.hid hz0
  clear hes hl hz0
  have n47 : 8 * N ≤ 281474976710656 := by omega
  have n47' : 24 * N ≤ 281474976710656 := by omega
  have n63 : N ≤ 9223372036854775807 := by omega
  go_enter Tryd.func10, Tryd.ntmps10
  go_upto_region 1 with (fail)
  have HZ := Lib.hid HZ0.out
  clear HZ0
  generalize (w.alloc (.cells #[.int .i64 (N : Int), .slice A es.length c] 24)) = W0 at x0 hb0 HZ ⊢
  have d0 : W0.cell? ⟨w.heap.size, 0, none⟩ = some (.int .i64 (N : Int)) := (x0.cell 0).trans rfl
  have d1 : W0.cell? ⟨w.heap.size, 1, none⟩ = some (.slice A es.length c) := (x0.cell 1).trans rfl
  go_wp2_with fail
  refine (hs W0 hb0).mono ?_
  rintro e w1 ⟨lv, rfl, ho1, hb1⟩
  obtain ⟨VB, cl, rfl, -, -⟩ := own_slice ho1
  have x1 := x0.below hb1
  have hb01 := below_next hb1 hb0
  have c0 : w1.cell? ⟨w.heap.size, 0, none⟩ = some (.int .i64 (N : Int)) := (x1.cell 0).trans rfl
  have c1 : w1.cell? ⟨w.heap.size, 1, none⟩ = some (.slice A es.length c) := (x1.cell 1).trans rfl
  clear d0 d1 x0 hs
  go_wp2_with (first | (at_make; refine wp_make _ 26 3 (.int .i64 0) 8 N Tryd.underlying26 info_int rfl (by omega) (by omega) n47 n63 rfl rfl rfl rfl ?_; intro w2 hown2 hb2 hs2; have x2 := x1.below hb2; have c20 : w2.cell? ⟨w.heap.size, 0, none⟩ = some (.int .i64 (N : Int)) := (x2.cell 0).trans rfl; have c21 : w2.cell? ⟨w.heap.size, 1, none⟩ = some (.slice A es.length c) := (x2.cell 1).trans rfl) | (at_make; refine wp_make _ 49 26 (.slice none 0 0) 24 N Tryd.underlying49 info_sint rfl (by omega) (by omega) n47' n63 rfl rfl rfl rfl ?_; intro w4 hown4 hb4 hs4; have x4 := x2.below hb4; have c40 : w4.cell? ⟨w.heap.size, 0, none⟩ = some (.int .i64 (N : Int)) := (x4.cell 0).trans rfl; have c41 : w4.cell? ⟨w.heap.size, 1, none⟩ = some (.slice A es.length c) := (x4.cell 1).trans rfl) | fail)
  have hlge : ∀ k, (Value.slice VB N cl).ownBlock = some k → w.heap.size + 1 ≤ k := fun k hk => by have := own_ge ho1 k hk; have := HZ.out; omega
  have hllt : ∀ k, (Value.slice VB N cl).ownBlock = some k → k < w1.heap.size := fun k hk => (ho1.lt k hk).2
  have hlr : w4.ownsRow W0.heap.size 3 1 (.slice VB N cl) N (ilist (Gr.take N es)) := own_keeps ho1 (Keeps.of_below (below_next hb4 hb2) (fun _ => False)) (fun _ _ => id)
  have hor := own_keeps hown2 (Keeps.of_below hb4 (fun _ => False)) (fun _ _ => id)
  have hnb := row_whole hown4
  have hb04 := below_next hb4 (below_next hb2 hb01)
  have hsQ : W0.heap.size = w.heap.size + 1 := HZ.out
  have hsW0 := hb1.size
  rw [hs2] at hnb
  have hs42 : w1.heap.size + 1 < w4.heap.size := by have := hnb.lt; omega
  have hne0 : (Value.slice (some ⟨w1.heap.size, 0, none⟩) N N).ownBlock ≠ some (w1.heap.size + 1) := fun e => by
    have h2 : w1.heap.size = w1.heap.size + 1 := (by injection e)
    omega
  have hO : Own (w.heap.size + 1) w4 (w1.heap.size + 1) 26 (List.replicate N (.slice none 0 0)) (nxR ⟨3, 1, .slice (some ⟨w1.heap.size, 0, none⟩) N N, N, List.replicate N (.int .i64 0)⟩ (List.replicate N (.slice none 0 0)) (Gr.nl N [])) :=
    nx_start _ (own_base hor (by omega)) hne0 hnb (by have := hb04.size; omega) (by omega)
  have hlr' : w4.ownsRow (w.heap.size + 1) 3 1 (.slice VB N cl) N (ilist (Gr.take N es)) := own_base hlr (by omega)
  have hsz : w.heap.size + 1 ≤ w1.heap.size ∧ w1.heap.size < w1.heap.size + 1 ∧ w1.heap.size + 1 < w4.heap.size := ⟨by omega, by omega, hs42⟩
  clear hlr hor hnb hne0 hown2 hown4 ho1 hb4 hs4 hb2 hs2 hsQ hsW0 hs42 x1 x2 x4 c0 c1 c20 c21 HZ hb0 hb01 hb1
  obtain ⟨gO, hgO⟩ : ∃ g, g = w1.heap.size := ⟨_, rfl⟩
  obtain ⟨gN, hgN⟩ : ∃ g, g = w1.heap.size + 1 := ⟨_, rfl⟩
  obtain ⟨Q, hQ⟩ : ∃ g, g = w.heap.size := ⟨_, rfl⟩
  have HQ := Lib.hid hQ
  simp only [← hgO, ← hQ] at hb04 hO hlr' hsz hlge hllt c40 c41 hgN ⊢
  simp only [← hgN] at hO hsz ⊢
  clear hgO hgN hQ
  obtain ⟨r0, hr0⟩ : ∃ r : Rw, r = ⟨3, 1, .slice (some ⟨gO, 0, none⟩) N N, N, List.replicate N (.int .i64 0)⟩ := ⟨_, rfl⟩
  rw [← hr0] at hO
  have hOT := OwnTo.start hO
  have hkT : ∀ w', Keeps (Tw gN (nxR r0 (List.replicate N (.slice none 0 0)) (Gr.nl N []))) w4 w' → Below Q w w' := fun w' h => hb04.trans ((hO.below h).mono (by omega))
  have hTb : ∀ k, Tw gN (nxR r0 (List.replicate N (.slice none 0 0)) (Gr.nl N [])) k → gO ≤ k := fun k hk => by
    rcases hk with rfl | ⟨s, hs, hk⟩
    · exact Nat.le_of_lt hsz.2.1
    · unfold nxR at hs
      rw [nl_nil] at hs
      rcases List.mem_cons.1 hs with rfl | hs
      · rw [hr0] at hk
        have : gO = k := by injection hk
        omega
      · have hz : List.zipWith irw (List.replicate N (.slice none 0 0)) (List.replicate N []) = List.replicate N (irw (.slice none 0 0) []) := by simp
        rw [hz] at hs
        rw [(List.mem_replicate.1 hs).2] at hk
        simp [irw, Value.ownBlock] at hk
  obtain ⟨T0, hT0⟩ : ∃ T, T = Tw gN (nxR r0 (List.replicate N (.slice none 0 0)) (Gr.nl N [])) := ⟨_, rfl⟩
  rw [← hT0] at hOT hkT hTb
  have HR0 := Lib.hid hr0
  have HKT := Lib.hid hkT
  have HLR := Lib.hid (And.intro hlr' (And.intro hlge hllt))
  clear hO hT0 hr0 hkT hlr' hlge hllt hb04 c40
  go_loopw [31] (fun i wr => ∃ (k : Nat) (vs : List Value), k ≤ es.length ∧ i = .int .i64 (k : Int) ∧ vs.length = N ∧ OwnTo (Q + 1) w4 T0 wr gN 26 vs (nxR r0 vs (Gr.nl N (es.take k)))) (fun i _ => es.length - (intOf i).toNat)
  case atStart => exact ⟨0, _, Nat.zero_le _, rfl, by simp, hOT⟩
  case round =>
    obtain ⟨k, vs, hk, rfl, hvl, hOk⟩ := hrel
    have hbw := HKT.out _ hOk.kp
    by_cases hlt : k < es.length
    · obtain ⟨⟨a, b⟩, hx⟩ : ∃ x, es[k]? = some x := ⟨_, List.getElem?_eq_getElem hlt⟩
      obtain ⟨ha, hb⟩ := HES.out _ (List.mem_of_getElem? hx)
      have gx := flat_get edc 2 (fun _ => rfl) es k
      have g1 := gx 0 _ hx (by omega)
      have g2 := gx 1 _ hx (by omega)
      rw [HQ.out] at hbw
      obtain ⟨A', c', he, -, -, -, hcc⟩ := hA.below hbw
      injection he with e1 e2 e3
      subst e1 e3
      obtain ⟨g, o, rfl, hgl, hcell⟩ := hcc.at_ (fun e => by rw [show List.flatMap edc es = edcs es from rfl, e] at g1; simp [edc] at g1)
      have d0 : wr.cell? ⟨g, o + k * 2, none⟩ = some (.int .i64 (a : Int)) := (hcell _ _ g1).trans rfl
      have d1 : wr.cell? ⟨g, o + k * 2 + 1, none⟩ = some (.int .i64 (b : Int)) := by rw [Nat.add_assoc]; exact hcell _ _ g2
      have htk := Gr.take_snoc hx
      have hn1 := Gr.nl_one N (es.take k) a b
      rw [← htk] at hn1
      have hTA := hOk.later (below_alloc (Below.refl _ _) (.cells #[.int .i64 (a : Int), .int .i64 (b : Int)] 39))
      have hE := Blk.new wr 39 [.int .i64 (a : Int), .int .i64 (b : Int)]
      obtain ⟨v, hv⟩ : ∃ v, vs[a]? = some v := ⟨_, List.getElem?_eq_getElem (by omega)⟩
      have hnx : (Gr.nl N (es.take k))[a]? = some (Gr.next (es.take k) a) := Gr.map_get _ _ _ ha
      have hnl : (Gr.next (es.take k) a).length ≤ 1099511627776 := by
        have := List.length_filter_le (fun e : Gr.Ed => e.1 == a) (es.take k)
        rw [List.length_take] at this
        unfold Gr.next
        rw [List.length_map]
        omega
      obtain ⟨nx, hnxq⟩ : ∃ nx, nx = Gr.next (es.take k) a := ⟨_, rfl⟩
      rw [← hnxq] at hnx hn1 hnl
      clear hnxq
      have hvne : v.ownBlock ≠ some wr.heap.size := fun e => by
        have := ((hOk.own.row (a + 1) (nxR_get _ _ _ a v nx hv hnx)).lt _ e).2
        omega
      have HX := Lib.hid (And.intro hn1 (And.intro hv hnx))
      clear hv hnx
      have HA := Lib.hid hA
      clear hOk htk hn1 hx gx g1 g2 hcc hcell e2 hA hbw
      go_upto_region 9 with (fail)
      have hb5 : Below wr.heap.size wr (wr.alloc (.cells #[.int .i64 (a : Int), .int .i64 (b : Int)] 39)) := below_alloc (Below.refl _ _) _
      generalize (wr.alloc (.cells #[.int .i64 (a : Int), .int .i64 (b : Int)] 39)) = w6 at hTA hE hb5 ⊢
      clear d0 d1 hb5
      have hget := nxR_get r0 vs (Gr.nl N (es.take k)) a v nx HX.out.2.1 HX.out.2.2
      have rv : w6.ownsRow (Q + 1) 3 1 v nx.length (ilist nx) := hTA.own.row (a + 1) hget
      have hng : v.ownBlock ≠ some gN := hTA.own.ng _ (List.mem_of_getElem? hget)
      obtain ⟨VB2, cb, rfl, -, -⟩ := own_slice rv
      have hR : ∀ w', Below w6.heap.size w6 w' → w'.ownsRow (Q + 1) 3 1 (.slice VB2 nx.length cb) nx.length (ilist nx) ∧ Q + 1 ≤ w'.heap.size := fun w' hb => ⟨(hTA.own.later hb).row (a + 1) hget, (hTA.own.later hb).base⟩
      have keepS : ∀ w', Keeps (fun k => (Value.slice VB2 nx.length cb).ownBlock = some k) w6 w' → Keeps (fun k => (Value.slice VB2 nx.length cb).ownBlock = some k) w6 w' ∧ w'.cell? ⟨gN, a, none⟩ = some (.slice VB2 nx.length cb) ∧ w'.cell? ⟨wr.heap.size, 0, none⟩ = some (.int .i64 (a : Int)) ∧ w'.cell? ⟨wr.heap.size, 1, none⟩ = some (.int .i64 (b : Int)) := fun w' k =>
        ⟨k, ((hTA.own.blk.keeps k hng).cell a).trans HX.out.2.1, ((hE.keeps k hvne).cell 0).trans rfl, ((hE.keeps k hvne).cell 1).trans rfl⟩
      have hS1 := keepS _ ((Keeps.refl _ w6).drewN 1)
      have hn63 : nx.length + 1 ≤ maxLen := by unfold maxLen; omega
      have hn47 : (nx.length + 1) * 8 ≤ 140737488355328 := by omega
      have HT := Lib.hid (And.intro hTA hget)
      clear hTA rv hE hget hng hvne
      refine wp_walk_mt 13 (fun i => ([11] : List Nat).contains i) (fun i => ([0,1,2,12] : List Nat).contains i) [11] (by intro m h; simpa using h) (by kernel_rfl) (by kernel_rfl) (by kernel_rfl) (fun w w' => Below w.heap.size w w')  (fun w' => Keeps (fun k => (Value.slice VB2 nx.length cb).ownBlock = some k) w6 w' ∧ w'.cell? ⟨gN, a, none⟩ = some (.slice VB2 nx.length cb) ∧ w'.cell? ⟨wr.heap.size, 0, none⟩ = some (.int .i64 (a : Int)) ∧ w'.cell? ⟨wr.heap.size, 1, none⟩ = some (.int .i64 (b : Int))) (fun w' => Below w6.heap.size w6 w') hS1 (below_drew (Below.refl _ _)) (fun _ _ h h' => below_next h' h) ?_
      simp only [List.length_cons, List.length_nil, Nat.reduceAdd, Nat.reduceSub, List.take_succ_cons, List.take_zero, List.drop_succ_cons, List.drop_zero]
      repeat (first | (refine nsettle_skip (by rfl) (fun _ => by rfl) ?_; (simp only [Act.put, List.setIfInBounds_toArray, List.set_cons_zero, List.set_cons_succ])) | (refine' nsettle_run (by rfl) (fun _ _ => Below.refl _ _) (fun _ => by rfl) ?_ ?_; rotate_left; (focus (intro ρ w hS hF hP; (try dsimp only at hS); go_split_ands; go_simp; try with_reducible rfl)); (simp only [Act.put, List.setIfInBounds_toArray, List.set_cons_zero, List.set_cons_succ])))
      (refine nsettle_known (FSl 1 1 [.int .i64 (b : Int)]) (by rfl) (by rfl) (by rfl) (fun _ => by rfl)  ?_ ?_; (focus (intro ρ w hS hF hP K hK; (simp only [Act.put, List.setIfInBounds_toArray, List.set_cons_zero, List.set_cons_succ] at hK); go_simp; exact hK _ _ (SlV.lit w [.int .i64 (b : Int)] 3 1 1 rfl (by decide)) (keepS _ (hS.1.alloc _)) (below_alloc (Below.refl _ _) _))); (simp only [Act.put, List.setIfInBounds_toArray, List.set_cons_zero, List.set_cons_succ]))
      (refine nsettle_mark (FPush w6 (Q + 1) 3 1 (.slice VB2 nx.length cb) (nx.length + 1) (ilist nx ++ [.int .i64 (b : Int)])) (by rfl) (by rfl) (by rfl) (fun _ => by rfl) ?_ ?_; (focus (intro ρ w hS hF hP K hK; refine oper_append (.tmp 42) (.tmp 45) (Q + 1) _ _ _ _ _ Tryd.underlying26 info_int rfl (by decide) (hR w (hP (by rfl))).1 (hF.1 (by rfl)) (by simp [Value.oneCell']) hn63 hn47 (hR w (hP (by rfl))).2 rfl rfl rfl ?_; intro v' w' hown hg hv _; exact hK v' w' ⟨w, hP (by rfl), hg, hown, hv.imp id fun e => ⟨_, Nat.le_refl _, e⟩⟩ (keepS _ (hS.1.trans ((Keeps.of_grown hg).mono fun i hi => hi.symm))))); (simp only [Act.put, List.setIfInBounds_toArray, List.set_cons_zero, List.set_cons_succ]))
      repeat (first | (refine nsettle_skip (by rfl) (fun _ => by rfl) ?_; (simp only [Act.put, List.setIfInBounds_toArray, List.set_cons_zero, List.set_cons_succ])) | (refine' nsettle_run (by rfl) (fun _ _ => Below.refl _ _) (fun _ => by rfl) ?_ ?_; rotate_left; (focus (intro ρ w hS hF hP; (try dsimp only at hS); go_split_ands; go_simp; try with_reducible rfl)); (simp only [Act.put, List.setIfInBounds_toArray, List.set_cons_zero, List.set_cons_succ])))
      refine nsettle_nil ?_
      intro ρ w7 hS hF
      obtain ⟨wa, ha1, ha2, ha3, ha4⟩ := hF 46 (FPush w6 (Q + 1) 3 1 (.slice VB2 nx.length cb) (nx.length + 1) (ilist nx ++ [.int .i64 (b : Int)])) (by repeat (first | exact List.mem_cons_self | apply List.mem_cons_of_mem))
      clear hF hS hS1 keepS hR
      dsimp only
      generalize ρ 45 = v44
      generalize ρ 46 = v4 at ha3 ha4 ⊢
      have hx4 : wa.grownBy w7 (irw (.slice VB2 nx.length cb) nx).v.ownBlock := ha2
      have ho4 : w7.ownsRow (Q + 1) 3 1 v4 (nx ++ [b]).length (ilist (nx ++ [b])) := by simpa [ilist, ints] using ha3
      have hB4 := ((HT.out.1.own.later ha1).put (i := a + 1) HT.out.2 ho4 hx4 ha4).1
      have hend : ∀ w8, Blk w8 gN 26 (vs.set a v4) → w7.grownBy w8 (some gN) → OwnTo (Q + 1) w4 T0 w8 gN 26 (vs.set a v4) (nxR r0 (vs.set a v4) (Gr.nl N (es.take (k + 1)))) := fun w8 b8 g8 => by
        have := (HT.out.1.later ha1).step ((HT.out.1.own.later ha1).put_to (i := a + 1) HT.out.2 ho4 hx4 ha4 b8 g8)
        have e := nxR_i r0 vs (Gr.nl N (es.take k)) a v4 (nx ++ [b])
        rw [← HX.out.1] at e
        exact e ▸ this
      obtain ⟨V4, c4, rfl, -, -⟩ := own_slice ha3
      clear ha1 ha2 ha3 ha4 hx4 ho4
      have hva : a < vs.length := by omega
      refine wpl_set_blk hB4 a _ (by kernel_rfl) hva rfl rfl rfl rfl rfl rfl ?_
      intro w8 hB8 hg8
      have T8 := hend w8 hB8 hg8
      have HT8 := Lib.hid T8
      clear hB4 hB8 hg8 hend T8 HT
      go_wp2_with fail
      go_roundw
      case rel => exact ⟨k + 1, _, by omega, by go_num, by simpa using hvl, HT8.out⟩
      case measure => simp [intOf]; omega
    · obtain rfl : k = es.length := by omega
      rw [List.take_length] at hOk
      clear hA
      have hlr4 := HLR.out.1
      have hlrz : wr.ownsRow (Q + 1) 3 1 (.slice VB N cl) N (ilist (Gr.take N es)) := own_keeps hlr4 hOk.kp (fun k hk e => by have := hTb k e; have := HLR.out.2.2 k hk; omega)
      have r0z : wr.ownsRow (Q + 1) 3 1 (.slice (some ⟨gO, 0, none⟩) N N) N (ilist (List.replicate N 0)) := by
        have := hOk.own.row 0 rfl
        rw [HR0.out] at this
        have e : ilist (List.replicate N 0) = List.replicate N (.int .i64 0) := by simp [ilist, ints]
        rw [e]
        exact this
      obtain ⟨wz, rfl⟩ : ∃ wz : World, wz = wr := ⟨_, rfl⟩
      have hgz : gO < wz.heap.size := (r0z.lt _ rfl).2
      have hk2 : (∀ n, n < N → ∃ v, ∀ w', Keeps (fun k => k = gO) wz w' → w'.cell? ⟨gN, n, none⟩ = some v ∧ w'.ownsRow (Q + 1) 3 1 v (Gr.next es n).length (ilist (Gr.next es n))) ∧ ∀ w', Keeps (fun k => k = gO) wz w' → w'.ownsRow (Q + 1) 3 1 (.slice VB N cl) N (ilist (Gr.take N es)) ∧ Below Q w w' := by
        refine ⟨fun n hn => ?_, fun w' hk => ⟨own_keeps hlrz hk (fun k hk e => by have := HLR.out.2.2 k hk; omega), hbw.trans ((hk.below (B := Q) (by have := hbw.size; have := HQ.out; omega) (fun k hk => by omega)).mono (by have := HQ.out; omega))⟩⟩
        obtain ⟨v, hv⟩ : ∃ v, vs[n]? = some v := ⟨_, List.getElem?_eq_getElem (by omega)⟩
        have hget := nxR_get r0 vs (Gr.nl N es) n v _ hv (Gr.map_get _ _ _ hn)
        refine ⟨v, fun w' hk => ⟨((hOk.own.blk.keeps hk (by omega)).cell n).trans hv, own_keeps (hOk.own.row (n + 1) hget) hk (fun k hk e => ?_)⟩⟩
        refine hOk.own.ap (n + 1) 0 _ _ hget rfl (by omega) k hk ?_
        rw [HR0.out, e]
        rfl
      have HK2 := Lib.hid hk2
      clear hk2 hlr4 hlrz hOk hbw hOT c41 HKT HLR HR0 hTb hlt
      go_wp2_with fail
      go_loopw [51] (fun i wr => ∃ (k : Nat) (L : List Nat), k ≤ N ∧ i = .int .i64 (k : Int) ∧ wr.ownsRow (Q + 1) 3 1 (.slice (some ⟨gO, 0, none⟩) N N) N (ilist L) ∧ Gr.LvD N es ((Gr.take N es).take k) L ∧ Keeps (fun k => k = gO) wz wr) (fun i _ => N - (intOf i).toNat)
      case atStart => exact ⟨0, _, Nat.zero_le _, rfl, r0z, by rw [List.take_zero]; exact Gr.LvD.start N es, Keeps.refl _ _⟩
      case round =>
        obtain ⟨k, L, hk, rfl, hro, hL, hkz⟩ := hrel
        by_cases hlt : k < N
        · obtain ⟨hlr, -⟩ := HK2.out.2 _ hkz
          obtain ⟨n, hn⟩ : ∃ n, (Gr.take N es)[k]? = some n := ⟨_, List.getElem?_eq_getElem (by rw [HL.out]; exact hlt)⟩
          have hnN : n < N := (Gr.good_take N es).lt n (List.mem_of_getElem? hn)
          obtain ⟨gl, cl', e, -, -, -, -⟩ := own_addr hlr (by omega)
          injection e with e1 e2 e3
          subst e1 e3
          have c0 := own_cell hlr (ilist_get hn)
          obtain ⟨vn, hvk⟩ := HK2.out.1 n hnN
          obtain ⟨nx, hnxe⟩ : ∃ nx, nx = Gr.next es n := ⟨_, rfl⟩
          rw [← hnxe] at hvk
          obtain ⟨c1, hvr⟩ := hvk _ hkz
          obtain ⟨VN, cn, rfl, -, -⟩ := own_slice hvr
          have hnxl : nx.length ≤ 1099511627776 := by
            rw [hnxe]
            unfold Gr.next
            rw [List.length_map]
            exact Nat.le_trans (List.length_filter_le _ _) hle
          have hI := hL.begin (n := n)
          have HI := Lib.hid (And.intro hro (And.intro hI hkz))
          have HN := Lib.hid (And.intro hn (And.intro hnxe hvk))
          clear hlr hvr hL hro hkz hI hn hnxe r0z hvk
          go_wp2_with fail
          clear c0 c1
          go_loopw [60] (fun i wr => ∃ (j : Nat) (L : List Nat), j ≤ nx.length ∧ i = .int .i64 (j : Int) ∧ wr.ownsRow (Q + 1) 3 1 (.slice (some ⟨gO, 0, none⟩) N N) N (ilist L) ∧ Gr.LvI N es ((Gr.take N es).take k) n j L ∧ Keeps (fun k => k = gO) wz wr) (fun i _ => nx.length - (intOf i).toNat)
          case atStart => exact ⟨0, _, Nat.zero_le _, rfl, HI.out.1, HI.out.2.1, HI.out.2.2⟩
          case round =>
            clear HI
            obtain ⟨j, L, hj, rfl, hro, hI, hkz⟩ := hrel
            by_cases hjl : j < nx.length
            · obtain ⟨m, hm⟩ : ∃ m, nx[j]? = some m := ⟨_, List.getElem?_eq_getElem hjl⟩
              have hm' : (Gr.next es n)[j]? = some m := by rw [← HN.out.2.1]; exact hm
              have hmN : m < N := (HES.out _ (Gr.mem_next.1 (List.mem_of_getElem? hm'))).2
              have hmo := Gr.later_out (Gr.good_take N es) HN.out.1 (List.mem_of_getElem? hm')
              have hvr := (HN.out.2.2 _ hkz).2
              obtain ⟨gv, cv', e, -, -, -, -⟩ := own_addr hvr (by omega)
              injection e with e1 e2 e3
              subst e1 e3
              have c1 := own_cell hvr (ilist_get hm)
              have c2 := own_cell hro (ilist_get (Gr.lget_some (by rw [hI.len]; exact hmN)))
              have c3 := own_cell hro (ilist_get (Gr.lget_some (by rw [hI.len]; exact hnN)))
              have hI' := hI.tell hm' hmN hmo
              have hb1 := hI.top m
              have hb2 := hI.low
              have hkl : ((Gr.take N es).take k).length ≤ N := by rw [List.length_take]; omega
              obtain ⟨x, hx⟩ : ∃ x, x = Gr.lget L m := ⟨_, rfl⟩
              obtain ⟨y, hy⟩ : ∃ y, y = Gr.lget L n := ⟨_, rfl⟩
              rw [← hx] at c2 hb1 hI'
              rw [← hy] at c3 hb2 hI'
              have hx2 : x ≤ 1000 := by omega
              have hw : IntKind.i64.wrap ((y : Int) + 1) = (y : Int) + 1 := IntWalk.i64_in _ (by omega)
              have hy2 : y ≤ 1000 := by omega
              have HH := Lib.hid (And.intro hI' hkz)
              clear hm hm' hmo hvr hI hI' hkz hb1 hb2 hx hy hkl
              go_wp2_with fail
              (refine still_last (by kernel_rfl) (by kernel_rfl) ?_; simp only [List.length_cons, List.length_nil, Nat.reduceAdd, Nat.reduceSub, List.take_succ_cons, List.take_zero, List.drop_succ_cons, List.drop_zero]; repeat still_step; try refine wpStill_nil ?_)
              refine wpl_set_row (show (wr.drewN 1).ownsRow (Q + 1) 3 1 (.slice (some ⟨gO, 0, none⟩) N N) N (ilist L) from own_keeps hro ((Keeps.refl (fun _ => False) wr).drewN 1) (fun _ _ => id)) m (.int .i64 (max (x : Int) ((y : Int) + 1))) (by kernel_rfl) (by omega) (by rfl) (by rfl) (by rfl) (by rfl) (by rfl) (by rfl) ?_
              intro w3 hr3 hg3
              have hr3' : w3.ownsRow (Q + 1) 3 1 (.slice (some ⟨gO, 0, none⟩) N N) N (ilist (L.set m (max x (y + 1)))) := by
                have e : ilist (L.set m (max x (y + 1))) = (ilist L).set m (.int .i64 (max (x : Int) ((y : Int) + 1))) := by
                  unfold ilist
                  rw [List.map_set, ints_set]
                  congr 2
                  omega
                rw [e]
                exact hr3
              have hk3 := HH.out.2.trans (((Keeps.of_grown hg3).undrewN).mono fun i hi => by injection hi)
              have HF := Lib.hid (And.intro hr3' (And.intro HH.out.1 hk3))
              clear hr3 hg3 hr3' hk3 hro c1 c2 c3 HH
              go_wp2_with fail
              go_roundw
              case rel => exact ⟨j + 1, _, by omega, by go_num, HF.out.1, HF.out.2.1, HF.out.2.2⟩
              case measure => simp [intOf]; omega
            · obtain rfl : j = nx.length := by omega
              rw [HN.out.2.1] at hI
              have hD := hI.finish
              rw [← Gr.take_snoc HN.out.1] at hD
              have HF := Lib.hid (And.intro hro (And.intro hD hkz))
              clear hro hI hD hkz
              go_wp2_with fail
              go_roundw
              case rel => exact ⟨k + 1, _, by omega, by go_num, HF.out.1, HF.out.2.1, HF.out.2.2⟩
              case measure => simp [intOf]; omega
        · obtain rfl : N = k := by omega
          have hbf := (HK2.out.2 _ hkz).2
          rw [HQ.out] at hbf
          have hall : Gr.LvL N es L := by
            have hD := hL
            rw [List.take_of_length_le (by rw [HL.out]; exact Nat.le_refl _)] at hD
            exact hD.all (fun e he => (Gr.good_take N es).full HL.out _ (HES.out e he).1)
          have htop : ∀ m, Gr.lget L m ≤ N := fun m => Nat.le_trans (hL.top m) (by rw [List.length_take]; omega)
          have hro' := own_base hro (show w.heap.size ≤ Q + 1 by have := HQ.out; omega)
          have HF := Lib.hid (And.intro hro' (And.intro hall (And.intro htop hbf)))
          clear hro hL hkz hbf hall htop hro' r0z
          go_wp2_with fail
          go_ret2
          exact ⟨_, L, rfl, HF.out.1, HF.out.2.1, HF.out.2.2.1, HF.out.2.2.2⟩
end Go.Proofs.YtfjmhmfkhgjnhaaDoor
