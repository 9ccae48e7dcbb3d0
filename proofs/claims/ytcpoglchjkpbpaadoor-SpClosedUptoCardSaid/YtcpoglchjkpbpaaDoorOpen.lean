/-
  An argument that is a slice of structs of integers, opened.
-/
import Derived.Test.YtcpoglchjkpbpaaDoorBase
namespace Go.Proofs.YtcpoglchjkpbpaaDoor
set_option linter.unusedVariables false
set_option linter.unusedSimpArgs false
set_option maxRecDepth 100000
open Go.ChangeShapes Go.WideShapes Go.ChangeAt Go.RowKit Go.Deep

/-- every field is an int of one cell, and they lie one behind the other -/
def intFields (P : Program) (fs : Array Field) : Bool :=
  (List.range fs.size).all fun j => match fs[j]? with
    | some f => f.offset == j && P.cellsOf f.type == 1 && (match P.underlying f.type with | some (.int .i64) => true | _ => false)
    | none => false

theorem intFields_at {P : Program} {fs : Array Field} (h : intFields P fs = true) {j : Nat} (hj : j < fs.size) : ∃ f, fs[j]? = some f ∧ f.offset = j ∧ P.cellsOf f.type = 1 ∧ P.underlying f.type = some (.int .i64) := by
  have := List.all_eq_true.1 h j (by simpa using hj)
  rw [Array.getElem?_eq_getElem hj] at this
  simp only [Bool.and_eq_true, beq_iff_eq] at this
  refine ⟨fs[j], Array.getElem?_eq_getElem hj, this.1.1, this.1.2, ?_⟩
  have h3 := this.2
  split at h3
  · assumption
  · cases h3

def irow (r : List Int) : List Value := ints .i64 r

section
variable {H : Type} {enc : TypeId × Value → H} {P : Program} {w : World}

/-- one struct's cells are integers -/
theorem struct_ints {e : TypeId} {fs : Array Field} {n fuel : Nat} {cs : List Value} {x : DataW H × List MemPlace} (he : P.underlying e = some (.struct fs)) (hn : fs.size = n) (hC : P.cellsOf e = n) (hf : intFields P fs = true)
    (h : DataW.trod enc P w 0 (fun _ => true) true fuel e cs = some x) : ∃ r : List Int, r.length = n ∧ cs = irow r ∧ Wfs .i64 r := by
  obtain ⟨xs, m, _, _, hl, hxl, hfs⟩ := DataW.trod_struct he h
  rw [hC] at hl
  have each : ∀ j, j < n → ∃ k : Int, cs[j]? = some (.int .i64 k) ∧ (Lit.int .i64 k).wf = true := by
    intro j hj
    obtain ⟨f, hfj, ho, hc, hu⟩ := intFields_at hf (j := j) (by omega)
    have h1 := hfs j f hfj
    rw [ho, hc] at h1
    have hxj : xs[j]? = some xs[j] := List.getElem?_eq_getElem (by omega)
    rw [hxj] at h1
    obtain ⟨k, hk, _, hw⟩ := DataW.trod_int hu h1
    refine ⟨k, ?_, hw⟩
    have := congrArg (fun l => l[0]?) hk
    simp only [List.getElem?_cons_zero] at this
    rw [← this, List.getElem?_take, if_pos (by decide), List.getElem?_drop, Nat.add_zero]
  refine ⟨(List.range n).map fun j => intOf (cs.getD j undef), by simp, ?_, ?_⟩
  · apply List.ext_getElem?
    intro j
    by_cases hj : j < n
    · obtain ⟨k, hk, _⟩ := each j hj
      rw [hk]
      simp [irow, ints, hj, hk, List.getD, intOf]
    · rw [List.getElem?_eq_none (by omega), List.getElem?_eq_none (by simp [irow, ints]; omega)]
  · intro y hy
    obtain ⟨j, hj, rfl⟩ := List.mem_map.1 hy
    obtain ⟨k, hk, hw⟩ := each j (by simpa using hj)
    simp only [List.getD, hk, Option.getD_some, intOf]
    exact hw

/-- an argument that is a slice of structs of n integers -/
theorem open_rows {t e : TypeId} {fs : Array Field} {n : Nat} {v : Value} {d : DataW H} {ps : List MemPlace} (ht : P.underlying t = some (.slice e)) (he : P.underlying e = some (.struct fs)) (hn : fs.size = n) (hn0 : 0 < n) (hC : P.cellsOf e = n) (hf : intFields P fs = true)
    (hv : ∃ a len cap, v = .slice a len cap) (h : DataW.Trod enc P w 0 (fun _ => true) true t v d ps) (hlt : ∀ x ∈ ps, x.block < w.heap.size) :
    ∃ rs : List (List Int), (∀ r ∈ rs, r.length = n ∧ Wfs .i64 r) ∧ SlV w n v rs.length (rs.flatMap irow) ∧ ((d = .nil ∧ rs = []) ∨ ∃ (el sp : List (DataW H)), d = .slice el sp ∧ el.length = rs.length) := by
  obtain ⟨a0, len, cap, rfl⟩ := hv
  obtain ⟨fuel, hfu⟩ := h
  rcases open_slice ht hfu with ⟨hcs, hx⟩ | ⟨a, len', cap', m, k, D, Pl, hcs, _, hl, hm, hmm, hx, hi⟩
  · simp [Value.cells] at hcs
    obtain ⟨rfl, rfl, rfl⟩ := hcs
    simp only [Prod.mk.injEq] at hx
    exact ⟨[], by simp, SlV.nil _ _, .inl ⟨hx.1, rfl⟩⟩
  · simp [Value.cells] at hcs
    obtain ⟨rfl, rfl, rfl⟩ := hcs
    simp only [Prod.mk.injEq] at hx
    simp only [if_true] at hmm
    rw [hC] at hi hx
    have each : ∀ i, i < len → ∃ r : List Int, (r.length = n ∧ Wfs .i64 r) ∧ w.cells? 0 (a.add (i * n)) n = some (irow r) := by
      intro i hil
      obtain ⟨cs', hc, htr⟩ := hi i (by omega)
      obtain ⟨r, hr, hcr, hw⟩ := struct_ints he hn hC hf htr
      exact ⟨r, ⟨hr, hw⟩, by rw [hc, hcr]⟩
    obtain ⟨f, hff⟩ := choose_lt each
    have hlen : ∀ r ∈ (List.range len).map f, r.length = n ∧ Wfs .i64 r := by
      intro r hr
      obtain ⟨i, hi', rfl⟩ := List.mem_map.1 hr
      exact (hff i (by simpa using hi')).1
    have hflat : (((List.range len).map f).flatMap irow).length = len * n := by
      have : ∀ l : List (List Int), (∀ r ∈ l, r.length = n) → (l.flatMap irow).length = l.length * n := by
        intro l
        induction l with
        | nil => simp
        | cons r l ih =>
          intro hl'
          rw [List.flatMap_cons, List.length_append, ih (fun x hx => hl' x (by simp [hx])), List.length_cons, Nat.add_mul]
          have := hl' r (by simp)
          simp [irow, ints, this]
          omega
      rw [this _ fun r hr => (hlen r hr).1]
      simp
    refine ⟨(List.range len).map f, hlen, ⟨some a, cap, by simp, by simpa using hl, hm, by simpa using hflat, ?_⟩, .inr ⟨_, _, hx.1, by simp⟩⟩
    by_cases h0 : len = 0
    · subst h0
      exact Cells.nil _ _ _
    · obtain ⟨b, off, spot⟩ := a
      have hcell : ∀ i, i < len → ∀ j u, (irow (f i))[j]? = some u → w.cell? ((⟨b, off, spot⟩ : Addr).add (i * n + j)) = some u := by
        intro i hil j u hu
        have hj : j < n := by
          have := (List.getElem?_eq_some_iff.1 hu).1
          have h1 := (hff i hil).1.1
          simp [irow, ints, h1] at this
          exact this
        obtain ⟨_, _, hat⟩ := World.cells?_some (hff i hil).2
        have := hat j hj
        rw [Go.Deep.add_add] at this
        rw [this, hu]
      have hspot : spot = none := by
        have hr := (hff 0 (by omega)).1.1
        have hex : ∃ u, (irow (f 0))[0]? = some u := ⟨_, List.getElem?_eq_getElem (by simp [irow, ints]; omega)⟩
        obtain ⟨u, hu⟩ := hex
        have := hcell 0 (by omega) 0 u hu
        simpa [Addr.add] using World.cell?_spot this
      subst hspot
      refine ⟨b, off, fun _ => ⟨rfl, hlt (.cell b off) (by
        rw [hx.2]
        refine List.mem_append_left _ (MemPlace.mem_row.2 ⟨0, ?_, by simp⟩)
        exact Nat.mul_pos (by omega) hn0)⟩, fun j u hu => ?_⟩
      have hjl : j < len * n := by
        have := (List.getElem?_eq_some_iff.1 hu).1
        omega
      have hq : j / n < len := Nat.div_lt_of_lt_mul (by rw [Nat.mul_comm]; exact hjl)
      have hr : j % n < n := Nat.mod_lt _ hn0
      have hj : j = j / n * n + j % n := by have := Nat.div_add_mod j n; rw [Nat.mul_comm] at this; omega
      have hget : ((List.range len).map f)[j / n]? = some (f (j / n)) := by simp [hq]
      have key : ∀ (l : List (List Int)), (∀ r ∈ l, r.length = n) → ∀ (q s : Nat) (r : List Int), l[q]? = some r → s < n → (l.flatMap irow)[q * n + s]? = (irow r)[s]? := by
        intro l
        induction l with
        | nil => intro _ q s r h'; simp at h'
        | cons r0 l ih =>
          intro hl' q s r h' hs
          have h00 : (irow r0).length = n := by simp [irow, ints, hl' r0 (by simp)]
          rw [List.flatMap_cons]
          rcases q with _ | q
          · simp at h'
            subst h'
            rw [Nat.zero_mul, Nat.zero_add, List.getElem?_append_left (by omega)]
          · have e : (q + 1) * n + s = (irow r0).length + (q * n + s) := by rw [h00, Nat.add_mul]; omega
            rw [e, List.getElem?_append_right (by omega), Nat.add_sub_cancel_left]
            exact ih (fun x hx => hl' x (by simp [hx])) q s r (by simpa using h') hs
      rw [hj, key _ (fun r hr => (hlen r hr).1) _ _ _ hget hr] at hu
      have := hcell _ hq _ _ hu
      rw [← hj, Addr.add_lit] at this
      exact this
end
end Go.Proofs.YtcpoglchjkpbpaaDoor
