/-
  An argument that is a slice of anything whose elements are opened one by one. No program is named here.
-/
import Derived.Test.YtcpoglchjkpbpaaDoorOpen
import Derived.Test.YtcpoglchjkpbpaaDoorBase
namespace Go.Proofs.YtcpoglchjkpbpaaDoor
set_option linter.unusedVariables false
set_option linter.unusedSimpArgs false
set_option maxRecDepth 100000
open Go.ChangeShapes Go.WideShapes Go.ChangeAt Go.RowKit Go.Deep

section
variable {H : Type} {enc : TypeId × Value → H} {P : Program} {w : World}

theorem open_items {α : Type} (f : α → List Value) (n : Nat) (hf : ∀ a, (f a).length = n) (hn0 : 0 < n) (good : α → Prop) {t e : TypeId} {v : Value} {d : DataW H} {ps : List MemPlace} (ht : P.underlying t = some (.slice e)) (hC : P.cellsOf e = n)
    (each : ∀ (fuel : Nat) (cs : List Value) (x : DataW H × List MemPlace), DataW.trod enc P w 0 (fun _ => true) true fuel e cs = some x → ∃ a, cs = f a ∧ good a)
    (hv : ∃ a len cap, v = .slice a len cap) (h : DataW.Trod enc P w 0 (fun _ => true) true t v d ps) (hlt : ∀ x ∈ ps, x.block < w.heap.size) :
    ∃ l : List α, (∀ a ∈ l, good a) ∧ SlV w n v l.length (l.flatMap f) ∧ ((d = .nil ∧ l = []) ∨ ∃ (el sp : List (DataW H)), d = .slice el sp ∧ el.length = l.length) := by
  obtain ⟨a0, len, cap, rfl⟩ := hv
  obtain ⟨fuel, hfu⟩ := h
  rcases open_slice ht hfu with ⟨hcs, hx⟩ | ⟨a, len', cap', m, k, D, Pl, hcs, _, hl, hm, hmm, hx, hi⟩
  · simp [Value.cells] at hcs
    obtain ⟨rfl, rfl, rfl⟩ := hcs
    simp only [Prod.mk.injEq] at hx
    exact ⟨[], by simp, SlV.nil _ _, .inl ⟨hx.1, rfl⟩⟩
  · simp [Value.cells] at hcs
    obtain ⟨rfl, rfl, rfl⟩ := hcs
    simp only [Prod.mk.injEq] at hx
    simp only [if_true] at hmm
    rw [hC] at hi hx
    have each' : ∀ i, i < len → ∃ r : α, good r ∧ w.cells? 0 (a.add (i * n)) n = some (f r) := by
      intro i hil
      obtain ⟨cs', hc, htr⟩ := hi i (by omega)
      obtain ⟨r, hcr, hr⟩ := each _ _ _ htr
      exact ⟨r, hr, by rw [hc, hcr]⟩
    by_cases h0 : len = 0
    · subst h0
      exact ⟨[], by simp, ⟨some a, cap, by simp, hl, hm, by simp, Cells.nil _ _ _⟩, .inr ⟨_, _, hx.1, by simp⟩⟩
    obtain ⟨r0, -, -⟩ := each' 0 (by omega)
    haveI : Inhabited α := ⟨r0⟩
    obtain ⟨g, hgg⟩ := choose_lt each'
    have hgood : ∀ r ∈ (List.range len).map g, good r := by
      intro r hr
      obtain ⟨i, hi', rfl⟩ := List.mem_map.1 hr
      exact (hgg i (by simpa using hi')).1
    have hflat : (((List.range len).map g).flatMap f).length = len * n := by rw [flat_length f n hf]; simp
    refine ⟨(List.range len).map g, hgood, ⟨some a, cap, by simp, by simpa using hl, hm, by simpa using hflat, ?_⟩, .inr ⟨_, _, hx.1, by simp⟩⟩
    obtain ⟨b, off, spot⟩ := a
    have hcell : ∀ i, i < len → ∀ j u, (f (g i))[j]? = some u → w.cell? ((⟨b, off, spot⟩ : Addr).add (i * n + j)) = some u := by
      intro i hil j u hu
      have hj : j < n := by
        have := (List.getElem?_eq_some_iff.1 hu).1
        rwa [hf] at this
      obtain ⟨_, _, hat⟩ := World.cells?_some (hgg i hil).2
      have := hat j hj
      rw [Go.Deep.add_add] at this
      rw [this, hu]
    have hspot : spot = none := by
      have hex : ∃ u, (f (g 0))[0]? = some u := ⟨_, List.getElem?_eq_getElem (by rw [hf]; exact hn0)⟩
      obtain ⟨u, hu⟩ := hex
      have := hcell 0 (by omega) 0 u hu
      simpa [Addr.add] using World.cell?_spot this
    subst hspot
    refine ⟨b, off, fun _ => ⟨rfl, hlt (.cell b off) (by
      rw [hx.2]
      refine List.mem_append_left _ (MemPlace.mem_row.2 ⟨0, ?_, by simp⟩)
      exact Nat.mul_pos (by omega) hn0)⟩, fun j u hu => ?_⟩
    have hjl : j < len * n := by
      have := (List.getElem?_eq_some_iff.1 hu).1
      omega
    have hq : j / n < len := Nat.div_lt_of_lt_mul (by rw [Nat.mul_comm]; exact hjl)
    have hr : j % n < n := Nat.mod_lt _ hn0
    have hj : j = j / n * n + j % n := by have := Nat.div_add_mod j n; rw [Nat.mul_comm] at this; omega
    have hget : ((List.range len).map g)[j / n]? = some (g (j / n)) := by simp [hq]
    rw [hj] at hu ⊢
    rw [flat_get f n hf _ _ _ _ hget hr] at hu
    have := hcell (j / n) hq (j % n) u hu
    rw [Addr.add_lit] at this
    exact this
end
end Go.Proofs.YtcpoglchjkpbpaaDoor
