/-
  Rows of the call's own, of elements of any size: a cell of it, and a part of it, is stored. No program is named here.
-/
import Derived.Test.YtcpoglchjkpbpaaDoorKeep
namespace Go.Proofs.YtcpoglchjkpbpaaDoor
set_option linter.unusedVariables false
set_option linter.unusedSimpArgs false
set_option maxRecDepth 100000
open Go Go.RowKit

theorem part_get {α : Type} (l vs : List α) (off k : Nat) (h : off + k ≤ l.length) (hv : vs.length = k) (i : Nat) : (l.take off ++ vs ++ l.drop (off + k))[i]? = if i < off then l[i]? else if i < off + k then vs[i - off]? else l[i]? := by
  have l1 : (l.take off).length = off := by simp; omega
  have l2 : (l.take off ++ vs).length = off + k := by simp [hv]; omega
  by_cases h1 : i < off
  · rw [if_pos h1, List.getElem?_append_left (by omega), List.getElem?_append_left (by omega), List.getElem?_take_of_lt h1]
  · rw [if_neg h1]
    by_cases h2 : i < off + k
    · rw [if_pos h2, List.getElem?_append_left (by omega), List.getElem?_append_right (by omega), l1]
    · rw [if_neg h2, List.getElem?_append_right (by omega), l2, List.getElem?_drop]
      congr 1; omega

section
variable {P : Go.Program} {w w' : World} {base : Nat} {e : TypeId} {size g n c : Nat} {xs : List Value} {ops : Array Oper} {rest : List Oper} {o : Oper} {a : Act} {Q : Exit → Act → World → Prop}
theorem row_blk (h : w.ownsRow base e size (.slice (some ⟨g, 0, none⟩) n c) n xs) : ∃ cs, Blk w g e cs ∧ cs.length = c * size ∧ cs.take (n * size) = xs ∧ n ≤ c ∧ c ≤ maxLen ∧ base ≤ g := by
  rcases h.2 with ⟨h', _⟩ | ⟨g1, cap, cur, he, hb, hh, hle, hm, hs, ht⟩
  · cases h'
  · cases he
    exact ⟨cur.toList, hh, by simpa using hs, ht, hle, hm, hb⟩
theorem row_of_blk {cs : List Value} (h : Blk w g e cs) (hl : cs.length = c * size) (hb : base ≤ g) (hn : n ≤ c) (hm : c ≤ maxLen) : w.ownsRow base e size (.slice (some ⟨g, 0, none⟩) n c) n (cs.take (n * size)) :=
  ⟨by rw [List.length_take, hl]; exact Nat.min_eq_left (Nat.mul_le_mul_right _ hn), .inr ⟨g, c, cs.toArray, rfl, hb, h, hn, hm, by simpa using hl, by simp⟩⟩

theorem wpl_set_row (h : w.ownsRow base e size (.slice (some ⟨g, 0, none⟩) n c) n xs) (i : Nat) (u : Value) {ty : TypeId} (hi : (P.info? ty).map (·.size) = some 1) (hk : i < n * size) (hu : u.cells = #[u]) (h1 : u.oneCell' = true)
    (hgd : Region.wanted o (yielded ops a.tmps) = true) {x y : Operand} (ho : o.op = .store ty x y) (hx : a.eval x = .pointer (some ⟨g, i, none⟩)) (hy : a.eval y = u)
    (hK : ∀ w', w'.ownsRow base e size (.slice (some ⟨g, 0, none⟩) n c) n (xs.set i u) → w.grownBy w' (some g) → wpList P ops Q rest (a.put o.dst undef) w') : wpList P ops Q (o :: rest) a w := by
  obtain ⟨cs, hB, hl, rfl, hn, hm, hb⟩ := row_blk h
  have hcn := Nat.mul_le_mul_right size hn
  refine wpl_set_blk hB i u hi (by omega) hu h1 hgd ho hx hy fun w' hB' hg => hK w' ?_ hg
  have := row_of_blk (size := size) (c := c) (n := n) hB' (by simpa using hl) hb hn hm
  rw [List.take_set] at this
  exact this
/-- a store of some of its cells -/
theorem wpl_put_row (h : w.ownsRow base e size (.slice (some ⟨g, 0, none⟩) n c) n xs) (off k : Nat) (vs : List Value) {ty : TypeId} (hi : (P.info? ty).map (·.size) = some k) (hv : vs.length = k) (hk : off + k ≤ n * size) (h1 : ∀ v ∈ vs, v.oneCell' = true)
    (hgd : Region.wanted o (yielded ops a.tmps) = true) {x y : Operand} (ho : o.op = .store ty x y) (hx : a.eval x = .pointer (some ⟨g, off, none⟩)) (hy : a.eval y = .agg vs.toArray)
    (hK : ∀ w', w'.ownsRow base e size (.slice (some ⟨g, 0, none⟩) n c) n (xs.take off ++ vs ++ xs.drop (off + k)) → w.grownBy w' (some g) → wpList P ops Q rest (a.put o.dst undef) w') : wpList P ops Q (o :: rest) a w := by
  obtain ⟨cs, hB, hl, rfl, hn, hm, hb⟩ := row_blk h
  have hcn := Nat.mul_le_mul_right size hn
  refine wpl_store_blk hB ty off k vs hi hv (by omega) h1 hgd ho hx hy fun w' hB' hg => hK w' ?_ hg
  have := row_of_blk (size := size) (c := c) (n := n) hB' (by simp [hl, hv]; omega) hb hn hm
  have e : (cs.take off ++ vs ++ cs.drop (off + k)).take (n * size) = (cs.take (n * size)).take off ++ vs ++ (cs.take (n * size)).drop (off + k) := by
    apply List.ext_getElem?
    intro i
    have hl2 : (cs.take (n * size)).length = n * size := by rw [List.length_take]; omega
    rw [List.getElem?_take, part_get _ _ _ _ (by omega) hv, part_get _ _ _ _ (by omega) hv, List.getElem?_take]
    by_cases hi : i < n * size
    · rw [if_pos hi, if_pos hi]
    · rw [if_neg hi, if_neg hi, if_neg (by omega), if_neg (by omega)]
  rw [← e]
  exact this
end
end Go.Proofs.YtcpoglchjkpbpaaDoor
