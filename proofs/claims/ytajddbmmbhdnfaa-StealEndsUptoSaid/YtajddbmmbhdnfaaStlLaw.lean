/-
  Workers who steal from each other: what Go reckons with, in plain lists; and the same as a tree of what is done, with its laws.
-/
import Derived.Test.YtajddbmmbhdnfaaSpLaw
namespace Go.Proofs.Ytajddbmmbhdnfaa.Stl
set_option linter.unusedVariables false
set_option linter.unusedSimpArgs false
set_option maxRecDepth 100000
open Sp

/-! ### what Go reckons with -/
structure Part where
  kind : Nat
  leaf : Int
  left : Nat
  right : Nat
  up : Int
  onR : Bool
  done : Bool

def sz : T → Nat
  | .nil => 1
  | .one _ _ _ => 1
  | .two _ l r => 1 + sz l + sz r
theorem sz_pos (t : T) : 0 < sz t := by cases t <;> simp [sz] <;> omega

/-- the parts of a term that lies at n, its leaves from m on -/
def partsOf : T → (n m : Nat) → (up : Int) → (onR : Bool) → List Part
  | .nil, _, _, up, onR => [⟨0, -1, 0, 0, up, onR, false⟩]
  | .one _ _ _, _, m, up, onR => [⟨1, (m : Int), 0, 0, up, onR, false⟩]
  | .two par l r, n, m, up, onR => ⟨if par then 3 else 2, -1, n + 1, n + 1 + sz l, up, onR, false⟩ :: (partsOf l (n + 1) m n false ++ partsOf r (n + 1 + sz l) (m + l.size) n true)
theorem partsOf_length : ∀ (t : T) (n m : Nat) (up : Int) (onR : Bool), (partsOf t n m up onR).length = sz t
  | .nil, _, _, _, _ => rfl
  | .one _ _ _, _, _, _, _ => rfl
  | .two par l r, n, m, up, onR => by simp [partsOf, partsOf_length l, partsOf_length r, sz]; omega

/-- what is done is marked -/
def mark (ps : List Part) (n : Nat) : List Part := match ps[n]? with
  | some p => ps.set n { p with done := true }
  | none => ps

/-- the parts, the worker's own queue, and where he goes on; none: it goes wrong, or takes too long -/
def ended : Nat → List Part → List Nat → Nat → Option (List Part × List Nat × Int)
  | 0, _, _, _ => none
  | f + 1, ps, q, n =>
    match ps[n]? with
    | none => none
    | some p =>
      if p.up < 0 then some (mark ps n, q, -1) else
      match (mark ps n)[p.up.toNat]? with
      | none => none
      | some u =>
        if u.kind = 2 then (if p.onR then ended f (mark ps n) q p.up.toNat else some (mark ps n, q, (u.right : Int)))
        else match (mark ps n)[u.left]?, (mark ps n)[u.right]? with
          | some a, some b =>
            if a.done && b.done then ended f (mark ps n) q p.up.toNat
            else if p.onR then some (mark ps n, q, -1)
            else match q.getLast? with
              | some k => some (mark ps n, q.dropLast, (k : Int))
              | none => some (mark ps n, q, -1)
          | _, _ => none
def settle : Nat → List Part → List Nat → Int → Option (List Part × List Nat × Int)
  | 0, _, _, _ => none
  | f + 1, ps, q, a =>
    if a < 0 then some (ps, q, a) else
    match ps[a.toNat]? with
    | none => none
    | some p =>
      if p.kind = 1 then some (ps, q, a)
      else if p.kind = 3 then (if q.length < 1099511627776 then settle f ps (q ++ [p.right]) (p.left : Int) else none)
      else if p.kind = 2 then settle f ps q (p.left : Int)
      else match ended (f + 1) ps q a.toNat with
        | none => none
        | some (ps', q', a') => settle f ps' q' a'

theorem ended_more : ∀ (f : Nat) (ps : List Part) (q : List Nat) (n : Nat) (r), ended f ps q n = some r → ∀ g, f ≤ g → ended g ps q n = some r
  | 0, ps, q, n, r, h, g, hg => by simp [ended] at h
  | f + 1, ps, q, n, r, h, 0, hg => by omega
  | f + 1, ps, q, n, r, h, g + 1, hg => by
    have ih := fun q n r h => ended_more f (mark ps n) q n r h g (by omega)
    unfold ended at h ⊢
    split
    · rename_i e; rw [e] at h; exact h
    · rename_i p e
      rw [e] at h
      dsimp only at h
      split
      · rename_i h1; rw [if_pos h1] at h; exact h
      · rename_i h1
        rw [if_neg h1] at h
        split
        · rename_i e2; rw [e2] at h; exact h
        · rename_i u e2
          rw [e2] at h
          dsimp only at h
          split
          · rename_i h2
            rw [if_pos h2] at h
            split
            · rename_i h3; rw [if_pos h3] at h; exact ended_more f _ _ _ _ h g (by omega)
            · rename_i h3; rw [if_neg h3] at h; exact h
          · rename_i h2
            rw [if_neg h2] at h
            split
            · rename_i a b e3 e4
              rw [e3, e4] at h
              dsimp only at h
              split
              · rename_i h3; rw [if_pos h3] at h; exact ended_more f _ _ _ _ h g (by omega)
              · rename_i h3; rw [if_neg h3] at h; exact h
            · rename_i hno
              split at h
              · rename_i e3 e4; exact absurd e4 (by intro e4; exact hno _ _ e3 e4)
              · exact h
theorem settle_more : ∀ (f : Nat) (ps : List Part) (q : List Nat) (a : Int) (r), settle f ps q a = some r → ∀ g, f ≤ g → settle g ps q a = some r
  | 0, ps, q, a, r, h, g, hg => by simp [settle] at h
  | f + 1, ps, q, a, r, h, 0, hg => by omega
  | f + 1, ps, q, a, r, h, g + 1, hg => by
    unfold settle at h ⊢
    split
    · rename_i h1; rw [if_pos h1] at h; exact h
    · rename_i h1
      rw [if_neg h1] at h
      split
      · rename_i e; rw [e] at h; exact h
      · rename_i p e
        rw [e] at h
        dsimp only at h
        split
        · rename_i h2; rw [if_pos h2] at h; exact h
        · rename_i h2
          rw [if_neg h2] at h
          split
          · rename_i h3
            rw [if_pos h3] at h
            split
            · rename_i h4; rw [if_pos h4] at h; exact settle_more f _ _ _ _ h g (by omega)
            · rename_i h4; rw [if_neg h4] at h; cases h
          · rename_i h3
            rw [if_neg h3] at h
            split
            · rename_i h4; rw [if_pos h4] at h; exact settle_more f _ _ _ _ h g (by omega)
            · rename_i h4
              rw [if_neg h4] at h
              rcases he : ended (f + 1) ps q a.toNat with _ | ⟨ps', q', a'⟩
              · rw [he] at h; simp at h
              · rw [he] at h
                rw [ended_more _ _ _ _ _ he (g + 1) (by omega)]
                exact settle_more f _ _ _ _ h g (by omega)
end Go.Proofs.Ytajddbmmbhdnfaa.Stl
