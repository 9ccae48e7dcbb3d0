/-
  Expressions: what they are worth, in plain Lean.
-/
namespace Go.Proofs.Ytajddbmmbhdnfaa.Ex
set_option linter.unusedVariables false
set_option linter.unusedSimpArgs false
set_option maxRecDepth 100000

abbrev Bs := List UInt8

inductive X where
  | num (n : Int)
  | name (s : Bs)
  | two (k : Int) (a b : X)
  | bad
deriving DecidableEq

def X.leaves : X → Nat
  | .two _ a b => a.leaves + b.leaves
  | _ => 1
theorem X.leaves_pos : ∀ e : X, 1 ≤ e.leaves
  | .num _ => Nat.le_refl _
  | .name _ => Nat.le_refl _
  | .bad => Nat.le_refl _
  | .two _ a b => by have := a.leaves_pos; unfold X.leaves; omega

/-- what a name is: the last binding -/
def look (s : Bs) : List (Bs × Int) → Int
  | [] => 0
  | b :: l => if l.any (fun x => x.1 == s) then look s l else if b.1 == s then b.2 else 0
theorem look_snoc (s : Bs) (l : List (Bs × Int)) (b : Bs × Int) : look s (l ++ [b]) = if b.1 == s then b.2 else look s l := by
  induction l with
  | nil => simp [look]
  | cons c l ih =>
    rw [List.cons_append, look, List.any_append, ih]
    by_cases h : (b.1 == s) = true
    · simp [h]
    · have h' : (b.1 == s) = false := by simpa using h
      simp only [h', Bool.false_eq_true, if_false, List.any_cons, List.any_nil, Bool.or_false]
      rw [look]
end Go.Proofs.Ytajddbmmbhdnfaa.Ex
