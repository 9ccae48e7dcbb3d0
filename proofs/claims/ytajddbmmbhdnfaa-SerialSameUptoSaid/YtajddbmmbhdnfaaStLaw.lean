/-
  Programs: lists of statements, in plain Lean. No program of the machine is named here.
-/
import Derived.Test.YtajddbmmbhdnfaaExLaw
namespace Go.Proofs.Ytajddbmmbhdnfaa.St
set_option linter.unusedVariables false
set_option linter.unusedSimpArgs false
set_option maxRecDepth 100000
open Ex

/-- statements one behind the other: the first one's kind, name, expressions, body, else; and the rest -/
inductive P where
  | nil
  | cons (k : Int) (name : Bs) (a b : X) (body els rest : P)

def P.length : P → Nat
  | .nil => 0
  | .cons _ _ _ _ _ _ r => r.length + 1
/-- how much there is to read -/
def P.size : P → Nat
  | .nil => 0
  | .cons _ _ a b body els r => 1 + a.leaves + b.leaves + body.size + els.size + r.size
theorem P.length_le : ∀ p : P, p.length ≤ p.size
  | .nil => Nat.le_refl _
  | .cons _ _ a b body els r => by
    have := r.length_le
    unfold P.length P.size
    omega
def P.append : P → P → P
  | .nil, q => q
  | .cons k n a b body els r, q => .cons k n a b body els (r.append q)
instance : Append P := ⟨P.append⟩
theorem P.nil_append (q : P) : P.nil ++ q = q := rfl
theorem P.cons_append (k : Int) (n : Bs) (a b : X) (body els r q : P) : P.cons k n a b body els r ++ q = .cons k n a b body els (r ++ q) := rfl
theorem P.append_nil : ∀ p : P, p ++ P.nil = p
  | .nil => rfl
  | .cons k n a b body els r => by rw [P.cons_append, r.append_nil]
theorem P.append_assoc : ∀ p q r : P, p ++ q ++ r = p ++ (q ++ r)
  | .nil, q, r => rfl
  | .cons k n a b body els s, q, r => by rw [P.cons_append, P.cons_append, P.cons_append, P.append_assoc s]
theorem P.length_append : ∀ p q : P, (p ++ q).length = p.length + q.length
  | .nil, q => by rw [P.nil_append]; simp [P.length]
  | .cons k n a b body els r, q => by rw [P.cons_append, P.length, P.length, r.length_append]; omega
theorem P.size_append : ∀ p q : P, (p ++ q).size = p.size + q.size
  | .nil, q => by rw [P.nil_append]; simp [P.size]
  | .cons k n a b body els r, q => by rw [P.cons_append, P.size, P.size, r.size_append]; omega
end Go.Proofs.Ytajddbmmbhdnfaa.St
