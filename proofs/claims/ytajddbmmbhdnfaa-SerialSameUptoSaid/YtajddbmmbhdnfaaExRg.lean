/-
  Values of expressions are 64-bit numbers.
-/
import Derived.Test.YtajddbmmbhdnfaaEx6
namespace Go.Proofs.Ytajddbmmbhdnfaa.Ex
set_option linter.unusedVariables false
set_option linter.unusedSimpArgs false
set_option maxRecDepth 100000
open Go Go.RowKit

theorem doo_rng (k a b : Int) (ha : rng a) (hb : rng b) : rng (doo k a b) := by
  have hw : ∀ x, rng (wrap64 x) := fun x => by unfold rng wrap64; omega
  unfold doo
  split; exact hw _
  split; exact hw _
  split; exact hw _
  split; (split <;> (unfold rng; omega))
  split; (split <;> (unfold rng; omega))
  split; (unfold rng; omega)
  split; exact hw _
  split
  · rename_i h0 _ _
    have h1 := Int.natAbs_tmod a b
    unfold rng at *
    have : (a.tmod b).natAbs < b.natAbs := by rw [h1]; exact Nat.mod_lt _ (by omega)
    omega
  · unfold rng; omega
def ok : X → Prop
  | .num n => rng n
  | .two _ a b => ok a ∧ ok b
  | _ => True
theorem doo_rng' (k a b : Int) (ha : rng a) (hb : rng b) : rng (doo k a b) := doo_rng k a b ha hb
theorem look_rng (s : Bs) : ∀ l : List (Bs × Int), (∀ b ∈ l, rng b.2) → rng (look s l)
  | [], _ => by unfold look rng; omega
  | b :: l, h => by
    unfold look
    split
    · exact look_rng s l fun x hx => h x (List.mem_cons_of_mem _ hx)
    · split
      · exact h b List.mem_cons_self
      · unfold rng; omega
theorem evl_rng (env : List (Bs × Int)) (h : ∀ b ∈ env, rng b.2) : ∀ e : X, ok e → rng (evl env e)
  | .num n, he => he
  | .name s, _ => look_rng s env h
  | .bad, _ => by unfold evl rng; omega
  | .two k a b, he => doo_rng _ _ _ (evl_rng env h a he.1) (evl_rng env h b he.2)
end Go.Proofs.Ytajddbmmbhdnfaa.Ex
namespace Go.Proofs.Ytajddbmmbhdnfaa
theorem XRN.ok {N : Bool} {B : Nat} {w : World} {cs : List Value} {e : Ex.X} (h : XRN N B w cs e) : Ex.ok e := by
  induction h with
  | num n s A len cap h1 h2 h3 hN => exact h3
  | name n s A len cap h1 h2 hN => trivial
  | bad k n s A len cap h1 h2 h3 h4 h5 hN => trivial
  | two k n s g o len cap cs0 cs1 e0 e1 h1 h2 h3 h4 h5 h6 h7 h8 _ _ hN i0 i1 => exact ⟨i0, i1⟩
end Go.Proofs.Ytajddbmmbhdnfaa
