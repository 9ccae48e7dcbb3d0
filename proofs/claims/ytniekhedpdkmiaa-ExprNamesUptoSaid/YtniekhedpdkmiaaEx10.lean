/-
  expr.Fold, walked: its first function.
-/
import Derived.Test.YtniekhedpdkmiaaEx9
namespace Go.Proofs.Ytniekhedpdkmiaa
set_option linter.unusedVariables false
set_option linter.unusedSimpArgs false
open Go.RowKit

theorem fold1_any (cs : List Value) (e : Ex.X) (w : World) (h : XN w.heap.size w cs e) : Calls Try.prog 30 #[.agg cs.toArray] w fun r w' => ∃ v, r = .returned v ∧ IsX e v w' ∧ Below w.heap.size w w' := by
  obtain ⟨a0, a1, a2, A3, a4, a5, rfl, -, -⟩ := h.form
  obtain ⟨p0, p1, hz, hbw⟩ := allocs2 w (xcells a0 a1 a2 A3 a4 a5) (xcells a0 a1 a2 A3 a4 a5) 38 38
  have hx := (h.later hbw).up hbw.size
  unfold xcells at p0 p1 hz hbw hx ⊢
  have HX := Lib.hid (And.intro p1 (And.intro hx hbw))
  clear hz h p0 p1 hx hbw
  go_enter Try.func30, Try.ntmps30
  go_wp2
  obtain ⟨h1, h2, h3⟩ := HX.out
  exact ret_blk h1 rfl rfl Try.underlying38 rfl (by kernel_rfl) rfl ⟨_, rfl, ⟨_, rfl, h2⟩, h3⟩
theorem leafs_fold : Leafs (fun _ => True) 30 #[] (fun x => x) where
  ent := enters_of Try.func30 (by kernel_rfl) rfl
  num := fun w n _ hr => fold1_any _ _ w (.num n ⟨#[]⟩ none 0 0 (Nat.le_refl _) (Nat.zero_le _) hr)
  name := fun w s _ => fold1_any _ _ w (.name 0 s none 0 0 (Nat.le_refl _) (Nat.zero_le _))

namespace Ex
def fcb (k : Int) (a b : X) : X := match a, b with | .num x, .num y => .num (doo k x y) | a, b => .two k a b
theorem doo_rng (k a b : Int) (ha : rng a) (hb : rng b) : rng (doo k a b) := by
  have hw : ∀ x, rng (wrap64 x) := fun x => by unfold rng wrap64; omega
  unfold doo
  split; exact hw _
  split; exact hw _
  split; exact hw _
  split; (split <;> (unfold rng; omega))
  split; (split <;> (unfold rng; omega))
  split; (unfold rng; omega)
  split; exact hw _
  split
  · rename_i h0 _ _
    have h1 := Int.natAbs_tmod a b
    unfold rng at *
    have : (a.tmod b).natAbs < b.natAbs := by rw [h1]; exact Nat.mod_lt _ (by omega)
    omega
  · unfold rng; omega
end Ex
theorem XRN.kind {N : Bool} {B : Nat} {w : World} {k n : Int} {s : ByteArray} {A : Option Addr} {len cap : Nat} {e : Ex.X} (h : XRN N B w (xcells k n s A len cap) e) : (e = .num n ∧ k = 1 ∧ Ex.rng n) ∨ (k ≠ 1 ∧ ∀ n, e ≠ .num n) := by
  generalize hc : xcells k n s A len cap = cs at h
  cases h <;> simp only [xcells, List.cons.injEq, Value.int.injEq, true_and, and_true] at hc <;> simp_all <;> omega
end Go.Proofs.Ytniekhedpdkmiaa
