/-
  SameExpr, walked: what differs ahead, and what has no arguments.
-/
import Derived.Test.YtniekhedpdkmiaaEx21
namespace Go.Proofs.Ytniekhedpdkmiaa
set_option linter.unusedVariables false
set_option linter.unusedSimpArgs false
open Go.RowKit

theorem same_ne (w : World) (k n k' n' : Int) (s s' : ByteArray) (A A' : Option Addr) (len cap len' cap' : Nat) (hle : len ≤ cap) (hm : cap ≤ maxLen) (hle' : len' ≤ cap') (hm' : cap' ≤ maxLen)
    (hne : (k == k' && (n == n' && (s.toList == s'.toList && (len == len')))) = false) :
    Calls Try.prog 15 #[.agg (xcells k n s A len cap).toArray, .agg (xcells k' n' s' A' len' cap').toArray] w fun r w' => r = .returned (.bool false) ∧ Below w.heap.size w w' := by
  unfold xcells
  unfold maxLen at hm hm'
  rcases h1 : (k == k') with _ | _
  · have h1' : (k != k') = true := by simp [bne, h1]
    clear hne h1
    go_enter Try.func15, Try.ntmps15
    go_wp2
    go_ret
    exact ⟨rfl, below_alloc (below_alloc (Below.refl _ _) _) _⟩
  obtain rfl : k = k' := by simpa using h1
  clear h1
  rcases h2 : (n == n') with _ | _
  · have h2' : (n != n') = true := by simp [bne, h2]
    clear hne h2
    go_enter Try.func15, Try.ntmps15
    go_wp2
    go_ret
    exact ⟨rfl, below_alloc (below_alloc (Below.refl _ _) _) _⟩
  obtain rfl : n = n' := by simpa using h2
  clear h2
  rcases h3 : (s.toList == s'.toList) with _ | _
  · clear hne
    go_enter Try.func15, Try.ntmps15
    go_wp2
    go_ret
    exact ⟨rfl, below_alloc (below_alloc (Below.refl _ _) _) _⟩
  obtain rfl : s = s' := Ex.bytes_eq h3
  clear h3
  have h4 : ((len : Int) == (len' : Int)) = false := by
    simp at hne ⊢
    omega
  have h4' : ((len : Int) != (len' : Int)) = true := by simp at h4 ⊢; omega
  clear hne h4
  go_enter Try.func15, Try.ntmps15
  go_wp2
  go_ret
  exact ⟨rfl, below_alloc (below_alloc (Below.refl _ _) _) _⟩

theorem same_leaf (w : World) (k n : Int) (s : ByteArray) (A A' : Option Addr) (cap cap' : Nat) (hm : cap ≤ maxLen) (hm' : cap' ≤ maxLen) :
    Calls Try.prog 15 #[.agg (xcells k n s A 0 cap).toArray, .agg (xcells k n s A' 0 cap').toArray] w fun r w' => r = .returned (.bool true) ∧ Below w.heap.size w w' := by
  unfold xcells
  unfold maxLen at hm hm'
  have hr : (s.toList == s.toList) = true := by simp
  go_enter Try.func15, Try.ntmps15
  go_wp2
  go_loopw [37] (fun i wr => i = .int .i64 0 ∧ Below w.heap.size w wr) (fun i _ => 0)
  case atStart => exact ⟨rfl, below_alloc (below_alloc (Below.refl _ _) _) _⟩
  case round =>
    obtain ⟨rfl, hb⟩ := hrel
    go_wp2
    go_ret
    exact ⟨rfl, hb⟩
end Go.Proofs.Ytniekhedpdkmiaa
