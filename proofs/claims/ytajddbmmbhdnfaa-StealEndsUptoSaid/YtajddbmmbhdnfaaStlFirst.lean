/-
  The yard after the first worker has settled.
-/
import Derived.Test.YtajddbmmbhdnfaaStlRep
namespace Go.Proofs.Ytajddbmmbhdnfaa.Stl
set_option linter.unusedVariables false
set_option linter.unusedSimpArgs false
set_option maxRecDepth 100000
open Sp

theorem first_yard (t : T) (W : Nat) (hW : 0 < W) : (⟨img t (start 0 t) 0 0 (-1) false, ((List.replicate W (-1 : Int)).set 0 0).set 0 (if 0 ∈ (start 0 t).ws then (loc t (start 0 t) 0 0 : Int) else -1), (List.replicate W []).set 0 (if 0 ∈ (start 0 t).ws then seg t (start 0 t) 0 0 else []), []⟩ : Y) = yard t W (start 0 t) [] := by
  have h0 : ∀ v, v ∈ (start 0 t).ws → v = 0 := fun v hv => by
    rcases start_ok 0 t with e | ⟨-, -, e3⟩
    · rw [e] at hv; simp [S.ws] at hv
    · rw [e3] at hv; simpa using hv
  have r1 : List.replicate W (-1 : Int) = (List.range W).map fun _ => (-1 : Int) := by rw [List.map_const', List.length_range]
  have r2 : List.replicate W ([] : List Nat) = (List.range W).map fun _ => ([] : List Nat) := by rw [List.map_const', List.length_range]
  unfold yard
  rw [List.set_set, r1, r2]
  rw [set_range W 0 (fun _ => (-1 : Int)) (fun w => if w ∈ (start 0 t).ws then (loc t (start 0 t) 0 w : Int) else -1) (fun v _ hne => by rw [if_neg (fun h => hne (h0 v h))]), set_range W 0 (fun _ => ([] : List Nat)) (fun w => if w ∈ (start 0 t).ws then seg t (start 0 t) 0 w else []) (fun v _ hne => by rw [if_neg (fun h => hne (h0 v h))])]
end Go.Proofs.Ytajddbmmbhdnfaa.Stl
