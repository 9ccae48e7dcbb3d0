/-
  What the ends of all laws of this seat share.
-/
import Derived.Test.YtcpoglchjkpbpaaDoorRows
import Derived.Test.YtcpoglchjkpbpaaDoorOpen
namespace Go.Proofs.YtcpoglchjkpbpaaDoor
set_option linter.unusedVariables false
set_option linter.unusedSimpArgs false
set_option maxRecDepth 100000
open Go.ChangeShapes Go.WideShapes Go.ChangeAt Go.RowKit

theorem own : ownKnob Tryd.prog.godebug = none := by kernel_rfl
theorem laidOut : laidOutB Tryd.prog = true := by kernel_rfl

/-- the form's own reach, of a slice that was opened -/
theorem reach_rows {H : Type} {ts : List TypeId} {ds : List (DataW H)} {n by_ : Nat} {d : DataW H} {t e : TypeId} (hsz : (DataW.weightsEach Tryd.prog ts ds).all (· ≤ reachBytes) = true) {j : Nat} (ht : ts[j]? = some t) (hd : ds[j]? = some d)
    (hu : Tryd.prog.underlying t = some (.slice e)) (hb : Tryd.prog.bytesOf e = by_) (h : (d = .nil ∧ n = 0) ∨ ∃ (el sp : List (DataW H)), d = .slice el sp ∧ el.length = n) : n * by_ ≤ 140737488351232 := by
  rcases h with ⟨_, rfl⟩ | ⟨el, sp, rfl, rfl⟩
  · simp
  · have := sized_slice hsz ht hd hu
    rw [hb] at this
    have h2 : el.length * by_ ≤ (el.length + sp.length) * by_ := Nat.mul_le_mul_right _ (by omega)
    simp only [reachBytes] at this
    omega
end Go.Proofs.YtcpoglchjkpbpaaDoor
