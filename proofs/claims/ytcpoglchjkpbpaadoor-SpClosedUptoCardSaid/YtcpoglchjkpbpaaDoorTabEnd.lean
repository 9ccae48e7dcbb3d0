/-
  The table of math/bits, as its initialiser lays it.
-/
import Derived.Test.YtcpoglchjkpbpaaDoorCards
import Derived.Test.YtcpoglchjkpbpaaDoorTie
import Derived.Test.YtcpoglchjkpbpaaDoorLawEnd
import Derived.Test.YtcpoglchjkpbpaaDoorBs5
import Derived.WalkKit
import Derived.ProofKit
import Derived.OpenShut
import Derived.Deep.DeepHandedRow
import Derived.Lib.LaidTab
namespace Go.Proofs.YtcpoglchjkpbpaaDoor
set_option linter.unusedVariables false
set_option linter.unusedSimpArgs false
set_option maxRecDepth 100000
open Go.ChangeShapes Go.WideShapes Go.ChangeAt Go.RowKit
set_option linter.unusedVariables false

theorem gTab : Tryd.prog.globalNamed "math/bits.deBruijn64tab" = some 0 := by kernel_rfl
theorem gTabType : (Tryd.prog.globals[0]?).map (·.type) = some 124 := by kernel_rfl
theorem cellsTab : Tryd.prog.cellsOf 124 = 64 := by kernel_rfl
theorem cellsByte : Tryd.prog.cellsOf 5 = 1 := by kernel_rfl
def tabInts : List Int := Lib.deBruijn64tab.map fun (x : Nat) => (x : Int)
theorem tab_is {W : World} (h : Lib.TabIs Tryd.prog W "math/bits.deBruijn64tab" .u8 tabInts) : Tab W := fun j hj => by
  have := h.cell gTab j (by unfold tabInts; rw [List.length_map]; exact hj)
  rw [this]
  unfold tabInts
  simp [List.getD, hj]
noncomputable def laidWorld (os : Os) : World :=
  { World.holding Tryd.prog os ⟨#[], #[], []⟩ with heap := (World.holding Tryd.prog os ⟨#[], #[], []⟩).heap.modify 0 fun
      | .cells _ t frozen => .cells (tabInts.map fun z => Value.int .u8 z).toArray t frozen
      | o => o }

end Go.Proofs.YtcpoglchjkpbpaaDoor
