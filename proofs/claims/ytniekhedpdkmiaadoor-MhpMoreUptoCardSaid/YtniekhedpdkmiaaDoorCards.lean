/-
  DERIVED. GIVEN WITH THE SEED: THE CARDS: each row of YtniekhedpdkmiaaDoorRows.lean that lists a variable, with what it lists TIED to the program's text (the seventh form; the later family's looks); each row that meets fmt, with fmt's text TOLD by the authors' own Lean function (tested against real Go, not proved from fmt's source: count such statements apart). THE CARD IS WHAT COUNTS. Prove the row's statement (the work); the ties are given (YtniekhedpdkmiaaDoorTie.lean); close each card by the builder's one call (the guide's Derived/Test/ToyasCard.lean, 'card_holds'). Laid BY PROGRAM, IN A SANDBOX (cutbox-door.mjs). By AI agents, Wed Nov 11 2026. No macro, syntax, notation, axiom, sorry.
-/
import Derived.Test.YtniekhedpdkmiaaDoorRows
import GoSem.ClaimSeven
namespace Go.Proofs.YtniekhedpdkmiaaDoor
namespace Rows

/-- THE TIED CARD OF 'forkwrightkeep.BitsetAlgebra'. -/
def bitsetAlgebraCard : Claim7 := { stood := { row := bitsetAlgebraRow, standIns := [], harness := (true, "e965c972028641d5330a9cd4e981b9b1027e65b6b69dba56d3dbf97c0584bb36"), looks := false }, kinds := [], alts := [], laidByText := true, laidKinds := [.data], laidTests := true, laidLooks := .later }
def BitsetAlgebraCardSaid : Prop := Claim7.holds Tryd.pinned (.plain (OpenSpec.ofChange bitsetAlgebraSpec)) bitsetAlgebraCard

/-- THE TIED CARD OF 'forkwrightkeep.BitsetCount'. -/
def bitsetCountCard : Claim7 := { stood := { row := bitsetCountRow, standIns := [], harness := (true, "e965c972028641d5330a9cd4e981b9b1027e65b6b69dba56d3dbf97c0584bb36"), looks := false }, kinds := [], alts := [], laidByText := true, laidKinds := [.data], laidTests := true, laidLooks := .later }
def BitsetCountCardSaid : Prop := Claim7.holds Tryd.pinned (.plain (OpenSpec.ofChange bitsetCountSpec)) bitsetCountCard

/-- THE TIED CARD OF 'forkwrightkeep.BitsetWithin'. -/
def bitsetWithinCard : Claim7 := { stood := { row := bitsetWithinRow, standIns := [], harness := (true, "e965c972028641d5330a9cd4e981b9b1027e65b6b69dba56d3dbf97c0584bb36"), looks := false }, kinds := [], alts := [], laidByText := true, laidKinds := [.data], laidTests := true, laidLooks := .later }
def BitsetWithinCardSaid : Prop := Claim7.holds Tryd.pinned (.plain (OpenSpec.ofChange bitsetWithinSpec)) bitsetWithinCard

/-- THE TIED CARD OF 'forkwrightkeep.BitsetBack'. -/
def bitsetBackCard : Claim7 := { stood := { row := bitsetBackRow, standIns := [], harness := (true, "e965c972028641d5330a9cd4e981b9b1027e65b6b69dba56d3dbf97c0584bb36"), looks := false }, kinds := [], alts := [], laidByText := true, laidKinds := [.data], laidTests := true, laidLooks := .later }
def BitsetBackCardSaid : Prop := Claim7.holds Tryd.pinned (.plain (OpenSpec.ofChange bitsetBackSpec)) bitsetBackCard

/-- THE TIED CARD OF 'forkwrightkeep.MhpNone'. -/
def mhpNoneCard : Claim7 := { stood := { row := mhpNoneRow, standIns := [], harness := (true, "e965c972028641d5330a9cd4e981b9b1027e65b6b69dba56d3dbf97c0584bb36"), looks := false }, kinds := [], alts := [], laidByText := true, laidKinds := [.data], laidTests := true, laidLooks := .later }
def MhpNoneCardSaid : Prop := Claim7.holds Tryd.pinned (.plain (OpenSpec.ofChange mhpNoneSpec)) mhpNoneCard

/-- THE TIED CARD OF 'forkwrightkeep.MhpMore'. -/
def mhpMoreCard : Claim7 := { stood := { row := mhpMoreRow, standIns := [], harness := (true, "e965c972028641d5330a9cd4e981b9b1027e65b6b69dba56d3dbf97c0584bb36"), looks := false }, kinds := [], alts := [], laidByText := true, laidKinds := [.data], laidTests := true, laidLooks := .later }
def MhpMoreCardSaid : Prop := Claim7.holds Tryd.pinned (.plain (OpenSpec.ofChange mhpMoreSpec)) mhpMoreCard

/-- THE SECOND FORM's CARD OF 'forkwrightkeep.BitsetAlgebra'. -/
def bitsetAlgebraUptoCard : Claim7 := { stood := { row := bitsetAlgebraUptoRow, standIns := [], harness := (true, "e965c972028641d5330a9cd4e981b9b1027e65b6b69dba56d3dbf97c0584bb36"), looks := false }, kinds := [], alts := [], laidByText := true, laidKinds := [.data], laidTests := true, laidLooks := .later }
def BitsetAlgebraUptoCardSaid : Prop := Claim7.holds Tryd.pinned (.plain (OpenSpec.upto bitsetAlgebraSpec)) bitsetAlgebraUptoCard

/-- THE SECOND FORM's CARD OF 'forkwrightkeep.BitsetCount'. -/
def bitsetCountUptoCard : Claim7 := { stood := { row := bitsetCountUptoRow, standIns := [], harness := (true, "e965c972028641d5330a9cd4e981b9b1027e65b6b69dba56d3dbf97c0584bb36"), looks := false }, kinds := [], alts := [], laidByText := true, laidKinds := [.data], laidTests := true, laidLooks := .later }
def BitsetCountUptoCardSaid : Prop := Claim7.holds Tryd.pinned (.plain (OpenSpec.upto bitsetCountSpec)) bitsetCountUptoCard

/-- THE SECOND FORM's CARD OF 'forkwrightkeep.BitsetWithin'. -/
def bitsetWithinUptoCard : Claim7 := { stood := { row := bitsetWithinUptoRow, standIns := [], harness := (true, "e965c972028641d5330a9cd4e981b9b1027e65b6b69dba56d3dbf97c0584bb36"), looks := false }, kinds := [], alts := [], laidByText := true, laidKinds := [.data], laidTests := true, laidLooks := .later }
def BitsetWithinUptoCardSaid : Prop := Claim7.holds Tryd.pinned (.plain (OpenSpec.upto bitsetWithinSpec)) bitsetWithinUptoCard

/-- THE SECOND FORM's CARD OF 'forkwrightkeep.BitsetBack'. -/
def bitsetBackUptoCard : Claim7 := { stood := { row := bitsetBackUptoRow, standIns := [], harness := (true, "e965c972028641d5330a9cd4e981b9b1027e65b6b69dba56d3dbf97c0584bb36"), looks := false }, kinds := [], alts := [], laidByText := true, laidKinds := [.data], laidTests := true, laidLooks := .later }
def BitsetBackUptoCardSaid : Prop := Claim7.holds Tryd.pinned (.plain (OpenSpec.upto bitsetBackSpec)) bitsetBackUptoCard

/-- THE SECOND FORM's CARD OF 'forkwrightkeep.MhpNone'. -/
def mhpNoneUptoCard : Claim7 := { stood := { row := mhpNoneUptoRow, standIns := [], harness := (true, "e965c972028641d5330a9cd4e981b9b1027e65b6b69dba56d3dbf97c0584bb36"), looks := false }, kinds := [], alts := [], laidByText := true, laidKinds := [.data], laidTests := true, laidLooks := .later }
def MhpNoneUptoCardSaid : Prop := Claim7.holds Tryd.pinned (.plain (OpenSpec.upto mhpNoneSpec)) mhpNoneUptoCard

/-- THE SECOND FORM's CARD OF 'forkwrightkeep.MhpMore'. -/
def mhpMoreUptoCard : Claim7 := { stood := { row := mhpMoreUptoRow, standIns := [], harness := (true, "e965c972028641d5330a9cd4e981b9b1027e65b6b69dba56d3dbf97c0584bb36"), looks := false }, kinds := [], alts := [], laidByText := true, laidKinds := [.data], laidTests := true, laidLooks := .later }
def MhpMoreUptoCardSaid : Prop := Claim7.holds Tryd.pinned (.plain (OpenSpec.upto mhpMoreSpec)) mhpMoreUptoCard
end Rows
end Go.Proofs.YtniekhedpdkmiaaDoor
