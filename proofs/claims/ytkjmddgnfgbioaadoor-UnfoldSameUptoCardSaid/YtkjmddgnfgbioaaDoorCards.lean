/-
  DERIVED. GIVEN WITH THE SEED: THE CARDS: each row of YtkjmddgnfgbioaaDoorRows.lean that lists a variable, with what it lists TIED to the program's text (the seventh form; the later family's looks); each row that meets fmt, with fmt's text TOLD by the authors' own Lean function (tested against real Go, not proved from fmt's source: count such statements apart). THE CARD IS WHAT COUNTS. Prove the row's statement (the work); the ties are given (YtkjmddgnfgbioaaDoorTie.lean); close each card by the builder's one call (the guide's Derived/Test/ToyasCard.lean, 'card_holds'). Laid BY PROGRAM, IN A SANDBOX (cutbox-door.mjs). By AI agents, Wed Nov 11 2026. No macro, syntax, notation, axiom, sorry.
-/
import Derived.Test.YtkjmddgnfgbioaaDoorRows
import GoSem.ClaimSeven
namespace Go.Proofs.YtkjmddgnfgbioaaDoor
namespace Rows

/-- THE TIED CARD OF 'forkwrightkeep.BitsetAlgebra'. -/
def bitsetAlgebraCard : Claim7 := { stood := { row := bitsetAlgebraRow, standIns := [], harness := (true, "81dd9ae796576dbac88f7814064bab6cd362ccc2228f324b4c84be9032516ef1"), looks := true }, kinds := [], alts := [], laidByText := true, laidKinds := [.data], laidTests := true, laidLooks := .later }
def BitsetAlgebraCardSaid : Prop := Claim7.holds Tryd.pinned (.plain (OpenSpec.ofChange bitsetAlgebraSpec)) bitsetAlgebraCard

/-- THE TIED CARD OF 'forkwrightkeep.BitsetCount'. -/
def bitsetCountCard : Claim7 := { stood := { row := bitsetCountRow, standIns := [], harness := (true, "81dd9ae796576dbac88f7814064bab6cd362ccc2228f324b4c84be9032516ef1"), looks := true }, kinds := [], alts := [], laidByText := true, laidKinds := [.data], laidTests := true, laidLooks := .later }
def BitsetCountCardSaid : Prop := Claim7.holds Tryd.pinned (.plain (OpenSpec.ofChange bitsetCountSpec)) bitsetCountCard

/-- THE TIED CARD OF 'forkwrightkeep.BitsetBack'. -/
def bitsetBackCard : Claim7 := { stood := { row := bitsetBackRow, standIns := [], harness := (true, "81dd9ae796576dbac88f7814064bab6cd362ccc2228f324b4c84be9032516ef1"), looks := true }, kinds := [], alts := [], laidByText := true, laidKinds := [.data], laidTests := true, laidLooks := .later }
def BitsetBackCardSaid : Prop := Claim7.holds Tryd.pinned (.plain (OpenSpec.ofChange bitsetBackSpec)) bitsetBackCard

/-- THE TIED CARD OF 'forkwrightkeep.MhpNone'. -/
def mhpNoneCard : Claim7 := { stood := { row := mhpNoneRow, standIns := [], harness := (true, "81dd9ae796576dbac88f7814064bab6cd362ccc2228f324b4c84be9032516ef1"), looks := true }, kinds := [], alts := [], laidByText := true, laidKinds := [.data], laidTests := true, laidLooks := .later }
def MhpNoneCardSaid : Prop := Claim7.holds Tryd.pinned (.plain (OpenSpec.ofChange mhpNoneSpec)) mhpNoneCard

/-- THE TIED CARD OF 'forkwrightkeep.SerialRename'. -/
def serialRenameCard : Claim7 := { stood := { row := serialRenameRow, standIns := [], harness := (true, "81dd9ae796576dbac88f7814064bab6cd362ccc2228f324b4c84be9032516ef1"), looks := true }, kinds := [], alts := [], laidByText := true, laidKinds := [.data, .data, .data], laidTests := true, laidLooks := .later }
def SerialRenameCardSaid : Prop := Claim7.holds Tryd.pinned (.plain (OpenSpec.ofChange serialRenameSpec)) serialRenameCard

/-- THE TIED CARD OF 'forkwrightkeep.UnfoldSame'. -/
def unfoldSameCard : Claim7 := { stood := { row := unfoldSameRow, standIns := [], harness := (true, "81dd9ae796576dbac88f7814064bab6cd362ccc2228f324b4c84be9032516ef1"), looks := true }, kinds := [], alts := [], laidByText := true, laidKinds := [.data, .data, .data], laidTests := true, laidLooks := .later }
def UnfoldSameCardSaid : Prop := Claim7.holds Tryd.pinned (.plain (OpenSpec.ofChange unfoldSameSpec)) unfoldSameCard

/-- THE TIED CARD OF 'forkwrightkeep.MhpSound'. -/
def mhpSoundCard : Claim7 := { stood := { row := mhpSoundRow, standIns := [], harness := (true, "81dd9ae796576dbac88f7814064bab6cd362ccc2228f324b4c84be9032516ef1"), looks := true }, kinds := [], alts := [], laidByText := true, laidKinds := [.data], laidTests := true, laidLooks := .later }
def MhpSoundCardSaid : Prop := Claim7.holds Tryd.pinned (.plain (OpenSpec.ofChange mhpSoundSpec)) mhpSoundCard

/-- THE TIED CARD OF 'forkwrightkeep.MhpJust'. -/
def mhpJustCard : Claim7 := { stood := { row := mhpJustRow, standIns := [], harness := (true, "81dd9ae796576dbac88f7814064bab6cd362ccc2228f324b4c84be9032516ef1"), looks := true }, kinds := [], alts := [], laidByText := true, laidKinds := [.data], laidTests := true, laidLooks := .later }
def MhpJustCardSaid : Prop := Claim7.holds Tryd.pinned (.plain (OpenSpec.ofChange mhpJustSpec)) mhpJustCard

/-- THE TIED CARD OF 'forkwrightkeep.GraphRound'. -/
def graphRoundCard : Claim7 := { stood := { row := graphRoundRow, standIns := [], harness := (true, "81dd9ae796576dbac88f7814064bab6cd362ccc2228f324b4c84be9032516ef1"), looks := true }, kinds := [], alts := [], laidByText := true, laidKinds := [.data], laidTests := true, laidLooks := .later }
def GraphRoundCardSaid : Prop := Claim7.holds Tryd.pinned (.plain (OpenSpec.ofChange graphRoundSpec)) graphRoundCard

/-- THE TIED CARD OF 'forkwrightkeep.GraphClosed'. -/
def graphClosedCard : Claim7 := { stood := { row := graphClosedRow, standIns := [], harness := (true, "81dd9ae796576dbac88f7814064bab6cd362ccc2228f324b4c84be9032516ef1"), looks := true }, kinds := [], alts := [], laidByText := true, laidKinds := [.data], laidTests := true, laidLooks := .later }
def GraphClosedCardSaid : Prop := Claim7.holds Tryd.pinned (.plain (OpenSpec.ofChange graphClosedSpec)) graphClosedCard

/-- THE TIED CARD OF 'forkwrightkeep.OrderFirst'. -/
def orderFirstCard : Claim7 := { stood := { row := orderFirstRow, standIns := [], harness := (true, "81dd9ae796576dbac88f7814064bab6cd362ccc2228f324b4c84be9032516ef1"), looks := true }, kinds := [], alts := [], laidByText := true, laidKinds := [.data], laidTests := true, laidLooks := .later }
def OrderFirstCardSaid : Prop := Claim7.holds Tryd.pinned (.plain (OpenSpec.ofChange orderFirstSpec)) orderFirstCard

/-- THE SECOND FORM's CARD OF 'forkwrightkeep.BitsetAlgebra'. -/
def bitsetAlgebraUptoCard : Claim7 := { stood := { row := bitsetAlgebraUptoRow, standIns := [], harness := (true, "81dd9ae796576dbac88f7814064bab6cd362ccc2228f324b4c84be9032516ef1"), looks := true }, kinds := [], alts := [], laidByText := true, laidKinds := [.data], laidTests := true, laidLooks := .later }
def BitsetAlgebraUptoCardSaid : Prop := Claim7.holds Tryd.pinned (.plain (OpenSpec.upto bitsetAlgebraSpec)) bitsetAlgebraUptoCard

/-- THE SECOND FORM's CARD OF 'forkwrightkeep.BitsetCount'. -/
def bitsetCountUptoCard : Claim7 := { stood := { row := bitsetCountUptoRow, standIns := [], harness := (true, "81dd9ae796576dbac88f7814064bab6cd362ccc2228f324b4c84be9032516ef1"), looks := true }, kinds := [], alts := [], laidByText := true, laidKinds := [.data], laidTests := true, laidLooks := .later }
def BitsetCountUptoCardSaid : Prop := Claim7.holds Tryd.pinned (.plain (OpenSpec.upto bitsetCountSpec)) bitsetCountUptoCard

/-- THE SECOND FORM's CARD OF 'forkwrightkeep.BitsetBack'. -/
def bitsetBackUptoCard : Claim7 := { stood := { row := bitsetBackUptoRow, standIns := [], harness := (true, "81dd9ae796576dbac88f7814064bab6cd362ccc2228f324b4c84be9032516ef1"), looks := true }, kinds := [], alts := [], laidByText := true, laidKinds := [.data], laidTests := true, laidLooks := .later }
def BitsetBackUptoCardSaid : Prop := Claim7.holds Tryd.pinned (.plain (OpenSpec.upto bitsetBackSpec)) bitsetBackUptoCard

/-- THE SECOND FORM's CARD OF 'forkwrightkeep.MhpNone'. -/
def mhpNoneUptoCard : Claim7 := { stood := { row := mhpNoneUptoRow, standIns := [], harness := (true, "81dd9ae796576dbac88f7814064bab6cd362ccc2228f324b4c84be9032516ef1"), looks := true }, kinds := [], alts := [], laidByText := true, laidKinds := [.data], laidTests := true, laidLooks := .later }
def MhpNoneUptoCardSaid : Prop := Claim7.holds Tryd.pinned (.plain (OpenSpec.upto mhpNoneSpec)) mhpNoneUptoCard

/-- THE SECOND FORM's CARD OF 'forkwrightkeep.SerialRename'. -/
def serialRenameUptoCard : Claim7 := { stood := { row := serialRenameUptoRow, standIns := [], harness := (true, "81dd9ae796576dbac88f7814064bab6cd362ccc2228f324b4c84be9032516ef1"), looks := true }, kinds := [], alts := [], laidByText := true, laidKinds := [.data, .data, .data], laidTests := true, laidLooks := .later }
def SerialRenameUptoCardSaid : Prop := Claim7.holds Tryd.pinned (.plain (OpenSpec.upto serialRenameSpec)) serialRenameUptoCard

/-- THE SECOND FORM's CARD OF 'forkwrightkeep.UnfoldSame'. -/
def unfoldSameUptoCard : Claim7 := { stood := { row := unfoldSameUptoRow, standIns := [], harness := (true, "81dd9ae796576dbac88f7814064bab6cd362ccc2228f324b4c84be9032516ef1"), looks := true }, kinds := [], alts := [], laidByText := true, laidKinds := [.data, .data, .data], laidTests := true, laidLooks := .later }
def UnfoldSameUptoCardSaid : Prop := Claim7.holds Tryd.pinned (.plain (OpenSpec.upto unfoldSameSpec)) unfoldSameUptoCard

/-- THE SECOND FORM's CARD OF 'forkwrightkeep.MhpSound'. -/
def mhpSoundUptoCard : Claim7 := { stood := { row := mhpSoundUptoRow, standIns := [], harness := (true, "81dd9ae796576dbac88f7814064bab6cd362ccc2228f324b4c84be9032516ef1"), looks := true }, kinds := [], alts := [], laidByText := true, laidKinds := [.data], laidTests := true, laidLooks := .later }
def MhpSoundUptoCardSaid : Prop := Claim7.holds Tryd.pinned (.plain (OpenSpec.upto mhpSoundSpec)) mhpSoundUptoCard

/-- THE SECOND FORM's CARD OF 'forkwrightkeep.MhpJust'. -/
def mhpJustUptoCard : Claim7 := { stood := { row := mhpJustUptoRow, standIns := [], harness := (true, "81dd9ae796576dbac88f7814064bab6cd362ccc2228f324b4c84be9032516ef1"), looks := true }, kinds := [], alts := [], laidByText := true, laidKinds := [.data], laidTests := true, laidLooks := .later }
def MhpJustUptoCardSaid : Prop := Claim7.holds Tryd.pinned (.plain (OpenSpec.upto mhpJustSpec)) mhpJustUptoCard

/-- THE SECOND FORM's CARD OF 'forkwrightkeep.GraphRound'. -/
def graphRoundUptoCard : Claim7 := { stood := { row := graphRoundUptoRow, standIns := [], harness := (true, "81dd9ae796576dbac88f7814064bab6cd362ccc2228f324b4c84be9032516ef1"), looks := true }, kinds := [], alts := [], laidByText := true, laidKinds := [.data], laidTests := true, laidLooks := .later }
def GraphRoundUptoCardSaid : Prop := Claim7.holds Tryd.pinned (.plain (OpenSpec.upto graphRoundSpec)) graphRoundUptoCard

/-- THE SECOND FORM's CARD OF 'forkwrightkeep.GraphClosed'. -/
def graphClosedUptoCard : Claim7 := { stood := { row := graphClosedUptoRow, standIns := [], harness := (true, "81dd9ae796576dbac88f7814064bab6cd362ccc2228f324b4c84be9032516ef1"), looks := true }, kinds := [], alts := [], laidByText := true, laidKinds := [.data], laidTests := true, laidLooks := .later }
def GraphClosedUptoCardSaid : Prop := Claim7.holds Tryd.pinned (.plain (OpenSpec.upto graphClosedSpec)) graphClosedUptoCard

/-- THE SECOND FORM's CARD OF 'forkwrightkeep.OrderFirst'. -/
def orderFirstUptoCard : Claim7 := { stood := { row := orderFirstUptoRow, standIns := [], harness := (true, "81dd9ae796576dbac88f7814064bab6cd362ccc2228f324b4c84be9032516ef1"), looks := true }, kinds := [], alts := [], laidByText := true, laidKinds := [.data], laidTests := true, laidLooks := .later }
def OrderFirstUptoCardSaid : Prop := Claim7.holds Tryd.pinned (.plain (OpenSpec.upto orderFirstSpec)) orderFirstUptoCard
end Rows
end Go.Proofs.YtkjmddgnfgbioaaDoor
