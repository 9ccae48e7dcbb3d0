/-
  DERIVED. GIVEN WITH THE SEED: THE CARDS: each row of YtdhjfckckghicaaDoorRows.lean that lists a variable, with what it lists TIED to the program's text (the seventh form; the later family's looks); each row that meets fmt, with fmt's text TOLD by the authors' own Lean function (tested against real Go, not proved from fmt's source: count such statements apart). THE CARD IS WHAT COUNTS. Prove the row's statement (the work); the ties are given (YtdhjfckckghicaaDoorTie.lean); close each card by the builder's one call (the guide's Derived/Test/ToyasCard.lean, 'card_holds'). Laid BY PROGRAM, IN A SANDBOX (cutbox-door.mjs). By AI agents, Wed Nov 11 2026. No macro, syntax, notation, axiom, sorry.
-/
import Derived.Test.YtdhjfckckghicaaDoorRows
import GoSem.ClaimSeven
namespace Go.Proofs.YtdhjfckckghicaaDoor
namespace Rows

/-- THE TIED CARD OF 'forkwrightkeep.ScopeTwice'. -/
def scopeTwiceCard : Claim7 := { stood := { row := scopeTwiceRow, standIns := [], harness := (true, "c49a8d556cf8ea098efc57e8727eea017f98c92dee748a567f661823d5269104"), looks := true }, kinds := [], alts := [], laidByText := true, laidKinds := [.data, .data, .data], laidTests := true, laidLooks := .later }
def ScopeTwiceCardSaid : Prop := Claim7.holds Tryd.pinned (.plain (OpenSpec.ofChange scopeTwiceSpec)) scopeTwiceCard

/-- THE TIED CARD OF 'forkwrightkeep.ScopeClosed'. -/
def scopeClosedCard : Claim7 := { stood := { row := scopeClosedRow, standIns := [], harness := (true, "c49a8d556cf8ea098efc57e8727eea017f98c92dee748a567f661823d5269104"), looks := true }, kinds := [], alts := [], laidByText := true, laidKinds := [.data, .data, .data], laidTests := true, laidLooks := .later }
def ScopeClosedCardSaid : Prop := Claim7.holds Tryd.pinned (.plain (OpenSpec.ofChange scopeClosedSpec)) scopeClosedCard

/-- THE TIED CARD OF 'forkwrightkeep.ScopeBlock'. -/
def scopeBlockCard : Claim7 := { stood := { row := scopeBlockRow, standIns := [], harness := (true, "c49a8d556cf8ea098efc57e8727eea017f98c92dee748a567f661823d5269104"), looks := true }, kinds := [], alts := [], laidByText := true, laidKinds := [.data, .data, .data], laidTests := true, laidLooks := .later }
def ScopeBlockCardSaid : Prop := Claim7.holds Tryd.pinned (.plain (OpenSpec.ofChange scopeBlockSpec)) scopeBlockCard

/-- THE TIED CARD OF 'forkwrightkeep.ScopeTurn'. -/
def scopeTurnCard : Claim7 := { stood := { row := scopeTurnRow, standIns := [], harness := (true, "c49a8d556cf8ea098efc57e8727eea017f98c92dee748a567f661823d5269104"), looks := true }, kinds := [], alts := [], laidByText := true, laidKinds := [.data, .data, .data], laidTests := true, laidLooks := .later }
def ScopeTurnCardSaid : Prop := Claim7.holds Tryd.pinned (.plain (OpenSpec.ofChange scopeTurnSpec)) scopeTurnCard

/-- THE TIED CARD OF 'forkwrightkeep.SerialRename'. -/
def serialRenameCard : Claim7 := { stood := { row := serialRenameRow, standIns := [], harness := (true, "c49a8d556cf8ea098efc57e8727eea017f98c92dee748a567f661823d5269104"), looks := true }, kinds := [], alts := [], laidByText := true, laidKinds := [.data, .data, .data], laidTests := true, laidLooks := .later }
def SerialRenameCardSaid : Prop := Claim7.holds Tryd.pinned (.plain (OpenSpec.ofChange serialRenameSpec)) serialRenameCard

/-- THE SECOND FORM's CARD OF 'forkwrightkeep.ScopeTwice'. -/
def scopeTwiceUptoCard : Claim7 := { stood := { row := scopeTwiceUptoRow, standIns := [], harness := (true, "c49a8d556cf8ea098efc57e8727eea017f98c92dee748a567f661823d5269104"), looks := true }, kinds := [], alts := [], laidByText := true, laidKinds := [.data, .data, .data], laidTests := true, laidLooks := .later }
def ScopeTwiceUptoCardSaid : Prop := Claim7.holds Tryd.pinned (.plain (OpenSpec.upto scopeTwiceSpec)) scopeTwiceUptoCard

/-- THE SECOND FORM's CARD OF 'forkwrightkeep.ScopeClosed'. -/
def scopeClosedUptoCard : Claim7 := { stood := { row := scopeClosedUptoRow, standIns := [], harness := (true, "c49a8d556cf8ea098efc57e8727eea017f98c92dee748a567f661823d5269104"), looks := true }, kinds := [], alts := [], laidByText := true, laidKinds := [.data, .data, .data], laidTests := true, laidLooks := .later }
def ScopeClosedUptoCardSaid : Prop := Claim7.holds Tryd.pinned (.plain (OpenSpec.upto scopeClosedSpec)) scopeClosedUptoCard

/-- THE SECOND FORM's CARD OF 'forkwrightkeep.ScopeBlock'. -/
def scopeBlockUptoCard : Claim7 := { stood := { row := scopeBlockUptoRow, standIns := [], harness := (true, "c49a8d556cf8ea098efc57e8727eea017f98c92dee748a567f661823d5269104"), looks := true }, kinds := [], alts := [], laidByText := true, laidKinds := [.data, .data, .data], laidTests := true, laidLooks := .later }
def ScopeBlockUptoCardSaid : Prop := Claim7.holds Tryd.pinned (.plain (OpenSpec.upto scopeBlockSpec)) scopeBlockUptoCard

/-- THE SECOND FORM's CARD OF 'forkwrightkeep.ScopeTurn'. -/
def scopeTurnUptoCard : Claim7 := { stood := { row := scopeTurnUptoRow, standIns := [], harness := (true, "c49a8d556cf8ea098efc57e8727eea017f98c92dee748a567f661823d5269104"), looks := true }, kinds := [], alts := [], laidByText := true, laidKinds := [.data, .data, .data], laidTests := true, laidLooks := .later }
def ScopeTurnUptoCardSaid : Prop := Claim7.holds Tryd.pinned (.plain (OpenSpec.upto scopeTurnSpec)) scopeTurnUptoCard

/-- THE SECOND FORM's CARD OF 'forkwrightkeep.SerialRename'. -/
def serialRenameUptoCard : Claim7 := { stood := { row := serialRenameUptoRow, standIns := [], harness := (true, "c49a8d556cf8ea098efc57e8727eea017f98c92dee748a567f661823d5269104"), looks := true }, kinds := [], alts := [], laidByText := true, laidKinds := [.data, .data, .data], laidTests := true, laidLooks := .later }
def SerialRenameUptoCardSaid : Prop := Claim7.holds Tryd.pinned (.plain (OpenSpec.upto serialRenameSpec)) serialRenameUptoCard
end Rows
end Go.Proofs.YtdhjfckckghicaaDoor
