/-
  DERIVED. GIVEN WITH THE SEED: THE CARDS: each row of YtcpoglchjkpbpaaDoorRows.lean that lists a variable, with what it lists TIED to the program's text (the seventh form; the later family's looks); each row that meets fmt, with fmt's text TOLD by the authors' own Lean function (tested against real Go, not proved from fmt's source: count such statements apart). THE CARD IS WHAT COUNTS. Prove the row's statement (the work); the ties are given (YtcpoglchjkpbpaaDoorTie.lean); close each card by the builder's one call (the guide's Derived/Test/ToyasCard.lean, 'card_holds'). Laid BY PROGRAM, IN A SANDBOX (cutbox-door.mjs). By AI agents, Wed Nov 11 2026. No macro, syntax, notation, axiom, sorry.
-/
import Derived.Test.YtcpoglchjkpbpaaDoorRows
import GoSem.ClaimSeven
namespace Go.Proofs.YtcpoglchjkpbpaaDoor
namespace Rows

/-- THE TIED CARD OF 'forkwrightkeep.GreedyAll'. -/
def greedyAllCard : Claim7 := { stood := { row := greedyAllRow, standIns := [], harness := (true, "c27bd53c7c8b5695d3a681983934c4ca12196c8b8840424b675c704cb1647492"), looks := false }, kinds := [], alts := [], laidByText := true, laidKinds := [.data], laidTests := true, laidLooks := .later }
def GreedyAllCardSaid : Prop := Claim7.holds Tryd.pinned (.plain (OpenSpec.ofChange greedyAllSpec)) greedyAllCard

/-- THE TIED CARD OF 'forkwrightkeep.GraphBehind'. -/
def graphBehindCard : Claim7 := { stood := { row := graphBehindRow, standIns := [], harness := (true, "c27bd53c7c8b5695d3a681983934c4ca12196c8b8840424b675c704cb1647492"), looks := false }, kinds := [], alts := [], laidByText := true, laidKinds := [.data], laidTests := true, laidLooks := .later }
def GraphBehindCardSaid : Prop := Claim7.holds Tryd.pinned (.plain (OpenSpec.ofChange graphBehindSpec)) graphBehindCard

/-- THE TIED CARD OF 'forkwrightkeep.GraphClosed'. -/
def graphClosedCard : Claim7 := { stood := { row := graphClosedRow, standIns := [], harness := (true, "c27bd53c7c8b5695d3a681983934c4ca12196c8b8840424b675c704cb1647492"), looks := false }, kinds := [], alts := [], laidByText := true, laidKinds := [.data], laidTests := true, laidLooks := .later }
def GraphClosedCardSaid : Prop := Claim7.holds Tryd.pinned (.plain (OpenSpec.ofChange graphClosedSpec)) graphClosedCard

/-- THE TIED CARD OF 'forkwrightkeep.GreedyBrent'. -/
def greedyBrentCard : Claim7 := { stood := { row := greedyBrentRow, standIns := [], harness := (true, "c27bd53c7c8b5695d3a681983934c4ca12196c8b8840424b675c704cb1647492"), looks := false }, kinds := [], alts := [], laidByText := true, laidKinds := [.data], laidTests := true, laidLooks := .later }
def GreedyBrentCardSaid : Prop := Claim7.holds Tryd.pinned (.plain (OpenSpec.ofChange greedyBrentSpec)) greedyBrentCard

/-- THE TIED CARD OF 'forkwrightkeep.SpCounts'. -/
def spCountsCard : Claim7 := { stood := { row := spCountsRow, standIns := [], harness := (true, "c27bd53c7c8b5695d3a681983934c4ca12196c8b8840424b675c704cb1647492"), looks := false }, kinds := [], alts := [], laidByText := true, laidKinds := [.data], laidTests := true, laidLooks := .later }
def SpCountsCardSaid : Prop := Claim7.holds Tryd.pinned (.plain (OpenSpec.ofChange spCountsSpec)) spCountsCard

/-- THE TIED CARD OF 'forkwrightkeep.GraphLeast'. -/
def graphLeastCard : Claim7 := { stood := { row := graphLeastRow, standIns := [], harness := (true, "c27bd53c7c8b5695d3a681983934c4ca12196c8b8840424b675c704cb1647492"), looks := false }, kinds := [], alts := [], laidByText := true, laidKinds := [.data], laidTests := true, laidLooks := .later }
def GraphLeastCardSaid : Prop := Claim7.holds Tryd.pinned (.plain (OpenSpec.ofChange graphLeastSpec)) graphLeastCard

/-- THE TIED CARD OF 'forkwrightkeep.SpClosed'. -/
def spClosedCard : Claim7 := { stood := { row := spClosedRow, standIns := [], harness := (true, "c27bd53c7c8b5695d3a681983934c4ca12196c8b8840424b675c704cb1647492"), looks := false }, kinds := [], alts := [], laidByText := true, laidKinds := [.data], laidTests := true, laidLooks := .later }
def SpClosedCardSaid : Prop := Claim7.holds Tryd.pinned (.plain (OpenSpec.ofChange spClosedSpec)) spClosedCard

/-- THE TIED CARD OF 'forkwrightkeep.GreedyIdle'. -/
def greedyIdleCard : Claim7 := { stood := { row := greedyIdleRow, standIns := [], harness := (true, "c27bd53c7c8b5695d3a681983934c4ca12196c8b8840424b675c704cb1647492"), looks := false }, kinds := [], alts := [], laidByText := true, laidKinds := [.data], laidTests := true, laidLooks := .later }
def GreedyIdleCardSaid : Prop := Claim7.holds Tryd.pinned (.plain (OpenSpec.ofChange greedyIdleSpec)) greedyIdleCard

/-- THE SECOND FORM's CARD OF 'forkwrightkeep.GreedyAll'. -/
def greedyAllUptoCard : Claim7 := { stood := { row := greedyAllUptoRow, standIns := [], harness := (true, "c27bd53c7c8b5695d3a681983934c4ca12196c8b8840424b675c704cb1647492"), looks := false }, kinds := [], alts := [], laidByText := true, laidKinds := [.data], laidTests := true, laidLooks := .later }
def GreedyAllUptoCardSaid : Prop := Claim7.holds Tryd.pinned (.plain (OpenSpec.upto greedyAllSpec)) greedyAllUptoCard

/-- THE SECOND FORM's CARD OF 'forkwrightkeep.GraphBehind'. -/
def graphBehindUptoCard : Claim7 := { stood := { row := graphBehindUptoRow, standIns := [], harness := (true, "c27bd53c7c8b5695d3a681983934c4ca12196c8b8840424b675c704cb1647492"), looks := false }, kinds := [], alts := [], laidByText := true, laidKinds := [.data], laidTests := true, laidLooks := .later }
def GraphBehindUptoCardSaid : Prop := Claim7.holds Tryd.pinned (.plain (OpenSpec.upto graphBehindSpec)) graphBehindUptoCard

/-- THE SECOND FORM's CARD OF 'forkwrightkeep.GraphClosed'. -/
def graphClosedUptoCard : Claim7 := { stood := { row := graphClosedUptoRow, standIns := [], harness := (true, "c27bd53c7c8b5695d3a681983934c4ca12196c8b8840424b675c704cb1647492"), looks := false }, kinds := [], alts := [], laidByText := true, laidKinds := [.data], laidTests := true, laidLooks := .later }
def GraphClosedUptoCardSaid : Prop := Claim7.holds Tryd.pinned (.plain (OpenSpec.upto graphClosedSpec)) graphClosedUptoCard

/-- THE SECOND FORM's CARD OF 'forkwrightkeep.GreedyBrent'. -/
def greedyBrentUptoCard : Claim7 := { stood := { row := greedyBrentUptoRow, standIns := [], harness := (true, "c27bd53c7c8b5695d3a681983934c4ca12196c8b8840424b675c704cb1647492"), looks := false }, kinds := [], alts := [], laidByText := true, laidKinds := [.data], laidTests := true, laidLooks := .later }
def GreedyBrentUptoCardSaid : Prop := Claim7.holds Tryd.pinned (.plain (OpenSpec.upto greedyBrentSpec)) greedyBrentUptoCard

/-- THE SECOND FORM's CARD OF 'forkwrightkeep.SpCounts'. -/
def spCountsUptoCard : Claim7 := { stood := { row := spCountsUptoRow, standIns := [], harness := (true, "c27bd53c7c8b5695d3a681983934c4ca12196c8b8840424b675c704cb1647492"), looks := false }, kinds := [], alts := [], laidByText := true, laidKinds := [.data], laidTests := true, laidLooks := .later }
def SpCountsUptoCardSaid : Prop := Claim7.holds Tryd.pinned (.plain (OpenSpec.upto spCountsSpec)) spCountsUptoCard

/-- THE SECOND FORM's CARD OF 'forkwrightkeep.GraphLeast'. -/
def graphLeastUptoCard : Claim7 := { stood := { row := graphLeastUptoRow, standIns := [], harness := (true, "c27bd53c7c8b5695d3a681983934c4ca12196c8b8840424b675c704cb1647492"), looks := false }, kinds := [], alts := [], laidByText := true, laidKinds := [.data], laidTests := true, laidLooks := .later }
def GraphLeastUptoCardSaid : Prop := Claim7.holds Tryd.pinned (.plain (OpenSpec.upto graphLeastSpec)) graphLeastUptoCard

/-- THE SECOND FORM's CARD OF 'forkwrightkeep.SpClosed'. -/
def spClosedUptoCard : Claim7 := { stood := { row := spClosedUptoRow, standIns := [], harness := (true, "c27bd53c7c8b5695d3a681983934c4ca12196c8b8840424b675c704cb1647492"), looks := false }, kinds := [], alts := [], laidByText := true, laidKinds := [.data], laidTests := true, laidLooks := .later }
def SpClosedUptoCardSaid : Prop := Claim7.holds Tryd.pinned (.plain (OpenSpec.upto spClosedSpec)) spClosedUptoCard

/-- THE SECOND FORM's CARD OF 'forkwrightkeep.GreedyIdle'. -/
def greedyIdleUptoCard : Claim7 := { stood := { row := greedyIdleUptoRow, standIns := [], harness := (true, "c27bd53c7c8b5695d3a681983934c4ca12196c8b8840424b675c704cb1647492"), looks := false }, kinds := [], alts := [], laidByText := true, laidKinds := [.data], laidTests := true, laidLooks := .later }
def GreedyIdleUptoCardSaid : Prop := Claim7.holds Tryd.pinned (.plain (OpenSpec.upto greedyIdleSpec)) greedyIdleUptoCard
end Rows
end Go.Proofs.YtcpoglchjkpbpaaDoor
