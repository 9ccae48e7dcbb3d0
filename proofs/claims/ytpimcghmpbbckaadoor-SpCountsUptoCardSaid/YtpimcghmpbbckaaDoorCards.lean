/-
  DERIVED. GIVEN WITH THE SEED: THE CARDS: each row of YtpimcghmpbbckaaDoorRows.lean that lists a variable, with what it lists TIED to the program's text (the seventh form; the later family's looks); each row that meets fmt, with fmt's text TOLD by the authors' own Lean function (tested against real Go, not proved from fmt's source: count such statements apart). THE CARD IS WHAT COUNTS. Prove the row's statement (the work); the ties are given (YtpimcghmpbbckaaDoorTie.lean); close each card by the builder's one call (the guide's Derived/Test/ToyasCard.lean, 'card_holds'). Laid BY PROGRAM, IN A SANDBOX (cutbox-door.mjs). By AI agents, Wed Nov 11 2026. No macro, syntax, notation, axiom, sorry.
-/
import Derived.Test.YtpimcghmpbbckaaDoorRows
import GoSem.ClaimSeven
namespace Go.Proofs.YtpimcghmpbbckaaDoor
namespace Rows

/-- THE TIED CARD OF 'forkwrightkeep.GreedyAll'. -/
def greedyAllCard : Claim7 := { stood := { row := greedyAllRow, standIns := [], harness := (true, "05ab8607a63e0663e32b0ed740bfdb9a20df761974976ff8caa9fb94c128d22a"), looks := false }, kinds := [], alts := [], laidByText := true, laidKinds := [.data], laidTests := true, laidLooks := .later }
def GreedyAllCardSaid : Prop := Claim7.holds Tryd.pinned (.plain (OpenSpec.ofChange greedyAllSpec)) greedyAllCard

/-- THE TIED CARD OF 'forkwrightkeep.GreedyBrent'. -/
def greedyBrentCard : Claim7 := { stood := { row := greedyBrentRow, standIns := [], harness := (true, "05ab8607a63e0663e32b0ed740bfdb9a20df761974976ff8caa9fb94c128d22a"), looks := false }, kinds := [], alts := [], laidByText := true, laidKinds := [.data], laidTests := true, laidLooks := .later }
def GreedyBrentCardSaid : Prop := Claim7.holds Tryd.pinned (.plain (OpenSpec.ofChange greedyBrentSpec)) greedyBrentCard

/-- THE TIED CARD OF 'forkwrightkeep.SpCounts'. -/
def spCountsCard : Claim7 := { stood := { row := spCountsRow, standIns := [], harness := (true, "05ab8607a63e0663e32b0ed740bfdb9a20df761974976ff8caa9fb94c128d22a"), looks := false }, kinds := [], alts := [], laidByText := true, laidKinds := [.data], laidTests := true, laidLooks := .later }
def SpCountsCardSaid : Prop := Claim7.holds Tryd.pinned (.plain (OpenSpec.ofChange spCountsSpec)) spCountsCard

/-- THE TIED CARD OF 'forkwrightkeep.GreedyIdle'. -/
def greedyIdleCard : Claim7 := { stood := { row := greedyIdleRow, standIns := [], harness := (true, "05ab8607a63e0663e32b0ed740bfdb9a20df761974976ff8caa9fb94c128d22a"), looks := false }, kinds := [], alts := [], laidByText := true, laidKinds := [.data], laidTests := true, laidLooks := .later }
def GreedyIdleCardSaid : Prop := Claim7.holds Tryd.pinned (.plain (OpenSpec.ofChange greedyIdleSpec)) greedyIdleCard

/-- THE TIED CARD OF 'forkwrightkeep.GreedyTerm'. -/
def greedyTermCard : Claim7 := { stood := { row := greedyTermRow, standIns := [], harness := (true, "05ab8607a63e0663e32b0ed740bfdb9a20df761974976ff8caa9fb94c128d22a"), looks := false }, kinds := [], alts := [], laidByText := true, laidKinds := [.data], laidTests := true, laidLooks := .later }
def GreedyTermCardSaid : Prop := Claim7.holds Tryd.pinned (.plain (OpenSpec.ofChange greedyTermSpec)) greedyTermCard

/-- THE TIED CARD OF 'forkwrightkeep.GreedyAlone'. -/
def greedyAloneCard : Claim7 := { stood := { row := greedyAloneRow, standIns := [], harness := (true, "05ab8607a63e0663e32b0ed740bfdb9a20df761974976ff8caa9fb94c128d22a"), looks := false }, kinds := [], alts := [], laidByText := true, laidKinds := [.data], laidTests := true, laidLooks := .later }
def GreedyAloneCardSaid : Prop := Claim7.holds Tryd.pinned (.plain (OpenSpec.ofChange greedyAloneSpec)) greedyAloneCard

/-- THE TIED CARD OF 'forkwrightkeep.OrderMirsky'. -/
def orderMirskyCard : Claim7 := { stood := { row := orderMirskyRow, standIns := [], harness := (true, "05ab8607a63e0663e32b0ed740bfdb9a20df761974976ff8caa9fb94c128d22a"), looks := false }, kinds := [], alts := [], laidByText := true, laidKinds := [.data], laidTests := true, laidLooks := .later }
def OrderMirskyCardSaid : Prop := Claim7.holds Tryd.pinned (.plain (OpenSpec.ofChange orderMirskySpec)) orderMirskyCard

/-- THE TIED CARD OF 'forkwrightkeep.OrderFirst'. -/
def orderFirstCard : Claim7 := { stood := { row := orderFirstRow, standIns := [], harness := (true, "05ab8607a63e0663e32b0ed740bfdb9a20df761974976ff8caa9fb94c128d22a"), looks := false }, kinds := [], alts := [], laidByText := true, laidKinds := [.data], laidTests := true, laidLooks := .later }
def OrderFirstCardSaid : Prop := Claim7.holds Tryd.pinned (.plain (OpenSpec.ofChange orderFirstSpec)) orderFirstCard

/-- THE TIED CARD OF 'forkwrightkeep.OrderMore'. -/
def orderMoreCard : Claim7 := { stood := { row := orderMoreRow, standIns := [], harness := (true, "05ab8607a63e0663e32b0ed740bfdb9a20df761974976ff8caa9fb94c128d22a"), looks := false }, kinds := [], alts := [], laidByText := true, laidKinds := [.data], laidTests := true, laidLooks := .later }
def OrderMoreCardSaid : Prop := Claim7.holds Tryd.pinned (.plain (OpenSpec.ofChange orderMoreSpec)) orderMoreCard

/-- THE SECOND FORM's CARD OF 'forkwrightkeep.GreedyAll'. -/
def greedyAllUptoCard : Claim7 := { stood := { row := greedyAllUptoRow, standIns := [], harness := (true, "05ab8607a63e0663e32b0ed740bfdb9a20df761974976ff8caa9fb94c128d22a"), looks := false }, kinds := [], alts := [], laidByText := true, laidKinds := [.data], laidTests := true, laidLooks := .later }
def GreedyAllUptoCardSaid : Prop := Claim7.holds Tryd.pinned (.plain (OpenSpec.upto greedyAllSpec)) greedyAllUptoCard

/-- THE SECOND FORM's CARD OF 'forkwrightkeep.GreedyBrent'. -/
def greedyBrentUptoCard : Claim7 := { stood := { row := greedyBrentUptoRow, standIns := [], harness := (true, "05ab8607a63e0663e32b0ed740bfdb9a20df761974976ff8caa9fb94c128d22a"), looks := false }, kinds := [], alts := [], laidByText := true, laidKinds := [.data], laidTests := true, laidLooks := .later }
def GreedyBrentUptoCardSaid : Prop := Claim7.holds Tryd.pinned (.plain (OpenSpec.upto greedyBrentSpec)) greedyBrentUptoCard

/-- THE SECOND FORM's CARD OF 'forkwrightkeep.SpCounts'. -/
def spCountsUptoCard : Claim7 := { stood := { row := spCountsUptoRow, standIns := [], harness := (true, "05ab8607a63e0663e32b0ed740bfdb9a20df761974976ff8caa9fb94c128d22a"), looks := false }, kinds := [], alts := [], laidByText := true, laidKinds := [.data], laidTests := true, laidLooks := .later }
def SpCountsUptoCardSaid : Prop := Claim7.holds Tryd.pinned (.plain (OpenSpec.upto spCountsSpec)) spCountsUptoCard

/-- THE SECOND FORM's CARD OF 'forkwrightkeep.GreedyIdle'. -/
def greedyIdleUptoCard : Claim7 := { stood := { row := greedyIdleUptoRow, standIns := [], harness := (true, "05ab8607a63e0663e32b0ed740bfdb9a20df761974976ff8caa9fb94c128d22a"), looks := false }, kinds := [], alts := [], laidByText := true, laidKinds := [.data], laidTests := true, laidLooks := .later }
def GreedyIdleUptoCardSaid : Prop := Claim7.holds Tryd.pinned (.plain (OpenSpec.upto greedyIdleSpec)) greedyIdleUptoCard

/-- THE SECOND FORM's CARD OF 'forkwrightkeep.GreedyTerm'. -/
def greedyTermUptoCard : Claim7 := { stood := { row := greedyTermUptoRow, standIns := [], harness := (true, "05ab8607a63e0663e32b0ed740bfdb9a20df761974976ff8caa9fb94c128d22a"), looks := false }, kinds := [], alts := [], laidByText := true, laidKinds := [.data], laidTests := true, laidLooks := .later }
def GreedyTermUptoCardSaid : Prop := Claim7.holds Tryd.pinned (.plain (OpenSpec.upto greedyTermSpec)) greedyTermUptoCard

/-- THE SECOND FORM's CARD OF 'forkwrightkeep.GreedyAlone'. -/
def greedyAloneUptoCard : Claim7 := { stood := { row := greedyAloneUptoRow, standIns := [], harness := (true, "05ab8607a63e0663e32b0ed740bfdb9a20df761974976ff8caa9fb94c128d22a"), looks := false }, kinds := [], alts := [], laidByText := true, laidKinds := [.data], laidTests := true, laidLooks := .later }
def GreedyAloneUptoCardSaid : Prop := Claim7.holds Tryd.pinned (.plain (OpenSpec.upto greedyAloneSpec)) greedyAloneUptoCard

/-- THE SECOND FORM's CARD OF 'forkwrightkeep.OrderMirsky'. -/
def orderMirskyUptoCard : Claim7 := { stood := { row := orderMirskyUptoRow, standIns := [], harness := (true, "05ab8607a63e0663e32b0ed740bfdb9a20df761974976ff8caa9fb94c128d22a"), looks := false }, kinds := [], alts := [], laidByText := true, laidKinds := [.data], laidTests := true, laidLooks := .later }
def OrderMirskyUptoCardSaid : Prop := Claim7.holds Tryd.pinned (.plain (OpenSpec.upto orderMirskySpec)) orderMirskyUptoCard

/-- THE SECOND FORM's CARD OF 'forkwrightkeep.OrderFirst'. -/
def orderFirstUptoCard : Claim7 := { stood := { row := orderFirstUptoRow, standIns := [], harness := (true, "05ab8607a63e0663e32b0ed740bfdb9a20df761974976ff8caa9fb94c128d22a"), looks := false }, kinds := [], alts := [], laidByText := true, laidKinds := [.data], laidTests := true, laidLooks := .later }
def OrderFirstUptoCardSaid : Prop := Claim7.holds Tryd.pinned (.plain (OpenSpec.upto orderFirstSpec)) orderFirstUptoCard

/-- THE SECOND FORM's CARD OF 'forkwrightkeep.OrderMore'. -/
def orderMoreUptoCard : Claim7 := { stood := { row := orderMoreUptoRow, standIns := [], harness := (true, "05ab8607a63e0663e32b0ed740bfdb9a20df761974976ff8caa9fb94c128d22a"), looks := false }, kinds := [], alts := [], laidByText := true, laidKinds := [.data], laidTests := true, laidLooks := .later }
def OrderMoreUptoCardSaid : Prop := Claim7.holds Tryd.pinned (.plain (OpenSpec.upto orderMoreSpec)) orderMoreUptoCard
end Rows
end Go.Proofs.YtpimcghmpbbckaaDoor
