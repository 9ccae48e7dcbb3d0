/-
  DERIVED. GIVEN WITH THE SEED: THE CARDS: each row of YtfjmhmfkhgjnhaaDoorRows.lean that lists a variable, with what it lists TIED to the program's text (the seventh form; the later family's looks); each row that meets fmt, with fmt's text TOLD by the authors' own Lean function (tested against real Go, not proved from fmt's source: count such statements apart). THE CARD IS WHAT COUNTS. Prove the row's statement (the work); the ties are given (YtfjmhmfkhgjnhaaDoorTie.lean); close each card by the builder's one call (the guide's Derived/Test/ToyasCard.lean, 'card_holds'). Laid BY PROGRAM, IN A SANDBOX (cutbox-door.mjs). By AI agents, Wed Nov 11 2026. No macro, syntax, notation, axiom, sorry.
-/
import Derived.Test.YtfjmhmfkhgjnhaaDoorRows
import GoSem.ClaimSeven
namespace Go.Proofs.YtfjmhmfkhgjnhaaDoor
namespace Rows

/-- THE TIED CARD OF 'forkwrightkeep.OrderMirsky'. -/
def orderMirskyCard : Claim7 := { stood := { row := orderMirskyRow, standIns := [], harness := (true, "ee7a5fdac71834e669c051710b7584af2190138d8d8cdafb18fe014f0f844a6a"), looks := false }, kinds := [], alts := [], laidByText := true, laidKinds := [.data], laidTests := true, laidLooks := .later }
def OrderMirskyCardSaid : Prop := Claim7.holds Tryd.pinned (.plain (OpenSpec.ofChange orderMirskySpec)) orderMirskyCard

/-- THE TIED CARD OF 'forkwrightkeep.OrderFirst'. -/
def orderFirstCard : Claim7 := { stood := { row := orderFirstRow, standIns := [], harness := (true, "ee7a5fdac71834e669c051710b7584af2190138d8d8cdafb18fe014f0f844a6a"), looks := false }, kinds := [], alts := [], laidByText := true, laidKinds := [.data], laidTests := true, laidLooks := .later }
def OrderFirstCardSaid : Prop := Claim7.holds Tryd.pinned (.plain (OpenSpec.ofChange orderFirstSpec)) orderFirstCard

/-- THE TIED CARD OF 'forkwrightkeep.SpanHeight'. -/
def spanHeightCard : Claim7 := { stood := { row := spanHeightRow, standIns := [], harness := (true, "ee7a5fdac71834e669c051710b7584af2190138d8d8cdafb18fe014f0f844a6a"), looks := false }, kinds := [], alts := [], laidByText := true, laidKinds := [.data], laidTests := true, laidLooks := .later }
def SpanHeightCardSaid : Prop := Claim7.holds Tryd.pinned (.plain (OpenSpec.ofChange spanHeightSpec)) spanHeightCard

/-- THE TIED CARD OF 'forkwrightkeep.GreedyAlone'. -/
def greedyAloneCard : Claim7 := { stood := { row := greedyAloneRow, standIns := [], harness := (true, "ee7a5fdac71834e669c051710b7584af2190138d8d8cdafb18fe014f0f844a6a"), looks := false }, kinds := [], alts := [], laidByText := true, laidKinds := [.data], laidTests := true, laidLooks := .later }
def GreedyAloneCardSaid : Prop := Claim7.holds Tryd.pinned (.plain (OpenSpec.ofChange greedyAloneSpec)) greedyAloneCard

/-- THE TIED CARD OF 'forkwrightkeep.OrderMore'. -/
def orderMoreCard : Claim7 := { stood := { row := orderMoreRow, standIns := [], harness := (true, "ee7a5fdac71834e669c051710b7584af2190138d8d8cdafb18fe014f0f844a6a"), looks := false }, kinds := [], alts := [], laidByText := true, laidKinds := [.data], laidTests := true, laidLooks := .later }
def OrderMoreCardSaid : Prop := Claim7.holds Tryd.pinned (.plain (OpenSpec.ofChange orderMoreSpec)) orderMoreCard

/-- THE TIED CARD OF 'forkwrightkeep.OrderDilworth'. -/
def orderDilworthCard : Claim7 := { stood := { row := orderDilworthRow, standIns := [], harness := (true, "ee7a5fdac71834e669c051710b7584af2190138d8d8cdafb18fe014f0f844a6a"), looks := false }, kinds := [], alts := [], laidByText := true, laidKinds := [.data], laidTests := true, laidLooks := .later }
def OrderDilworthCardSaid : Prop := Claim7.holds Tryd.pinned (.plain (OpenSpec.ofChange orderDilworthSpec)) orderDilworthCard

/-- THE SECOND FORM's CARD OF 'forkwrightkeep.OrderMirsky'. -/
def orderMirskyUptoCard : Claim7 := { stood := { row := orderMirskyUptoRow, standIns := [], harness := (true, "ee7a5fdac71834e669c051710b7584af2190138d8d8cdafb18fe014f0f844a6a"), looks := false }, kinds := [], alts := [], laidByText := true, laidKinds := [.data], laidTests := true, laidLooks := .later }
def OrderMirskyUptoCardSaid : Prop := Claim7.holds Tryd.pinned (.plain (OpenSpec.upto orderMirskySpec)) orderMirskyUptoCard

/-- THE SECOND FORM's CARD OF 'forkwrightkeep.OrderFirst'. -/
def orderFirstUptoCard : Claim7 := { stood := { row := orderFirstUptoRow, standIns := [], harness := (true, "ee7a5fdac71834e669c051710b7584af2190138d8d8cdafb18fe014f0f844a6a"), looks := false }, kinds := [], alts := [], laidByText := true, laidKinds := [.data], laidTests := true, laidLooks := .later }
def OrderFirstUptoCardSaid : Prop := Claim7.holds Tryd.pinned (.plain (OpenSpec.upto orderFirstSpec)) orderFirstUptoCard

/-- THE SECOND FORM's CARD OF 'forkwrightkeep.SpanHeight'. -/
def spanHeightUptoCard : Claim7 := { stood := { row := spanHeightUptoRow, standIns := [], harness := (true, "ee7a5fdac71834e669c051710b7584af2190138d8d8cdafb18fe014f0f844a6a"), looks := false }, kinds := [], alts := [], laidByText := true, laidKinds := [.data], laidTests := true, laidLooks := .later }
def SpanHeightUptoCardSaid : Prop := Claim7.holds Tryd.pinned (.plain (OpenSpec.upto spanHeightSpec)) spanHeightUptoCard

/-- THE SECOND FORM's CARD OF 'forkwrightkeep.GreedyAlone'. -/
def greedyAloneUptoCard : Claim7 := { stood := { row := greedyAloneUptoRow, standIns := [], harness := (true, "ee7a5fdac71834e669c051710b7584af2190138d8d8cdafb18fe014f0f844a6a"), looks := false }, kinds := [], alts := [], laidByText := true, laidKinds := [.data], laidTests := true, laidLooks := .later }
def GreedyAloneUptoCardSaid : Prop := Claim7.holds Tryd.pinned (.plain (OpenSpec.upto greedyAloneSpec)) greedyAloneUptoCard

/-- THE SECOND FORM's CARD OF 'forkwrightkeep.OrderMore'. -/
def orderMoreUptoCard : Claim7 := { stood := { row := orderMoreUptoRow, standIns := [], harness := (true, "ee7a5fdac71834e669c051710b7584af2190138d8d8cdafb18fe014f0f844a6a"), looks := false }, kinds := [], alts := [], laidByText := true, laidKinds := [.data], laidTests := true, laidLooks := .later }
def OrderMoreUptoCardSaid : Prop := Claim7.holds Tryd.pinned (.plain (OpenSpec.upto orderMoreSpec)) orderMoreUptoCard

/-- THE SECOND FORM's CARD OF 'forkwrightkeep.OrderDilworth'. -/
def orderDilworthUptoCard : Claim7 := { stood := { row := orderDilworthUptoRow, standIns := [], harness := (true, "ee7a5fdac71834e669c051710b7584af2190138d8d8cdafb18fe014f0f844a6a"), looks := false }, kinds := [], alts := [], laidByText := true, laidKinds := [.data], laidTests := true, laidLooks := .later }
def OrderDilworthUptoCardSaid : Prop := Claim7.holds Tryd.pinned (.plain (OpenSpec.upto orderDilworthSpec)) orderDilworthUptoCard
end Rows
end Go.Proofs.YtfjmhmfkhgjnhaaDoor
