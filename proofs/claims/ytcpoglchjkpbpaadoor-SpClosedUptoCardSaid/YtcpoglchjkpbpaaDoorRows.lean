/-
  NARROWER THAN 'FOR EVERY INPUT', by the rows' own cells (each row's printed sentence says how): GreedyAll: laid · GraphBehind: laid · GraphClosed: laid · GreedyBrent: laid · SpCounts: loops, laid · GraphLeast: laid · SpClosed: loops, laid · GreedyIdle: laid.
  DERIVED. THE GIVEN ROWS OF THIS SEAT. 8 by the template 'for every input the law returns true; each argument reads behind the call as it read before'; 0 by the template 'total and deterministic' (their statements: YtcpoglchjkpbpaaDoorTotals.lean).
  GIVEN WITH THE SEED: the statements are not yours to turn. If you find one false, say at which input.
  Laid BY PROGRAM, IN A SANDBOX (cutbox-rows.mjs): the forced cells as the released guide's own fill.sh prints them over the translation 7996d2057e36d999… (all of the seat's roots in one cut). By AI agents, Wed Nov 11 2026. No macro, syntax, notation, axiom, sorry.
-/
import Derived.Test.YtcpoglchjkpbpaaDoorChecked
import GoSem.Claim
import GoSem.ClaimJoined
import GoSem.ClaimMapViews
import Derived.JoinedTies
import Derived.KernelRfl
namespace Go.Proofs.YtcpoglchjkpbpaaDoor
/- THE CELL 'sum', in the pinned program and in every row, IS THE sha256 OF THE DUMP (.gsa) THAT YtcpoglchjkpbpaaDoorProg.lean LOADS. Nothing in Lean hashes anything: it is a label: what it is worth is what the hold of that sum in a sandbox is worth. -/
noncomputable def Tryd.pinned : Pinned := { name := "ytcpoglchjkpbpaadoor", sum := "7996d2057e36d999bfa04373e6f248259c9d0bdf4493a3eb9599ce0c6050f1cc", checked := Tryd.checked }
namespace Rows
def none {H : Type} : Left H := { results := [], args := [] }

/- WHAT THE LISTED PACKAGE-LEVEL VARIABLES READ AS WHEN THE CALL BEGINS. Each datum BY PROGRAM (the guide's laid-datum.mjs) off the statement by which the dump's own 'gosem.cut.vars' lays the variable. In a bare row this is a premise. The card (YtcpoglchjkpbpaaDoorCards.lean) ties it to the program's text. -/
def laid_math_bits_deBruijn64tab {H : Type} : DataW H := .agg [.lit (.int .u8 0), .lit (.int .u8 1), .lit (.int .u8 56), .lit (.int .u8 2), .lit (.int .u8 57), .lit (.int .u8 49), .lit (.int .u8 28), .lit (.int .u8 3), .lit (.int .u8 61), .lit (.int .u8 58), .lit (.int .u8 42), .lit (.int .u8 50), .lit (.int .u8 38), .lit (.int .u8 29), .lit (.int .u8 17), .lit (.int .u8 4), .lit (.int .u8 62), .lit (.int .u8 47), .lit (.int .u8 59), .lit (.int .u8 36), .lit (.int .u8 45), .lit (.int .u8 43), .lit (.int .u8 51), .lit (.int .u8 22), .lit (.int .u8 53), .lit (.int .u8 39), .lit (.int .u8 33), .lit (.int .u8 30), .lit (.int .u8 24), .lit (.int .u8 18), .lit (.int .u8 12), .lit (.int .u8 5), .lit (.int .u8 63), .lit (.int .u8 55), .lit (.int .u8 48), .lit (.int .u8 27), .lit (.int .u8 60), .lit (.int .u8 41), .lit (.int .u8 37), .lit (.int .u8 16), .lit (.int .u8 46), .lit (.int .u8 35), .lit (.int .u8 44), .lit (.int .u8 21), .lit (.int .u8 52), .lit (.int .u8 32), .lit (.int .u8 23), .lit (.int .u8 11), .lit (.int .u8 54), .lit (.int .u8 26), .lit (.int .u8 40), .lit (.int .u8 15), .lit (.int .u8 34), .lit (.int .u8 20), .lit (.int .u8 31), .lit (.int .u8 10), .lit (.int .u8 25), .lit (.int .u8 14), .lit (.int .u8 19), .lit (.int .u8 9), .lit (.int .u8 13), .lit (.int .u8 8), .lit (.int .u8 7), .lit (.int .u8 6)]

/-- 'forkwrightkeep.GreedyAll': WHATEVER THE INPUT: true; the input reads as it did. -/
def greedyAllSpec : ChangeSpec := { name := "greedyAll", fn := fun _ => fun
  | [d1, d2] => { results := [.lit (.bool true)], args := [d1, d2] }
  | _ => none }
def greedyAllRow : OpenClaim := { program := "ytcpoglchjkpbpaadoor", sum := "7996d2057e36d999bfa04373e6f248259c9d0bdf4493a3eb9599ce0c6050f1cc", func := "forkwright/forkwrightkeep.GreedyAll", spec := "greedyAll", unfollowed := true, recurses := true, named := ["math/bits.deBruijn64tab"], apart := false, laid := [("math/bits.deBruijn64tab", laid_math_bits_deBruijn64tab)] }
def GreedyAllSaid : Prop := greedyAllRow.holds Tryd.pinned (OpenSpec.ofChange greedyAllSpec)

/-- ITS FALSE NEIGHBOUR: 'it returns false'. Refute it at one input. -/
def greedyAllWrong : ChangeSpec := { name := "greedyAll", fn := fun _ => fun
  | [d1, d2] => { results := [.lit (.bool false)], args := [d1, d2] }
  | _ => none }
def GreedyAllWrongFalsely : Prop := greedyAllRow.holds Tryd.pinned (OpenSpec.ofChange greedyAllWrong)

/-- 'forkwrightkeep.GraphBehind': WHATEVER THE INPUT: true; the input reads as it did. -/
def graphBehindSpec : ChangeSpec := { name := "graphBehind", fn := fun _ => fun
  | [d1, d2, d3] => { results := [.lit (.bool true)], args := [d1, d2, d3] }
  | _ => none }
def graphBehindRow : OpenClaim := { program := "ytcpoglchjkpbpaadoor", sum := "7996d2057e36d999bfa04373e6f248259c9d0bdf4493a3eb9599ce0c6050f1cc", func := "forkwright/forkwrightkeep.GraphBehind", spec := "graphBehind", unfollowed := true, recurses := true, named := ["math/bits.deBruijn64tab"], apart := false, laid := [("math/bits.deBruijn64tab", laid_math_bits_deBruijn64tab)] }
def GraphBehindSaid : Prop := graphBehindRow.holds Tryd.pinned (OpenSpec.ofChange graphBehindSpec)

/-- ITS FALSE NEIGHBOUR: 'it returns false'. Refute it at one input. -/
def graphBehindWrong : ChangeSpec := { name := "graphBehind", fn := fun _ => fun
  | [d1, d2, d3] => { results := [.lit (.bool false)], args := [d1, d2, d3] }
  | _ => none }
def GraphBehindWrongFalsely : Prop := graphBehindRow.holds Tryd.pinned (OpenSpec.ofChange graphBehindWrong)

/-- 'forkwrightkeep.GraphClosed': WHATEVER THE INPUT: true; the input reads as it did. -/
def graphClosedSpec : ChangeSpec := { name := "graphClosed", fn := fun _ => fun
  | [d] => { results := [.lit (.bool true)], args := [d] }
  | _ => none }
def graphClosedRow : OpenClaim := { program := "ytcpoglchjkpbpaadoor", sum := "7996d2057e36d999bfa04373e6f248259c9d0bdf4493a3eb9599ce0c6050f1cc", func := "forkwright/forkwrightkeep.GraphClosed", spec := "graphClosed", unfollowed := true, recurses := true, named := ["math/bits.deBruijn64tab"], apart := false, laid := [("math/bits.deBruijn64tab", laid_math_bits_deBruijn64tab)] }
def GraphClosedSaid : Prop := graphClosedRow.holds Tryd.pinned (OpenSpec.ofChange graphClosedSpec)

/-- ITS FALSE NEIGHBOUR: 'it returns false'. Refute it at one input. -/
def graphClosedWrong : ChangeSpec := { name := "graphClosed", fn := fun _ => fun
  | [d] => { results := [.lit (.bool false)], args := [d] }
  | _ => none }
def GraphClosedWrongFalsely : Prop := graphClosedRow.holds Tryd.pinned (OpenSpec.ofChange graphClosedWrong)

/-- 'forkwrightkeep.GreedyBrent': WHATEVER THE INPUT: true; the input reads as it did. -/
def greedyBrentSpec : ChangeSpec := { name := "greedyBrent", fn := fun _ => fun
  | [d1, d2] => { results := [.lit (.bool true)], args := [d1, d2] }
  | _ => none }
def greedyBrentRow : OpenClaim := { program := "ytcpoglchjkpbpaadoor", sum := "7996d2057e36d999bfa04373e6f248259c9d0bdf4493a3eb9599ce0c6050f1cc", func := "forkwright/forkwrightkeep.GreedyBrent", spec := "greedyBrent", unfollowed := true, recurses := true, named := ["math/bits.deBruijn64tab"], apart := false, laid := [("math/bits.deBruijn64tab", laid_math_bits_deBruijn64tab)] }
def GreedyBrentSaid : Prop := greedyBrentRow.holds Tryd.pinned (OpenSpec.ofChange greedyBrentSpec)

/-- ITS FALSE NEIGHBOUR: 'it returns false'. Refute it at one input. -/
def greedyBrentWrong : ChangeSpec := { name := "greedyBrent", fn := fun _ => fun
  | [d1, d2] => { results := [.lit (.bool false)], args := [d1, d2] }
  | _ => none }
def GreedyBrentWrongFalsely : Prop := greedyBrentRow.holds Tryd.pinned (OpenSpec.ofChange greedyBrentWrong)

/-- 'forkwrightkeep.SpCounts': WHATEVER THE INPUT: true; the input reads as it did. -/
def spCountsSpec : ChangeSpec := { name := "spCounts", fn := fun _ => fun
  | [d] => { results := [.lit (.bool true)], args := [d] }
  | _ => none }
def spCountsRow : OpenClaim := { program := "ytcpoglchjkpbpaadoor", sum := "7996d2057e36d999bfa04373e6f248259c9d0bdf4493a3eb9599ce0c6050f1cc", func := "forkwright/forkwrightkeep.SpCounts", spec := "spCounts", unfollowed := true, recurses := true, named := ["math/bits.deBruijn64tab"], loops := true, apart := false, laid := [("math/bits.deBruijn64tab", laid_math_bits_deBruijn64tab)] }
def SpCountsSaid : Prop := spCountsRow.holds Tryd.pinned (OpenSpec.ofChange spCountsSpec)

/-- ITS FALSE NEIGHBOUR: 'it returns false'. Refute it at one input. -/
def spCountsWrong : ChangeSpec := { name := "spCounts", fn := fun _ => fun
  | [d] => { results := [.lit (.bool false)], args := [d] }
  | _ => none }
def SpCountsWrongFalsely : Prop := spCountsRow.holds Tryd.pinned (OpenSpec.ofChange spCountsWrong)

/-- 'forkwrightkeep.GraphLeast': WHATEVER THE INPUT: true; the input reads as it did. -/
def graphLeastSpec : ChangeSpec := { name := "graphLeast", fn := fun _ => fun
  | [d1, d2] => { results := [.lit (.bool true)], args := [d1, d2] }
  | _ => none }
def graphLeastRow : OpenClaim := { program := "ytcpoglchjkpbpaadoor", sum := "7996d2057e36d999bfa04373e6f248259c9d0bdf4493a3eb9599ce0c6050f1cc", func := "forkwright/forkwrightkeep.GraphLeast", spec := "graphLeast", unfollowed := true, recurses := true, named := ["math/bits.deBruijn64tab"], apart := false, laid := [("math/bits.deBruijn64tab", laid_math_bits_deBruijn64tab)] }
def GraphLeastSaid : Prop := graphLeastRow.holds Tryd.pinned (OpenSpec.ofChange graphLeastSpec)

/-- ITS FALSE NEIGHBOUR: 'it returns false'. Refute it at one input. -/
def graphLeastWrong : ChangeSpec := { name := "graphLeast", fn := fun _ => fun
  | [d1, d2] => { results := [.lit (.bool false)], args := [d1, d2] }
  | _ => none }
def GraphLeastWrongFalsely : Prop := graphLeastRow.holds Tryd.pinned (OpenSpec.ofChange graphLeastWrong)

/-- 'forkwrightkeep.SpClosed': WHATEVER THE INPUT: true; the input reads as it did. -/
def spClosedSpec : ChangeSpec := { name := "spClosed", fn := fun _ => fun
  | [d] => { results := [.lit (.bool true)], args := [d] }
  | _ => none }
def spClosedRow : OpenClaim := { program := "ytcpoglchjkpbpaadoor", sum := "7996d2057e36d999bfa04373e6f248259c9d0bdf4493a3eb9599ce0c6050f1cc", func := "forkwright/forkwrightkeep.SpClosed", spec := "spClosed", unfollowed := true, recurses := true, named := ["math/bits.deBruijn64tab"], loops := true, apart := false, laid := [("math/bits.deBruijn64tab", laid_math_bits_deBruijn64tab)] }
def SpClosedSaid : Prop := spClosedRow.holds Tryd.pinned (OpenSpec.ofChange spClosedSpec)

/-- ITS FALSE NEIGHBOUR: 'it returns false'. Refute it at one input. -/
def spClosedWrong : ChangeSpec := { name := "spClosed", fn := fun _ => fun
  | [d] => { results := [.lit (.bool false)], args := [d] }
  | _ => none }
def SpClosedWrongFalsely : Prop := spClosedRow.holds Tryd.pinned (OpenSpec.ofChange spClosedWrong)

/-- 'forkwrightkeep.GreedyIdle': WHATEVER THE INPUT: true; the input reads as it did. -/
def greedyIdleSpec : ChangeSpec := { name := "greedyIdle", fn := fun _ => fun
  | [d1, d2, d3] => { results := [.lit (.bool true)], args := [d1, d2, d3] }
  | _ => none }
def greedyIdleRow : OpenClaim := { program := "ytcpoglchjkpbpaadoor", sum := "7996d2057e36d999bfa04373e6f248259c9d0bdf4493a3eb9599ce0c6050f1cc", func := "forkwright/forkwrightkeep.GreedyIdle", spec := "greedyIdle", unfollowed := true, recurses := true, named := ["math/bits.deBruijn64tab"], apart := false, laid := [("math/bits.deBruijn64tab", laid_math_bits_deBruijn64tab)] }
def GreedyIdleSaid : Prop := greedyIdleRow.holds Tryd.pinned (OpenSpec.ofChange greedyIdleSpec)

/-- ITS FALSE NEIGHBOUR: 'it returns false'. Refute it at one input. -/
def greedyIdleWrong : ChangeSpec := { name := "greedyIdle", fn := fun _ => fun
  | [d1, d2, d3] => { results := [.lit (.bool false)], args := [d1, d2, d3] }
  | _ => none }
def GreedyIdleWrongFalsely : Prop := greedyIdleRow.holds Tryd.pinned (OpenSpec.ofChange greedyIdleWrong)

/- THE SECOND FORM. 'bulk': how many values and letters a reading holds, each counted each time it is reached (what is shared counts as often as it is met; a slice's spare places count too). A statement '..UptoSaid' is the law's where the arguments, and the package variables that the reading takes, are together of bulk at most 1048576: NARROWER than '..Said'. Prove '..Said' where nothing that the law and all that it calls make is longer than what came in: it says more and counts as full. Else prove '..UptoSaid'. A law counts once. -/
mutual
def uptoBulk {H : Type} : DataW H → Nat
  | .lit (.string bytes) => bytes.length + 1
  | .lit _ => 1
  | .nil => 1
  | .ptr d => uptoBulk d + 1
  | .slice elems spare => uptoBulkAll elems + uptoBulkAll spare + 1
  | .agg parts => uptoBulkAll parts + 1
  | .iface _ d => uptoBulk d + 1
  | .map entries => uptoBulkEntries entries + 1
  | .held _ => 1
def uptoBulkAll {H : Type} : List (DataW H) → Nat
  | [] => 0
  | d :: r => uptoBulk d + uptoBulkAll r
def uptoBulkEntries {H : Type} : List (Lit × DataW H) → Nat
  | [] => 0
  | x :: r => uptoBulkEntry x + uptoBulkEntries r
def uptoBulkEntry {H : Type} : Lit × DataW H → Nat
  | (.string bytes, d) => bytes.length + uptoBulk d + 1
  | (_, d) => uptoBulk d + 1
 end
def uptoSmall : (H : Type) → List (DataW H) → Bool := fun _ ds => decide (uptoBulkAll ds ≤ 1048576)
def OpenSpec.upto (s : _root_.Go.ChangeSpec) : _root_.Go.OpenSpec := { _root_.Go.OpenSpec.ofChange s with cond := some uptoSmall }

/-- 'forkwrightkeep.GreedyAll', WHERE WHAT IT READS IS OF BULK AT MOST 1048576: true; the input reads as it did. -/
def greedyAllUptoRow : OpenClaim := { program := "ytcpoglchjkpbpaadoor", sum := "7996d2057e36d999bfa04373e6f248259c9d0bdf4493a3eb9599ce0c6050f1cc", func := "forkwright/forkwrightkeep.GreedyAll", spec := "greedyAll", unfollowed := true, recurses := true, named := ["math/bits.deBruijn64tab"], apart := false, laid := [("math/bits.deBruijn64tab", laid_math_bits_deBruijn64tab)], narrowed := true }
def GreedyAllUptoSaid : Prop := greedyAllUptoRow.holds Tryd.pinned (OpenSpec.upto greedyAllSpec)

/-- 'forkwrightkeep.GraphBehind', WHERE WHAT IT READS IS OF BULK AT MOST 1048576: true; the input reads as it did. -/
def graphBehindUptoRow : OpenClaim := { program := "ytcpoglchjkpbpaadoor", sum := "7996d2057e36d999bfa04373e6f248259c9d0bdf4493a3eb9599ce0c6050f1cc", func := "forkwright/forkwrightkeep.GraphBehind", spec := "graphBehind", unfollowed := true, recurses := true, named := ["math/bits.deBruijn64tab"], apart := false, laid := [("math/bits.deBruijn64tab", laid_math_bits_deBruijn64tab)], narrowed := true }
def GraphBehindUptoSaid : Prop := graphBehindUptoRow.holds Tryd.pinned (OpenSpec.upto graphBehindSpec)

/-- 'forkwrightkeep.GraphClosed', WHERE WHAT IT READS IS OF BULK AT MOST 1048576: true; the input reads as it did. -/
def graphClosedUptoRow : OpenClaim := { program := "ytcpoglchjkpbpaadoor", sum := "7996d2057e36d999bfa04373e6f248259c9d0bdf4493a3eb9599ce0c6050f1cc", func := "forkwright/forkwrightkeep.GraphClosed", spec := "graphClosed", unfollowed := true, recurses := true, named := ["math/bits.deBruijn64tab"], apart := false, laid := [("math/bits.deBruijn64tab", laid_math_bits_deBruijn64tab)], narrowed := true }
def GraphClosedUptoSaid : Prop := graphClosedUptoRow.holds Tryd.pinned (OpenSpec.upto graphClosedSpec)

/-- 'forkwrightkeep.GreedyBrent', WHERE WHAT IT READS IS OF BULK AT MOST 1048576: true; the input reads as it did. -/
def greedyBrentUptoRow : OpenClaim := { program := "ytcpoglchjkpbpaadoor", sum := "7996d2057e36d999bfa04373e6f248259c9d0bdf4493a3eb9599ce0c6050f1cc", func := "forkwright/forkwrightkeep.GreedyBrent", spec := "greedyBrent", unfollowed := true, recurses := true, named := ["math/bits.deBruijn64tab"], apart := false, laid := [("math/bits.deBruijn64tab", laid_math_bits_deBruijn64tab)], narrowed := true }
def GreedyBrentUptoSaid : Prop := greedyBrentUptoRow.holds Tryd.pinned (OpenSpec.upto greedyBrentSpec)

/-- 'forkwrightkeep.SpCounts', WHERE WHAT IT READS IS OF BULK AT MOST 1048576: true; the input reads as it did. -/
def spCountsUptoRow : OpenClaim := { program := "ytcpoglchjkpbpaadoor", sum := "7996d2057e36d999bfa04373e6f248259c9d0bdf4493a3eb9599ce0c6050f1cc", func := "forkwright/forkwrightkeep.SpCounts", spec := "spCounts", unfollowed := true, recurses := true, named := ["math/bits.deBruijn64tab"], loops := true, apart := false, laid := [("math/bits.deBruijn64tab", laid_math_bits_deBruijn64tab)], narrowed := true }
def SpCountsUptoSaid : Prop := spCountsUptoRow.holds Tryd.pinned (OpenSpec.upto spCountsSpec)

/-- 'forkwrightkeep.GraphLeast', WHERE WHAT IT READS IS OF BULK AT MOST 1048576: true; the input reads as it did. -/
def graphLeastUptoRow : OpenClaim := { program := "ytcpoglchjkpbpaadoor", sum := "7996d2057e36d999bfa04373e6f248259c9d0bdf4493a3eb9599ce0c6050f1cc", func := "forkwright/forkwrightkeep.GraphLeast", spec := "graphLeast", unfollowed := true, recurses := true, named := ["math/bits.deBruijn64tab"], apart := false, laid := [("math/bits.deBruijn64tab", laid_math_bits_deBruijn64tab)], narrowed := true }
def GraphLeastUptoSaid : Prop := graphLeastUptoRow.holds Tryd.pinned (OpenSpec.upto graphLeastSpec)

/-- 'forkwrightkeep.SpClosed', WHERE WHAT IT READS IS OF BULK AT MOST 1048576: true; the input reads as it did. -/
def spClosedUptoRow : OpenClaim := { program := "ytcpoglchjkpbpaadoor", sum := "7996d2057e36d999bfa04373e6f248259c9d0bdf4493a3eb9599ce0c6050f1cc", func := "forkwright/forkwrightkeep.SpClosed", spec := "spClosed", unfollowed := true, recurses := true, named := ["math/bits.deBruijn64tab"], loops := true, apart := false, laid := [("math/bits.deBruijn64tab", laid_math_bits_deBruijn64tab)], narrowed := true }
def SpClosedUptoSaid : Prop := spClosedUptoRow.holds Tryd.pinned (OpenSpec.upto spClosedSpec)

/-- 'forkwrightkeep.GreedyIdle', WHERE WHAT IT READS IS OF BULK AT MOST 1048576: true; the input reads as it did. -/
def greedyIdleUptoRow : OpenClaim := { program := "ytcpoglchjkpbpaadoor", sum := "7996d2057e36d999bfa04373e6f248259c9d0bdf4493a3eb9599ce0c6050f1cc", func := "forkwright/forkwrightkeep.GreedyIdle", spec := "greedyIdle", unfollowed := true, recurses := true, named := ["math/bits.deBruijn64tab"], apart := false, laid := [("math/bits.deBruijn64tab", laid_math_bits_deBruijn64tab)], narrowed := true }
def GreedyIdleUptoSaid : Prop := greedyIdleUptoRow.holds Tryd.pinned (OpenSpec.upto greedyIdleSpec)

end Rows
end Go.Proofs.YtcpoglchjkpbpaaDoor
