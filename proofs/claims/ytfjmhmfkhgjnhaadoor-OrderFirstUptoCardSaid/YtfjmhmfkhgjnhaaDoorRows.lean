/-
  NARROWER THAN 'FOR EVERY INPUT', by the rows' own cells (each row's printed sentence says how): OrderMirsky: laid · OrderFirst: laid · SpanHeight: loops, laid · GreedyAlone: laid · OrderMore: laid · OrderDilworth: laid.
  DERIVED. THE GIVEN ROWS OF THIS SEAT. 6 by the template 'for every input the law returns true; each argument reads behind the call as it read before'; 0 by the template 'total and deterministic' (their statements: YtfjmhmfkhgjnhaaDoorTotals.lean).
  GIVEN WITH THE SEED: the statements are not yours to turn. If you find one false, say at which input.
  Laid BY PROGRAM, IN A SANDBOX (cutbox-rows.mjs): the forced cells as the released guide's own fill.sh prints them over the translation b5f6e96700bfb603… (all of the seat's roots in one cut). By AI agents, Wed Nov 11 2026. No macro, syntax, notation, axiom, sorry.
-/
import Derived.Test.YtfjmhmfkhgjnhaaDoorChecked
import GoSem.Claim
import GoSem.ClaimJoined
import GoSem.ClaimMapViews
import Derived.JoinedTies
import Derived.KernelRfl
namespace Go.Proofs.YtfjmhmfkhgjnhaaDoor
/- THE CELL 'sum', in the pinned program and in every row, IS THE sha256 OF THE DUMP (.gsa) THAT YtfjmhmfkhgjnhaaDoorProg.lean LOADS. Nothing in Lean hashes anything: it is a label: what it is worth is what the hold of that sum in a sandbox is worth. -/
noncomputable def Tryd.pinned : Pinned := { name := "ytfjmhmfkhgjnhaadoor", sum := "b5f6e96700bfb603a3c5ddb9da214c07d68cf53cd35592c592bb885013f144f8", checked := Tryd.checked }
namespace Rows
def none {H : Type} : Left H := { results := [], args := [] }

/- WHAT THE LISTED PACKAGE-LEVEL VARIABLES READ AS WHEN THE CALL BEGINS. Each datum BY PROGRAM (the guide's laid-datum.mjs) off the statement by which the dump's own 'gosem.cut.vars' lays the variable. In a bare row this is a premise. The card (YtfjmhmfkhgjnhaaDoorCards.lean) ties it to the program's text. -/
def laid_math_bits_deBruijn64tab {H : Type} : DataW H := .agg [.lit (.int .u8 0), .lit (.int .u8 1), .lit (.int .u8 56), .lit (.int .u8 2), .lit (.int .u8 57), .lit (.int .u8 49), .lit (.int .u8 28), .lit (.int .u8 3), .lit (.int .u8 61), .lit (.int .u8 58), .lit (.int .u8 42), .lit (.int .u8 50), .lit (.int .u8 38), .lit (.int .u8 29), .lit (.int .u8 17), .lit (.int .u8 4), .lit (.int .u8 62), .lit (.int .u8 47), .lit (.int .u8 59), .lit (.int .u8 36), .lit (.int .u8 45), .lit (.int .u8 43), .lit (.int .u8 51), .lit (.int .u8 22), .lit (.int .u8 53), .lit (.int .u8 39), .lit (.int .u8 33), .lit (.int .u8 30), .lit (.int .u8 24), .lit (.int .u8 18), .lit (.int .u8 12), .lit (.int .u8 5), .lit (.int .u8 63), .lit (.int .u8 55), .lit (.int .u8 48), .lit (.int .u8 27), .lit (.int .u8 60), .lit (.int .u8 41), .lit (.int .u8 37), .lit (.int .u8 16), .lit (.int .u8 46), .lit (.int .u8 35), .lit (.int .u8 44), .lit (.int .u8 21), .lit (.int .u8 52), .lit (.int .u8 32), .lit (.int .u8 23), .lit (.int .u8 11), .lit (.int .u8 54), .lit (.int .u8 26), .lit (.int .u8 40), .lit (.int .u8 15), .lit (.int .u8 34), .lit (.int .u8 20), .lit (.int .u8 31), .lit (.int .u8 10), .lit (.int .u8 25), .lit (.int .u8 14), .lit (.int .u8 19), .lit (.int .u8 9), .lit (.int .u8 13), .lit (.int .u8 8), .lit (.int .u8 7), .lit (.int .u8 6)]

/-- 'forkwrightkeep.OrderMirsky': WHATEVER THE INPUT: true; the input reads as it did. -/
def orderMirskySpec : ChangeSpec := { name := "orderMirsky", fn := fun _ => fun
  | [d] => { results := [.lit (.bool true)], args := [d] }
  | _ => none }
def orderMirskyRow : OpenClaim := { program := "ytfjmhmfkhgjnhaadoor", sum := "b5f6e96700bfb603a3c5ddb9da214c07d68cf53cd35592c592bb885013f144f8", func := "forkwright/forkwrightkeep.OrderMirsky", spec := "orderMirsky", unfollowed := true, recurses := true, named := ["math/bits.deBruijn64tab"], apart := false, laid := [("math/bits.deBruijn64tab", laid_math_bits_deBruijn64tab)] }
def OrderMirskySaid : Prop := orderMirskyRow.holds Tryd.pinned (OpenSpec.ofChange orderMirskySpec)

/-- ITS FALSE NEIGHBOUR: 'it returns false'. Refute it at one input. -/
def orderMirskyWrong : ChangeSpec := { name := "orderMirsky", fn := fun _ => fun
  | [d] => { results := [.lit (.bool false)], args := [d] }
  | _ => none }
def OrderMirskyWrongFalsely : Prop := orderMirskyRow.holds Tryd.pinned (OpenSpec.ofChange orderMirskyWrong)

/-- 'forkwrightkeep.OrderFirst': WHATEVER THE INPUT: true; the input reads as it did. -/
def orderFirstSpec : ChangeSpec := { name := "orderFirst", fn := fun _ => fun
  | [d] => { results := [.lit (.bool true)], args := [d] }
  | _ => none }
def orderFirstRow : OpenClaim := { program := "ytfjmhmfkhgjnhaadoor", sum := "b5f6e96700bfb603a3c5ddb9da214c07d68cf53cd35592c592bb885013f144f8", func := "forkwright/forkwrightkeep.OrderFirst", spec := "orderFirst", unfollowed := true, recurses := true, named := ["math/bits.deBruijn64tab"], apart := false, laid := [("math/bits.deBruijn64tab", laid_math_bits_deBruijn64tab)] }
def OrderFirstSaid : Prop := orderFirstRow.holds Tryd.pinned (OpenSpec.ofChange orderFirstSpec)

/-- ITS FALSE NEIGHBOUR: 'it returns false'. Refute it at one input. -/
def orderFirstWrong : ChangeSpec := { name := "orderFirst", fn := fun _ => fun
  | [d] => { results := [.lit (.bool false)], args := [d] }
  | _ => none }
def OrderFirstWrongFalsely : Prop := orderFirstRow.holds Tryd.pinned (OpenSpec.ofChange orderFirstWrong)

/-- 'forkwrightkeep.SpanHeight': WHATEVER THE INPUT: true; the input reads as it did. -/
def spanHeightSpec : ChangeSpec := { name := "spanHeight", fn := fun _ => fun
  | [d] => { results := [.lit (.bool true)], args := [d] }
  | _ => none }
def spanHeightRow : OpenClaim := { program := "ytfjmhmfkhgjnhaadoor", sum := "b5f6e96700bfb603a3c5ddb9da214c07d68cf53cd35592c592bb885013f144f8", func := "forkwright/forkwrightkeep.SpanHeight", spec := "spanHeight", unfollowed := true, recurses := true, named := ["math/bits.deBruijn64tab"], loops := true, apart := false, laid := [("math/bits.deBruijn64tab", laid_math_bits_deBruijn64tab)] }
def SpanHeightSaid : Prop := spanHeightRow.holds Tryd.pinned (OpenSpec.ofChange spanHeightSpec)

/-- ITS FALSE NEIGHBOUR: 'it returns false'. Refute it at one input. -/
def spanHeightWrong : ChangeSpec := { name := "spanHeight", fn := fun _ => fun
  | [d] => { results := [.lit (.bool false)], args := [d] }
  | _ => none }
def SpanHeightWrongFalsely : Prop := spanHeightRow.holds Tryd.pinned (OpenSpec.ofChange spanHeightWrong)

/-- 'forkwrightkeep.GreedyAlone': WHATEVER THE INPUT: true; the input reads as it did. -/
def greedyAloneSpec : ChangeSpec := { name := "greedyAlone", fn := fun _ => fun
  | [d] => { results := [.lit (.bool true)], args := [d] }
  | _ => none }
def greedyAloneRow : OpenClaim := { program := "ytfjmhmfkhgjnhaadoor", sum := "b5f6e96700bfb603a3c5ddb9da214c07d68cf53cd35592c592bb885013f144f8", func := "forkwright/forkwrightkeep.GreedyAlone", spec := "greedyAlone", unfollowed := true, recurses := true, named := ["math/bits.deBruijn64tab"], apart := false, laid := [("math/bits.deBruijn64tab", laid_math_bits_deBruijn64tab)] }
def GreedyAloneSaid : Prop := greedyAloneRow.holds Tryd.pinned (OpenSpec.ofChange greedyAloneSpec)

/-- ITS FALSE NEIGHBOUR: 'it returns false'. Refute it at one input. -/
def greedyAloneWrong : ChangeSpec := { name := "greedyAlone", fn := fun _ => fun
  | [d] => { results := [.lit (.bool false)], args := [d] }
  | _ => none }
def GreedyAloneWrongFalsely : Prop := greedyAloneRow.holds Tryd.pinned (OpenSpec.ofChange greedyAloneWrong)

/-- 'forkwrightkeep.OrderMore': WHATEVER THE INPUT: true; the input reads as it did. -/
def orderMoreSpec : ChangeSpec := { name := "orderMore", fn := fun _ => fun
  | [d1, d2] => { results := [.lit (.bool true)], args := [d1, d2] }
  | _ => none }
def orderMoreRow : OpenClaim := { program := "ytfjmhmfkhgjnhaadoor", sum := "b5f6e96700bfb603a3c5ddb9da214c07d68cf53cd35592c592bb885013f144f8", func := "forkwright/forkwrightkeep.OrderMore", spec := "orderMore", unfollowed := true, recurses := true, named := ["math/bits.deBruijn64tab"], apart := false, laid := [("math/bits.deBruijn64tab", laid_math_bits_deBruijn64tab)] }
def OrderMoreSaid : Prop := orderMoreRow.holds Tryd.pinned (OpenSpec.ofChange orderMoreSpec)

/-- ITS FALSE NEIGHBOUR: 'it returns false'. Refute it at one input. -/
def orderMoreWrong : ChangeSpec := { name := "orderMore", fn := fun _ => fun
  | [d1, d2] => { results := [.lit (.bool false)], args := [d1, d2] }
  | _ => none }
def OrderMoreWrongFalsely : Prop := orderMoreRow.holds Tryd.pinned (OpenSpec.ofChange orderMoreWrong)

/-- 'forkwrightkeep.OrderDilworth': WHATEVER THE INPUT: true; the input reads as it did. -/
def orderDilworthSpec : ChangeSpec := { name := "orderDilworth", fn := fun _ => fun
  | [d] => { results := [.lit (.bool true)], args := [d] }
  | _ => none }
def orderDilworthRow : OpenClaim := { program := "ytfjmhmfkhgjnhaadoor", sum := "b5f6e96700bfb603a3c5ddb9da214c07d68cf53cd35592c592bb885013f144f8", func := "forkwright/forkwrightkeep.OrderDilworth", spec := "orderDilworth", unfollowed := true, recurses := true, named := ["math/bits.deBruijn64tab"], apart := false, laid := [("math/bits.deBruijn64tab", laid_math_bits_deBruijn64tab)] }
def OrderDilworthSaid : Prop := orderDilworthRow.holds Tryd.pinned (OpenSpec.ofChange orderDilworthSpec)

/-- ITS FALSE NEIGHBOUR: 'it returns false'. Refute it at one input. -/
def orderDilworthWrong : ChangeSpec := { name := "orderDilworth", fn := fun _ => fun
  | [d] => { results := [.lit (.bool false)], args := [d] }
  | _ => none }
def OrderDilworthWrongFalsely : Prop := orderDilworthRow.holds Tryd.pinned (OpenSpec.ofChange orderDilworthWrong)

/- THE SECOND FORM. 'bulk': how many values and letters a reading holds, each counted each time it is reached (what is shared counts as often as it is met; a slice's spare places count too). A statement '..UptoSaid' is the law's where the arguments, and the package variables that the reading takes, are together of bulk at most 1048576: NARROWER than '..Said'. Prove '..Said' where nothing that the law and all that it calls make is longer than what came in: it says more and counts as full. Else prove '..UptoSaid'. A law counts once. -/
mutual
def uptoBulk {H : Type} : DataW H → Nat
  | .lit (.string bytes) => bytes.length + 1
  | .lit _ => 1
  | .nil => 1
  | .ptr d => uptoBulk d + 1
  | .slice elems spare => uptoBulkAll elems + uptoBulkAll spare + 1
  | .agg parts => uptoBulkAll parts + 1
  | .iface _ d => uptoBulk d + 1
  | .map entries => uptoBulkEntries entries + 1
  | .held _ => 1
def uptoBulkAll {H : Type} : List (DataW H) → Nat
  | [] => 0
  | d :: r => uptoBulk d + uptoBulkAll r
def uptoBulkEntries {H : Type} : List (Lit × DataW H) → Nat
  | [] => 0
  | x :: r => uptoBulkEntry x + uptoBulkEntries r
def uptoBulkEntry {H : Type} : Lit × DataW H → Nat
  | (.string bytes, d) => bytes.length + uptoBulk d + 1
  | (_, d) => uptoBulk d + 1
 end
def uptoSmall : (H : Type) → List (DataW H) → Bool := fun _ ds => decide (uptoBulkAll ds ≤ 1048576)
def OpenSpec.upto (s : _root_.Go.ChangeSpec) : _root_.Go.OpenSpec := { _root_.Go.OpenSpec.ofChange s with cond := some uptoSmall }

/-- 'forkwrightkeep.OrderMirsky', WHERE WHAT IT READS IS OF BULK AT MOST 1048576: true; the input reads as it did. -/
def orderMirskyUptoRow : OpenClaim := { program := "ytfjmhmfkhgjnhaadoor", sum := "b5f6e96700bfb603a3c5ddb9da214c07d68cf53cd35592c592bb885013f144f8", func := "forkwright/forkwrightkeep.OrderMirsky", spec := "orderMirsky", unfollowed := true, recurses := true, named := ["math/bits.deBruijn64tab"], apart := false, laid := [("math/bits.deBruijn64tab", laid_math_bits_deBruijn64tab)], narrowed := true }
def OrderMirskyUptoSaid : Prop := orderMirskyUptoRow.holds Tryd.pinned (OpenSpec.upto orderMirskySpec)

/-- 'forkwrightkeep.OrderFirst', WHERE WHAT IT READS IS OF BULK AT MOST 1048576: true; the input reads as it did. -/
def orderFirstUptoRow : OpenClaim := { program := "ytfjmhmfkhgjnhaadoor", sum := "b5f6e96700bfb603a3c5ddb9da214c07d68cf53cd35592c592bb885013f144f8", func := "forkwright/forkwrightkeep.OrderFirst", spec := "orderFirst", unfollowed := true, recurses := true, named := ["math/bits.deBruijn64tab"], apart := false, laid := [("math/bits.deBruijn64tab", laid_math_bits_deBruijn64tab)], narrowed := true }
def OrderFirstUptoSaid : Prop := orderFirstUptoRow.holds Tryd.pinned (OpenSpec.upto orderFirstSpec)

/-- 'forkwrightkeep.SpanHeight', WHERE WHAT IT READS IS OF BULK AT MOST 1048576: true; the input reads as it did. -/
def spanHeightUptoRow : OpenClaim := { program := "ytfjmhmfkhgjnhaadoor", sum := "b5f6e96700bfb603a3c5ddb9da214c07d68cf53cd35592c592bb885013f144f8", func := "forkwright/forkwrightkeep.SpanHeight", spec := "spanHeight", unfollowed := true, recurses := true, named := ["math/bits.deBruijn64tab"], loops := true, apart := false, laid := [("math/bits.deBruijn64tab", laid_math_bits_deBruijn64tab)], narrowed := true }
def SpanHeightUptoSaid : Prop := spanHeightUptoRow.holds Tryd.pinned (OpenSpec.upto spanHeightSpec)

/-- 'forkwrightkeep.GreedyAlone', WHERE WHAT IT READS IS OF BULK AT MOST 1048576: true; the input reads as it did. -/
def greedyAloneUptoRow : OpenClaim := { program := "ytfjmhmfkhgjnhaadoor", sum := "b5f6e96700bfb603a3c5ddb9da214c07d68cf53cd35592c592bb885013f144f8", func := "forkwright/forkwrightkeep.GreedyAlone", spec := "greedyAlone", unfollowed := true, recurses := true, named := ["math/bits.deBruijn64tab"], apart := false, laid := [("math/bits.deBruijn64tab", laid_math_bits_deBruijn64tab)], narrowed := true }
def GreedyAloneUptoSaid : Prop := greedyAloneUptoRow.holds Tryd.pinned (OpenSpec.upto greedyAloneSpec)

/-- 'forkwrightkeep.OrderMore', WHERE WHAT IT READS IS OF BULK AT MOST 1048576: true; the input reads as it did. -/
def orderMoreUptoRow : OpenClaim := { program := "ytfjmhmfkhgjnhaadoor", sum := "b5f6e96700bfb603a3c5ddb9da214c07d68cf53cd35592c592bb885013f144f8", func := "forkwright/forkwrightkeep.OrderMore", spec := "orderMore", unfollowed := true, recurses := true, named := ["math/bits.deBruijn64tab"], apart := false, laid := [("math/bits.deBruijn64tab", laid_math_bits_deBruijn64tab)], narrowed := true }
def OrderMoreUptoSaid : Prop := orderMoreUptoRow.holds Tryd.pinned (OpenSpec.upto orderMoreSpec)

/-- 'forkwrightkeep.OrderDilworth', WHERE WHAT IT READS IS OF BULK AT MOST 1048576: true; the input reads as it did. -/
def orderDilworthUptoRow : OpenClaim := { program := "ytfjmhmfkhgjnhaadoor", sum := "b5f6e96700bfb603a3c5ddb9da214c07d68cf53cd35592c592bb885013f144f8", func := "forkwright/forkwrightkeep.OrderDilworth", spec := "orderDilworth", unfollowed := true, recurses := true, named := ["math/bits.deBruijn64tab"], apart := false, laid := [("math/bits.deBruijn64tab", laid_math_bits_deBruijn64tab)], narrowed := true }
def OrderDilworthUptoSaid : Prop := orderDilworthUptoRow.holds Tryd.pinned (OpenSpec.upto orderDilworthSpec)

end Rows
end Go.Proofs.YtfjmhmfkhgjnhaaDoor
