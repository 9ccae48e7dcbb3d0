/-
  NARROWER THAN 'FOR EVERY INPUT', by the rows' own cells (each row's printed sentence says how): BitsetAlgebra: laid · BitsetCount: laid · BitsetBack: laid · MhpNone: loops, laid · SerialRename: loops, laid · UnfoldSame: loops, laid · MhpSound: loops, laid · MhpJust: loops, laid · GraphRound: laid · GraphClosed: laid · OrderFirst: laid.
  DERIVED. THE GIVEN ROWS OF THIS SEAT. 11 by the template 'for every input the law returns true; each argument reads behind the call as it read before'; 0 by the template 'total and deterministic' (their statements: YtkjmddgnfgbioaaDoorTotals.lean).
  GIVEN WITH THE SEED: the statements are not yours to turn. If you find one false, say at which input.
  Laid BY PROGRAM, IN A SANDBOX (cutbox-rows.mjs): the forced cells as the released guide's own fill.sh prints them over the translation 602392d690b5313e… (all of the seat's roots in one cut). By AI agents, Wed Nov 11 2026. No macro, syntax, notation, axiom, sorry.
-/
import Derived.Test.YtkjmddgnfgbioaaDoorChecked
import GoSem.Claim
import GoSem.ClaimJoined
import GoSem.ClaimMapViews
import Derived.JoinedTies
import Derived.KernelRfl
namespace Go.Proofs.YtkjmddgnfgbioaaDoor
/- THE CELL 'sum', in the pinned program and in every row, IS THE sha256 OF THE DUMP (.gsa) THAT YtkjmddgnfgbioaaDoorProg.lean LOADS. Nothing in Lean hashes anything: it is a label: what it is worth is what the hold of that sum in a sandbox is worth. -/
noncomputable def Tryd.pinned : Pinned := { name := "ytkjmddgnfgbioaadoor", sum := "602392d690b5313e3484727a17c2848ccca0ccad88bb16993adc1abfd9c19fae", checked := Tryd.checked }
namespace Rows
def none {H : Type} : Left H := { results := [], args := [] }

/- WHAT THE LISTED PACKAGE-LEVEL VARIABLES READ AS WHEN THE CALL BEGINS. Each datum BY PROGRAM (the guide's laid-datum.mjs) off the statement by which the dump's own 'gosem.cut.vars' lays the variable. In a bare row this is a premise. The card (YtkjmddgnfgbioaaDoorCards.lean) ties it to the program's text. -/
def laid_math_bits_deBruijn64tab {H : Type} : DataW H := .agg [.lit (.int .u8 0), .lit (.int .u8 1), .lit (.int .u8 56), .lit (.int .u8 2), .lit (.int .u8 57), .lit (.int .u8 49), .lit (.int .u8 28), .lit (.int .u8 3), .lit (.int .u8 61), .lit (.int .u8 58), .lit (.int .u8 42), .lit (.int .u8 50), .lit (.int .u8 38), .lit (.int .u8 29), .lit (.int .u8 17), .lit (.int .u8 4), .lit (.int .u8 62), .lit (.int .u8 47), .lit (.int .u8 59), .lit (.int .u8 36), .lit (.int .u8 45), .lit (.int .u8 43), .lit (.int .u8 51), .lit (.int .u8 22), .lit (.int .u8 53), .lit (.int .u8 39), .lit (.int .u8 33), .lit (.int .u8 30), .lit (.int .u8 24), .lit (.int .u8 18), .lit (.int .u8 12), .lit (.int .u8 5), .lit (.int .u8 63), .lit (.int .u8 55), .lit (.int .u8 48), .lit (.int .u8 27), .lit (.int .u8 60), .lit (.int .u8 41), .lit (.int .u8 37), .lit (.int .u8 16), .lit (.int .u8 46), .lit (.int .u8 35), .lit (.int .u8 44), .lit (.int .u8 21), .lit (.int .u8 52), .lit (.int .u8 32), .lit (.int .u8 23), .lit (.int .u8 11), .lit (.int .u8 54), .lit (.int .u8 26), .lit (.int .u8 40), .lit (.int .u8 15), .lit (.int .u8 34), .lit (.int .u8 20), .lit (.int .u8 31), .lit (.int .u8 10), .lit (.int .u8 25), .lit (.int .u8 14), .lit (.int .u8 19), .lit (.int .u8 9), .lit (.int .u8 13), .lit (.int .u8 8), .lit (.int .u8 7), .lit (.int .u8 6)]
def laid_math_bits_deBruijn32tab {H : Type} : DataW H := .agg [.lit (.int .u8 0), .lit (.int .u8 1), .lit (.int .u8 28), .lit (.int .u8 2), .lit (.int .u8 29), .lit (.int .u8 14), .lit (.int .u8 24), .lit (.int .u8 3), .lit (.int .u8 30), .lit (.int .u8 22), .lit (.int .u8 20), .lit (.int .u8 15), .lit (.int .u8 25), .lit (.int .u8 17), .lit (.int .u8 4), .lit (.int .u8 8), .lit (.int .u8 31), .lit (.int .u8 27), .lit (.int .u8 13), .lit (.int .u8 23), .lit (.int .u8 21), .lit (.int .u8 19), .lit (.int .u8 16), .lit (.int .u8 7), .lit (.int .u8 26), .lit (.int .u8 12), .lit (.int .u8 18), .lit (.int .u8 6), .lit (.int .u8 11), .lit (.int .u8 5), .lit (.int .u8 10), .lit (.int .u8 9)]
def laid_internal_strconv_uint64pow10 {H : Type} : DataW H := .agg [.lit (.int .u64 1), .lit (.int .u64 10), .lit (.int .u64 100), .lit (.int .u64 1000), .lit (.int .u64 10000), .lit (.int .u64 100000), .lit (.int .u64 1000000), .lit (.int .u64 10000000), .lit (.int .u64 100000000), .lit (.int .u64 1000000000), .lit (.int .u64 10000000000), .lit (.int .u64 100000000000), .lit (.int .u64 1000000000000), .lit (.int .u64 10000000000000), .lit (.int .u64 100000000000000), .lit (.int .u64 1000000000000000), .lit (.int .u64 10000000000000000), .lit (.int .u64 100000000000000000), .lit (.int .u64 1000000000000000000), .lit (.int .u64 10000000000000000000)]

/-- 'forkwrightkeep.BitsetAlgebra': WHATEVER THE INPUT: true; the input reads as it did. -/
def bitsetAlgebraSpec : ChangeSpec := { name := "bitsetAlgebra", fn := fun _ => fun
  | [d1, d2, d3] => { results := [.lit (.bool true)], args := [d1, d2, d3] }
  | _ => none }
def bitsetAlgebraRow : OpenClaim := { program := "ytkjmddgnfgbioaadoor", sum := "602392d690b5313e3484727a17c2848ccca0ccad88bb16993adc1abfd9c19fae", func := "forkwright/forkwrightkeep.BitsetAlgebra", spec := "bitsetAlgebra", unfollowed := true, recurses := true, named := ["math/bits.deBruijn64tab"], apart := false, laid := [("math/bits.deBruijn64tab", laid_math_bits_deBruijn64tab)] }
def BitsetAlgebraSaid : Prop := bitsetAlgebraRow.holds Tryd.pinned (OpenSpec.ofChange bitsetAlgebraSpec)

/-- ITS FALSE NEIGHBOUR: 'it returns false'. Refute it at one input. -/
def bitsetAlgebraWrong : ChangeSpec := { name := "bitsetAlgebra", fn := fun _ => fun
  | [d1, d2, d3] => { results := [.lit (.bool false)], args := [d1, d2, d3] }
  | _ => none }
def BitsetAlgebraWrongFalsely : Prop := bitsetAlgebraRow.holds Tryd.pinned (OpenSpec.ofChange bitsetAlgebraWrong)

/-- 'forkwrightkeep.BitsetCount': WHATEVER THE INPUT: true; the input reads as it did. -/
def bitsetCountSpec : ChangeSpec := { name := "bitsetCount", fn := fun _ => fun
  | [d1, d2] => { results := [.lit (.bool true)], args := [d1, d2] }
  | _ => none }
def bitsetCountRow : OpenClaim := { program := "ytkjmddgnfgbioaadoor", sum := "602392d690b5313e3484727a17c2848ccca0ccad88bb16993adc1abfd9c19fae", func := "forkwright/forkwrightkeep.BitsetCount", spec := "bitsetCount", unfollowed := true, recurses := true, named := ["math/bits.deBruijn64tab"], apart := false, laid := [("math/bits.deBruijn64tab", laid_math_bits_deBruijn64tab)] }
def BitsetCountSaid : Prop := bitsetCountRow.holds Tryd.pinned (OpenSpec.ofChange bitsetCountSpec)

/-- ITS FALSE NEIGHBOUR: 'it returns false'. Refute it at one input. -/
def bitsetCountWrong : ChangeSpec := { name := "bitsetCount", fn := fun _ => fun
  | [d1, d2] => { results := [.lit (.bool false)], args := [d1, d2] }
  | _ => none }
def BitsetCountWrongFalsely : Prop := bitsetCountRow.holds Tryd.pinned (OpenSpec.ofChange bitsetCountWrong)

/-- 'forkwrightkeep.BitsetBack': WHATEVER THE INPUT: true; the input reads as it did. -/
def bitsetBackSpec : ChangeSpec := { name := "bitsetBack", fn := fun _ => fun
  | [d] => { results := [.lit (.bool true)], args := [d] }
  | _ => none }
def bitsetBackRow : OpenClaim := { program := "ytkjmddgnfgbioaadoor", sum := "602392d690b5313e3484727a17c2848ccca0ccad88bb16993adc1abfd9c19fae", func := "forkwright/forkwrightkeep.BitsetBack", spec := "bitsetBack", unfollowed := true, recurses := true, named := ["math/bits.deBruijn64tab"], apart := false, laid := [("math/bits.deBruijn64tab", laid_math_bits_deBruijn64tab)] }
def BitsetBackSaid : Prop := bitsetBackRow.holds Tryd.pinned (OpenSpec.ofChange bitsetBackSpec)

/-- ITS FALSE NEIGHBOUR: 'it returns false'. Refute it at one input. -/
def bitsetBackWrong : ChangeSpec := { name := "bitsetBack", fn := fun _ => fun
  | [d] => { results := [.lit (.bool false)], args := [d] }
  | _ => none }
def BitsetBackWrongFalsely : Prop := bitsetBackRow.holds Tryd.pinned (OpenSpec.ofChange bitsetBackWrong)

/-- 'forkwrightkeep.MhpNone': WHATEVER THE INPUT: true; the input reads as it did. -/
def mhpNoneSpec : ChangeSpec := { name := "mhpNone", fn := fun _ => fun
  | [d] => { results := [.lit (.bool true)], args := [d] }
  | _ => none }
def mhpNoneRow : OpenClaim := { program := "ytkjmddgnfgbioaadoor", sum := "602392d690b5313e3484727a17c2848ccca0ccad88bb16993adc1abfd9c19fae", func := "forkwright/forkwrightkeep.MhpNone", spec := "mhpNone", unfollowed := true, recurses := true, named := ["math/bits.deBruijn64tab"], loops := true, apart := false, laid := [("math/bits.deBruijn64tab", laid_math_bits_deBruijn64tab)] }
def MhpNoneSaid : Prop := mhpNoneRow.holds Tryd.pinned (OpenSpec.ofChange mhpNoneSpec)

/-- ITS FALSE NEIGHBOUR: 'it returns false'. Refute it at one input. -/
def mhpNoneWrong : ChangeSpec := { name := "mhpNone", fn := fun _ => fun
  | [d] => { results := [.lit (.bool false)], args := [d] }
  | _ => none }
def MhpNoneWrongFalsely : Prop := mhpNoneRow.holds Tryd.pinned (OpenSpec.ofChange mhpNoneWrong)

/-- 'forkwrightkeep.SerialRename': WHATEVER THE INPUT: true; the input reads as it did. -/
def serialRenameSpec : ChangeSpec := { name := "serialRename", fn := fun _ => fun
  | [d1, d2, d3] => { results := [.lit (.bool true)], args := [d1, d2, d3] }
  | _ => none }
def serialRenameRow : OpenClaim := { program := "ytkjmddgnfgbioaadoor", sum := "602392d690b5313e3484727a17c2848ccca0ccad88bb16993adc1abfd9c19fae", func := "forkwright/forkwrightkeep.SerialRename", spec := "serialRename", unfollowed := true, recurses := true, named := ["internal/strconv.uint64pow10", "math/bits.deBruijn32tab", "math/bits.deBruijn64tab"], loops := true, apart := false, laid := [("math/bits.deBruijn32tab", laid_math_bits_deBruijn32tab), ("math/bits.deBruijn64tab", laid_math_bits_deBruijn64tab), ("internal/strconv.uint64pow10", laid_internal_strconv_uint64pow10)] }
def SerialRenameSaid : Prop := serialRenameRow.holds Tryd.pinned (OpenSpec.ofChange serialRenameSpec)

/-- ITS FALSE NEIGHBOUR: 'it returns false'. Refute it at one input. -/
def serialRenameWrong : ChangeSpec := { name := "serialRename", fn := fun _ => fun
  | [d1, d2, d3] => { results := [.lit (.bool false)], args := [d1, d2, d3] }
  | _ => none }
def SerialRenameWrongFalsely : Prop := serialRenameRow.holds Tryd.pinned (OpenSpec.ofChange serialRenameWrong)

/-- 'forkwrightkeep.UnfoldSame': WHATEVER THE INPUT: true; the input reads as it did. -/
def unfoldSameSpec : ChangeSpec := { name := "unfoldSame", fn := fun _ => fun
  | [d1, d2, d3] => { results := [.lit (.bool true)], args := [d1, d2, d3] }
  | _ => none }
def unfoldSameRow : OpenClaim := { program := "ytkjmddgnfgbioaadoor", sum := "602392d690b5313e3484727a17c2848ccca0ccad88bb16993adc1abfd9c19fae", func := "forkwright/forkwrightkeep.UnfoldSame", spec := "unfoldSame", unfollowed := true, recurses := true, named := ["internal/strconv.uint64pow10", "math/bits.deBruijn32tab", "math/bits.deBruijn64tab"], loops := true, apart := false, laid := [("math/bits.deBruijn32tab", laid_math_bits_deBruijn32tab), ("math/bits.deBruijn64tab", laid_math_bits_deBruijn64tab), ("internal/strconv.uint64pow10", laid_internal_strconv_uint64pow10)] }
def UnfoldSameSaid : Prop := unfoldSameRow.holds Tryd.pinned (OpenSpec.ofChange unfoldSameSpec)

/-- ITS FALSE NEIGHBOUR: 'it returns false'. Refute it at one input. -/
def unfoldSameWrong : ChangeSpec := { name := "unfoldSame", fn := fun _ => fun
  | [d1, d2, d3] => { results := [.lit (.bool false)], args := [d1, d2, d3] }
  | _ => none }
def UnfoldSameWrongFalsely : Prop := unfoldSameRow.holds Tryd.pinned (OpenSpec.ofChange unfoldSameWrong)

/-- 'forkwrightkeep.MhpSound': WHATEVER THE INPUT: true; the input reads as it did. -/
def mhpSoundSpec : ChangeSpec := { name := "mhpSound", fn := fun _ => fun
  | [d1, d2, d3, d4, d5] => { results := [.lit (.bool true)], args := [d1, d2, d3, d4, d5] }
  | _ => none }
def mhpSoundRow : OpenClaim := { program := "ytkjmddgnfgbioaadoor", sum := "602392d690b5313e3484727a17c2848ccca0ccad88bb16993adc1abfd9c19fae", func := "forkwright/forkwrightkeep.MhpSound", spec := "mhpSound", unfollowed := true, recurses := true, named := ["math/bits.deBruijn64tab"], loops := true, apart := false, laid := [("math/bits.deBruijn64tab", laid_math_bits_deBruijn64tab)] }
def MhpSoundSaid : Prop := mhpSoundRow.holds Tryd.pinned (OpenSpec.ofChange mhpSoundSpec)

/-- ITS FALSE NEIGHBOUR: 'it returns false'. Refute it at one input. -/
def mhpSoundWrong : ChangeSpec := { name := "mhpSound", fn := fun _ => fun
  | [d1, d2, d3, d4, d5] => { results := [.lit (.bool false)], args := [d1, d2, d3, d4, d5] }
  | _ => none }
def MhpSoundWrongFalsely : Prop := mhpSoundRow.holds Tryd.pinned (OpenSpec.ofChange mhpSoundWrong)

/-- 'forkwrightkeep.MhpJust': WHATEVER THE INPUT: true; the input reads as it did. -/
def mhpJustSpec : ChangeSpec := { name := "mhpJust", fn := fun _ => fun
  | [d1, d2] => { results := [.lit (.bool true)], args := [d1, d2] }
  | _ => none }
def mhpJustRow : OpenClaim := { program := "ytkjmddgnfgbioaadoor", sum := "602392d690b5313e3484727a17c2848ccca0ccad88bb16993adc1abfd9c19fae", func := "forkwright/forkwrightkeep.MhpJust", spec := "mhpJust", unfollowed := true, recurses := true, named := ["math/bits.deBruijn64tab"], loops := true, apart := false, laid := [("math/bits.deBruijn64tab", laid_math_bits_deBruijn64tab)] }
def MhpJustSaid : Prop := mhpJustRow.holds Tryd.pinned (OpenSpec.ofChange mhpJustSpec)

/-- ITS FALSE NEIGHBOUR: 'it returns false'. Refute it at one input. -/
def mhpJustWrong : ChangeSpec := { name := "mhpJust", fn := fun _ => fun
  | [d1, d2] => { results := [.lit (.bool false)], args := [d1, d2] }
  | _ => none }
def MhpJustWrongFalsely : Prop := mhpJustRow.holds Tryd.pinned (OpenSpec.ofChange mhpJustWrong)

/-- 'forkwrightkeep.GraphRound': WHATEVER THE INPUT: true; the input reads as it did. -/
def graphRoundSpec : ChangeSpec := { name := "graphRound", fn := fun _ => fun
  | [d1, d2] => { results := [.lit (.bool true)], args := [d1, d2] }
  | _ => none }
def graphRoundRow : OpenClaim := { program := "ytkjmddgnfgbioaadoor", sum := "602392d690b5313e3484727a17c2848ccca0ccad88bb16993adc1abfd9c19fae", func := "forkwright/forkwrightkeep.GraphRound", spec := "graphRound", unfollowed := true, recurses := true, named := ["math/bits.deBruijn64tab"], apart := false, laid := [("math/bits.deBruijn64tab", laid_math_bits_deBruijn64tab)] }
def GraphRoundSaid : Prop := graphRoundRow.holds Tryd.pinned (OpenSpec.ofChange graphRoundSpec)

/-- ITS FALSE NEIGHBOUR: 'it returns false'. Refute it at one input. -/
def graphRoundWrong : ChangeSpec := { name := "graphRound", fn := fun _ => fun
  | [d1, d2] => { results := [.lit (.bool false)], args := [d1, d2] }
  | _ => none }
def GraphRoundWrongFalsely : Prop := graphRoundRow.holds Tryd.pinned (OpenSpec.ofChange graphRoundWrong)

/-- 'forkwrightkeep.GraphClosed': WHATEVER THE INPUT: true; the input reads as it did. -/
def graphClosedSpec : ChangeSpec := { name := "graphClosed", fn := fun _ => fun
  | [d] => { results := [.lit (.bool true)], args := [d] }
  | _ => none }
def graphClosedRow : OpenClaim := { program := "ytkjmddgnfgbioaadoor", sum := "602392d690b5313e3484727a17c2848ccca0ccad88bb16993adc1abfd9c19fae", func := "forkwright/forkwrightkeep.GraphClosed", spec := "graphClosed", unfollowed := true, recurses := true, named := ["math/bits.deBruijn64tab"], apart := false, laid := [("math/bits.deBruijn64tab", laid_math_bits_deBruijn64tab)] }
def GraphClosedSaid : Prop := graphClosedRow.holds Tryd.pinned (OpenSpec.ofChange graphClosedSpec)

/-- ITS FALSE NEIGHBOUR: 'it returns false'. Refute it at one input. -/
def graphClosedWrong : ChangeSpec := { name := "graphClosed", fn := fun _ => fun
  | [d] => { results := [.lit (.bool false)], args := [d] }
  | _ => none }
def GraphClosedWrongFalsely : Prop := graphClosedRow.holds Tryd.pinned (OpenSpec.ofChange graphClosedWrong)

/-- 'forkwrightkeep.OrderFirst': WHATEVER THE INPUT: true; the input reads as it did. -/
def orderFirstSpec : ChangeSpec := { name := "orderFirst", fn := fun _ => fun
  | [d] => { results := [.lit (.bool true)], args := [d] }
  | _ => none }
def orderFirstRow : OpenClaim := { program := "ytkjmddgnfgbioaadoor", sum := "602392d690b5313e3484727a17c2848ccca0ccad88bb16993adc1abfd9c19fae", func := "forkwright/forkwrightkeep.OrderFirst", spec := "orderFirst", unfollowed := true, recurses := true, named := ["math/bits.deBruijn64tab"], apart := false, laid := [("math/bits.deBruijn64tab", laid_math_bits_deBruijn64tab)] }
def OrderFirstSaid : Prop := orderFirstRow.holds Tryd.pinned (OpenSpec.ofChange orderFirstSpec)

/-- ITS FALSE NEIGHBOUR: 'it returns false'. Refute it at one input. -/
def orderFirstWrong : ChangeSpec := { name := "orderFirst", fn := fun _ => fun
  | [d] => { results := [.lit (.bool false)], args := [d] }
  | _ => none }
def OrderFirstWrongFalsely : Prop := orderFirstRow.holds Tryd.pinned (OpenSpec.ofChange orderFirstWrong)

/- THE SECOND FORM. 'bulk': how many values and letters a reading holds, each counted each time it is reached (what is shared counts as often as it is met; a slice's spare places count too). A statement '..UptoSaid' is the law's where the arguments, and the package variables that the reading takes, are together of bulk at most 1048576: NARROWER than '..Said'. Prove '..Said' where nothing that the law and all that it calls make is longer than what came in: it says more and counts as full. Else prove '..UptoSaid'. A law counts once. -/
mutual
def uptoBulk {H : Type} : DataW H → Nat
  | .lit (.string bytes) => bytes.length + 1
  | .lit _ => 1
  | .nil => 1
  | .ptr d => uptoBulk d + 1
  | .slice elems spare => uptoBulkAll elems + uptoBulkAll spare + 1
  | .agg parts => uptoBulkAll parts + 1
  | .iface _ d => uptoBulk d + 1
  | .map entries => uptoBulkEntries entries + 1
  | .held _ => 1
def uptoBulkAll {H : Type} : List (DataW H) → Nat
  | [] => 0
  | d :: r => uptoBulk d + uptoBulkAll r
def uptoBulkEntries {H : Type} : List (Lit × DataW H) → Nat
  | [] => 0
  | x :: r => uptoBulkEntry x + uptoBulkEntries r
def uptoBulkEntry {H : Type} : Lit × DataW H → Nat
  | (.string bytes, d) => bytes.length + uptoBulk d + 1
  | (_, d) => uptoBulk d + 1
 end
def uptoSmall : (H : Type) → List (DataW H) → Bool := fun _ ds => decide (uptoBulkAll ds ≤ 1048576)
def OpenSpec.upto (s : _root_.Go.ChangeSpec) : _root_.Go.OpenSpec := { _root_.Go.OpenSpec.ofChange s with cond := some uptoSmall }

/-- 'forkwrightkeep.BitsetAlgebra', WHERE WHAT IT READS IS OF BULK AT MOST 1048576: true; the input reads as it did. -/
def bitsetAlgebraUptoRow : OpenClaim := { program := "ytkjmddgnfgbioaadoor", sum := "602392d690b5313e3484727a17c2848ccca0ccad88bb16993adc1abfd9c19fae", func := "forkwright/forkwrightkeep.BitsetAlgebra", spec := "bitsetAlgebra", unfollowed := true, recurses := true, named := ["math/bits.deBruijn64tab"], apart := false, laid := [("math/bits.deBruijn64tab", laid_math_bits_deBruijn64tab)], narrowed := true }
def BitsetAlgebraUptoSaid : Prop := bitsetAlgebraUptoRow.holds Tryd.pinned (OpenSpec.upto bitsetAlgebraSpec)

/-- 'forkwrightkeep.BitsetCount', WHERE WHAT IT READS IS OF BULK AT MOST 1048576: true; the input reads as it did. -/
def bitsetCountUptoRow : OpenClaim := { program := "ytkjmddgnfgbioaadoor", sum := "602392d690b5313e3484727a17c2848ccca0ccad88bb16993adc1abfd9c19fae", func := "forkwright/forkwrightkeep.BitsetCount", spec := "bitsetCount", unfollowed := true, recurses := true, named := ["math/bits.deBruijn64tab"], apart := false, laid := [("math/bits.deBruijn64tab", laid_math_bits_deBruijn64tab)], narrowed := true }
def BitsetCountUptoSaid : Prop := bitsetCountUptoRow.holds Tryd.pinned (OpenSpec.upto bitsetCountSpec)

/-- 'forkwrightkeep.BitsetBack', WHERE WHAT IT READS IS OF BULK AT MOST 1048576: true; the input reads as it did. -/
def bitsetBackUptoRow : OpenClaim := { program := "ytkjmddgnfgbioaadoor", sum := "602392d690b5313e3484727a17c2848ccca0ccad88bb16993adc1abfd9c19fae", func := "forkwright/forkwrightkeep.BitsetBack", spec := "bitsetBack", unfollowed := true, recurses := true, named := ["math/bits.deBruijn64tab"], apart := false, laid := [("math/bits.deBruijn64tab", laid_math_bits_deBruijn64tab)], narrowed := true }
def BitsetBackUptoSaid : Prop := bitsetBackUptoRow.holds Tryd.pinned (OpenSpec.upto bitsetBackSpec)

/-- 'forkwrightkeep.MhpNone', WHERE WHAT IT READS IS OF BULK AT MOST 1048576: true; the input reads as it did. -/
def mhpNoneUptoRow : OpenClaim := { program := "ytkjmddgnfgbioaadoor", sum := "602392d690b5313e3484727a17c2848ccca0ccad88bb16993adc1abfd9c19fae", func := "forkwright/forkwrightkeep.MhpNone", spec := "mhpNone", unfollowed := true, recurses := true, named := ["math/bits.deBruijn64tab"], loops := true, apart := false, laid := [("math/bits.deBruijn64tab", laid_math_bits_deBruijn64tab)], narrowed := true }
def MhpNoneUptoSaid : Prop := mhpNoneUptoRow.holds Tryd.pinned (OpenSpec.upto mhpNoneSpec)

/-- 'forkwrightkeep.SerialRename', WHERE WHAT IT READS IS OF BULK AT MOST 1048576: true; the input reads as it did. -/
def serialRenameUptoRow : OpenClaim := { program := "ytkjmddgnfgbioaadoor", sum := "602392d690b5313e3484727a17c2848ccca0ccad88bb16993adc1abfd9c19fae", func := "forkwright/forkwrightkeep.SerialRename", spec := "serialRename", unfollowed := true, recurses := true, named := ["internal/strconv.uint64pow10", "math/bits.deBruijn32tab", "math/bits.deBruijn64tab"], loops := true, apart := false, laid := [("math/bits.deBruijn32tab", laid_math_bits_deBruijn32tab), ("math/bits.deBruijn64tab", laid_math_bits_deBruijn64tab), ("internal/strconv.uint64pow10", laid_internal_strconv_uint64pow10)], narrowed := true }
def SerialRenameUptoSaid : Prop := serialRenameUptoRow.holds Tryd.pinned (OpenSpec.upto serialRenameSpec)

/-- 'forkwrightkeep.UnfoldSame', WHERE WHAT IT READS IS OF BULK AT MOST 1048576: true; the input reads as it did. -/
def unfoldSameUptoRow : OpenClaim := { program := "ytkjmddgnfgbioaadoor", sum := "602392d690b5313e3484727a17c2848ccca0ccad88bb16993adc1abfd9c19fae", func := "forkwright/forkwrightkeep.UnfoldSame", spec := "unfoldSame", unfollowed := true, recurses := true, named := ["internal/strconv.uint64pow10", "math/bits.deBruijn32tab", "math/bits.deBruijn64tab"], loops := true, apart := false, laid := [("math/bits.deBruijn32tab", laid_math_bits_deBruijn32tab), ("math/bits.deBruijn64tab", laid_math_bits_deBruijn64tab), ("internal/strconv.uint64pow10", laid_internal_strconv_uint64pow10)], narrowed := true }
def UnfoldSameUptoSaid : Prop := unfoldSameUptoRow.holds Tryd.pinned (OpenSpec.upto unfoldSameSpec)

/-- 'forkwrightkeep.MhpSound', WHERE WHAT IT READS IS OF BULK AT MOST 1048576: true; the input reads as it did. -/
def mhpSoundUptoRow : OpenClaim := { program := "ytkjmddgnfgbioaadoor", sum := "602392d690b5313e3484727a17c2848ccca0ccad88bb16993adc1abfd9c19fae", func := "forkwright/forkwrightkeep.MhpSound", spec := "mhpSound", unfollowed := true, recurses := true, named := ["math/bits.deBruijn64tab"], loops := true, apart := false, laid := [("math/bits.deBruijn64tab", laid_math_bits_deBruijn64tab)], narrowed := true }
def MhpSoundUptoSaid : Prop := mhpSoundUptoRow.holds Tryd.pinned (OpenSpec.upto mhpSoundSpec)

/-- 'forkwrightkeep.MhpJust', WHERE WHAT IT READS IS OF BULK AT MOST 1048576: true; the input reads as it did. -/
def mhpJustUptoRow : OpenClaim := { program := "ytkjmddgnfgbioaadoor", sum := "602392d690b5313e3484727a17c2848ccca0ccad88bb16993adc1abfd9c19fae", func := "forkwright/forkwrightkeep.MhpJust", spec := "mhpJust", unfollowed := true, recurses := true, named := ["math/bits.deBruijn64tab"], loops := true, apart := false, laid := [("math/bits.deBruijn64tab", laid_math_bits_deBruijn64tab)], narrowed := true }
def MhpJustUptoSaid : Prop := mhpJustUptoRow.holds Tryd.pinned (OpenSpec.upto mhpJustSpec)

/-- 'forkwrightkeep.GraphRound', WHERE WHAT IT READS IS OF BULK AT MOST 1048576: true; the input reads as it did. -/
def graphRoundUptoRow : OpenClaim := { program := "ytkjmddgnfgbioaadoor", sum := "602392d690b5313e3484727a17c2848ccca0ccad88bb16993adc1abfd9c19fae", func := "forkwright/forkwrightkeep.GraphRound", spec := "graphRound", unfollowed := true, recurses := true, named := ["math/bits.deBruijn64tab"], apart := false, laid := [("math/bits.deBruijn64tab", laid_math_bits_deBruijn64tab)], narrowed := true }
def GraphRoundUptoSaid : Prop := graphRoundUptoRow.holds Tryd.pinned (OpenSpec.upto graphRoundSpec)

/-- 'forkwrightkeep.GraphClosed', WHERE WHAT IT READS IS OF BULK AT MOST 1048576: true; the input reads as it did. -/
def graphClosedUptoRow : OpenClaim := { program := "ytkjmddgnfgbioaadoor", sum := "602392d690b5313e3484727a17c2848ccca0ccad88bb16993adc1abfd9c19fae", func := "forkwright/forkwrightkeep.GraphClosed", spec := "graphClosed", unfollowed := true, recurses := true, named := ["math/bits.deBruijn64tab"], apart := false, laid := [("math/bits.deBruijn64tab", laid_math_bits_deBruijn64tab)], narrowed := true }
def GraphClosedUptoSaid : Prop := graphClosedUptoRow.holds Tryd.pinned (OpenSpec.upto graphClosedSpec)

/-- 'forkwrightkeep.OrderFirst', WHERE WHAT IT READS IS OF BULK AT MOST 1048576: true; the input reads as it did. -/
def orderFirstUptoRow : OpenClaim := { program := "ytkjmddgnfgbioaadoor", sum := "602392d690b5313e3484727a17c2848ccca0ccad88bb16993adc1abfd9c19fae", func := "forkwright/forkwrightkeep.OrderFirst", spec := "orderFirst", unfollowed := true, recurses := true, named := ["math/bits.deBruijn64tab"], apart := false, laid := [("math/bits.deBruijn64tab", laid_math_bits_deBruijn64tab)], narrowed := true }
def OrderFirstUptoSaid : Prop := orderFirstUptoRow.holds Tryd.pinned (OpenSpec.upto orderFirstSpec)

end Rows
end Go.Proofs.YtkjmddgnfgbioaaDoor
