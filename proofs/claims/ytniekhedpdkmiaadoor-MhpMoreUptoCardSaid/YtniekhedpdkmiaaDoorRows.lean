/-
  NARROWER THAN 'FOR EVERY INPUT', by the rows' own cells (each row's printed sentence says how): BitsetAlgebra: laid · BitsetCount: laid · BitsetWithin: laid · BitsetBack: laid · MhpNone: loops, laid · MhpMore: loops, laid.
  DERIVED. THE GIVEN ROWS OF THIS SEAT. 6 by the template 'for every input the law returns true; each argument reads behind the call as it read before'; 0 by the template 'total and deterministic' (their statements: YtniekhedpdkmiaaDoorTotals.lean).
  GIVEN WITH THE SEED: the statements are not yours to turn. If you find one false, say at which input.
  Laid BY PROGRAM, IN A SANDBOX (cutbox-rows.mjs): the forced cells as the released guide's own fill.sh prints them over the translation ab10e0ed02a381f7… (all of the seat's roots in one cut). By AI agents, Wed Nov 11 2026. No macro, syntax, notation, axiom, sorry.
-/
import Derived.Test.YtniekhedpdkmiaaDoorChecked
import GoSem.Claim
import GoSem.ClaimJoined
import GoSem.ClaimMapViews
import Derived.JoinedTies
import Derived.KernelRfl
namespace Go.Proofs.YtniekhedpdkmiaaDoor
/- THE CELL 'sum', in the pinned program and in every row, IS THE sha256 OF THE DUMP (.gsa) THAT YtniekhedpdkmiaaDoorProg.lean LOADS. Nothing in Lean hashes anything: it is a label: what it is worth is what the hold of that sum in a sandbox is worth. -/
noncomputable def Tryd.pinned : Pinned := { name := "ytniekhedpdkmiaadoor", sum := "ab10e0ed02a381f77d7d091df1602209285aa74f7226e96e1a441a2de9f9f556", checked := Tryd.checked }
namespace Rows
def none {H : Type} : Left H := { results := [], args := [] }

/- WHAT THE LISTED PACKAGE-LEVEL VARIABLES READ AS WHEN THE CALL BEGINS. Each datum BY PROGRAM (the guide's laid-datum.mjs) off the statement by which the dump's own 'gosem.cut.vars' lays the variable. In a bare row this is a premise. The card (YtniekhedpdkmiaaDoorCards.lean) ties it to the program's text. -/
def laid_math_bits_deBruijn64tab {H : Type} : DataW H := .agg [.lit (.int .u8 0), .lit (.int .u8 1), .lit (.int .u8 56), .lit (.int .u8 2), .lit (.int .u8 57), .lit (.int .u8 49), .lit (.int .u8 28), .lit (.int .u8 3), .lit (.int .u8 61), .lit (.int .u8 58), .lit (.int .u8 42), .lit (.int .u8 50), .lit (.int .u8 38), .lit (.int .u8 29), .lit (.int .u8 17), .lit (.int .u8 4), .lit (.int .u8 62), .lit (.int .u8 47), .lit (.int .u8 59), .lit (.int .u8 36), .lit (.int .u8 45), .lit (.int .u8 43), .lit (.int .u8 51), .lit (.int .u8 22), .lit (.int .u8 53), .lit (.int .u8 39), .lit (.int .u8 33), .lit (.int .u8 30), .lit (.int .u8 24), .lit (.int .u8 18), .lit (.int .u8 12), .lit (.int .u8 5), .lit (.int .u8 63), .lit (.int .u8 55), .lit (.int .u8 48), .lit (.int .u8 27), .lit (.int .u8 60), .lit (.int .u8 41), .lit (.int .u8 37), .lit (.int .u8 16), .lit (.int .u8 46), .lit (.int .u8 35), .lit (.int .u8 44), .lit (.int .u8 21), .lit (.int .u8 52), .lit (.int .u8 32), .lit (.int .u8 23), .lit (.int .u8 11), .lit (.int .u8 54), .lit (.int .u8 26), .lit (.int .u8 40), .lit (.int .u8 15), .lit (.int .u8 34), .lit (.int .u8 20), .lit (.int .u8 31), .lit (.int .u8 10), .lit (.int .u8 25), .lit (.int .u8 14), .lit (.int .u8 19), .lit (.int .u8 9), .lit (.int .u8 13), .lit (.int .u8 8), .lit (.int .u8 7), .lit (.int .u8 6)]

/-- 'forkwrightkeep.BitsetAlgebra': WHATEVER THE INPUT: true; the input reads as it did. -/
def bitsetAlgebraSpec : ChangeSpec := { name := "bitsetAlgebra", fn := fun _ => fun
  | [d1, d2, d3] => { results := [.lit (.bool true)], args := [d1, d2, d3] }
  | _ => none }
def bitsetAlgebraRow : OpenClaim := { program := "ytniekhedpdkmiaadoor", sum := "ab10e0ed02a381f77d7d091df1602209285aa74f7226e96e1a441a2de9f9f556", func := "forkwright/forkwrightkeep.BitsetAlgebra", spec := "bitsetAlgebra", unfollowed := true, recurses := true, named := ["math/bits.deBruijn64tab"], apart := false, laid := [("math/bits.deBruijn64tab", laid_math_bits_deBruijn64tab)] }
def BitsetAlgebraSaid : Prop := bitsetAlgebraRow.holds Tryd.pinned (OpenSpec.ofChange bitsetAlgebraSpec)

/-- ITS FALSE NEIGHBOUR: 'it returns false'. Refute it at one input. -/
def bitsetAlgebraWrong : ChangeSpec := { name := "bitsetAlgebra", fn := fun _ => fun
  | [d1, d2, d3] => { results := [.lit (.bool false)], args := [d1, d2, d3] }
  | _ => none }
def BitsetAlgebraWrongFalsely : Prop := bitsetAlgebraRow.holds Tryd.pinned (OpenSpec.ofChange bitsetAlgebraWrong)

/-- 'forkwrightkeep.BitsetCount': WHATEVER THE INPUT: true; the input reads as it did. -/
def bitsetCountSpec : ChangeSpec := { name := "bitsetCount", fn := fun _ => fun
  | [d1, d2] => { results := [.lit (.bool true)], args := [d1, d2] }
  | _ => none }
def bitsetCountRow : OpenClaim := { program := "ytniekhedpdkmiaadoor", sum := "ab10e0ed02a381f77d7d091df1602209285aa74f7226e96e1a441a2de9f9f556", func := "forkwright/forkwrightkeep.BitsetCount", spec := "bitsetCount", unfollowed := true, recurses := true, named := ["math/bits.deBruijn64tab"], apart := false, laid := [("math/bits.deBruijn64tab", laid_math_bits_deBruijn64tab)] }
def BitsetCountSaid : Prop := bitsetCountRow.holds Tryd.pinned (OpenSpec.ofChange bitsetCountSpec)

/-- ITS FALSE NEIGHBOUR: 'it returns false'. Refute it at one input. -/
def bitsetCountWrong : ChangeSpec := { name := "bitsetCount", fn := fun _ => fun
  | [d1, d2] => { results := [.lit (.bool false)], args := [d1, d2] }
  | _ => none }
def BitsetCountWrongFalsely : Prop := bitsetCountRow.holds Tryd.pinned (OpenSpec.ofChange bitsetCountWrong)

/-- 'forkwrightkeep.BitsetWithin': WHATEVER THE INPUT: true; the input reads as it did. -/
def bitsetWithinSpec : ChangeSpec := { name := "bitsetWithin", fn := fun _ => fun
  | [d1, d2, d3] => { results := [.lit (.bool true)], args := [d1, d2, d3] }
  | _ => none }
def bitsetWithinRow : OpenClaim := { program := "ytniekhedpdkmiaadoor", sum := "ab10e0ed02a381f77d7d091df1602209285aa74f7226e96e1a441a2de9f9f556", func := "forkwright/forkwrightkeep.BitsetWithin", spec := "bitsetWithin", unfollowed := true, recurses := true, named := ["math/bits.deBruijn64tab"], apart := false, laid := [("math/bits.deBruijn64tab", laid_math_bits_deBruijn64tab)] }
def BitsetWithinSaid : Prop := bitsetWithinRow.holds Tryd.pinned (OpenSpec.ofChange bitsetWithinSpec)

/-- ITS FALSE NEIGHBOUR: 'it returns false'. Refute it at one input. -/
def bitsetWithinWrong : ChangeSpec := { name := "bitsetWithin", fn := fun _ => fun
  | [d1, d2, d3] => { results := [.lit (.bool false)], args := [d1, d2, d3] }
  | _ => none }
def BitsetWithinWrongFalsely : Prop := bitsetWithinRow.holds Tryd.pinned (OpenSpec.ofChange bitsetWithinWrong)

/-- 'forkwrightkeep.BitsetBack': WHATEVER THE INPUT: true; the input reads as it did. -/
def bitsetBackSpec : ChangeSpec := { name := "bitsetBack", fn := fun _ => fun
  | [d] => { results := [.lit (.bool true)], args := [d] }
  | _ => none }
def bitsetBackRow : OpenClaim := { program := "ytniekhedpdkmiaadoor", sum := "ab10e0ed02a381f77d7d091df1602209285aa74f7226e96e1a441a2de9f9f556", func := "forkwright/forkwrightkeep.BitsetBack", spec := "bitsetBack", unfollowed := true, recurses := true, named := ["math/bits.deBruijn64tab"], apart := false, laid := [("math/bits.deBruijn64tab", laid_math_bits_deBruijn64tab)] }
def BitsetBackSaid : Prop := bitsetBackRow.holds Tryd.pinned (OpenSpec.ofChange bitsetBackSpec)

/-- ITS FALSE NEIGHBOUR: 'it returns false'. Refute it at one input. -/
def bitsetBackWrong : ChangeSpec := { name := "bitsetBack", fn := fun _ => fun
  | [d] => { results := [.lit (.bool false)], args := [d] }
  | _ => none }
def BitsetBackWrongFalsely : Prop := bitsetBackRow.holds Tryd.pinned (OpenSpec.ofChange bitsetBackWrong)

/-- 'forkwrightkeep.MhpNone': WHATEVER THE INPUT: true; the input reads as it did. -/
def mhpNoneSpec : ChangeSpec := { name := "mhpNone", fn := fun _ => fun
  | [d] => { results := [.lit (.bool true)], args := [d] }
  | _ => none }
def mhpNoneRow : OpenClaim := { program := "ytniekhedpdkmiaadoor", sum := "ab10e0ed02a381f77d7d091df1602209285aa74f7226e96e1a441a2de9f9f556", func := "forkwright/forkwrightkeep.MhpNone", spec := "mhpNone", unfollowed := true, recurses := true, named := ["math/bits.deBruijn64tab"], loops := true, apart := false, laid := [("math/bits.deBruijn64tab", laid_math_bits_deBruijn64tab)] }
def MhpNoneSaid : Prop := mhpNoneRow.holds Tryd.pinned (OpenSpec.ofChange mhpNoneSpec)

/-- ITS FALSE NEIGHBOUR: 'it returns false'. Refute it at one input. -/
def mhpNoneWrong : ChangeSpec := { name := "mhpNone", fn := fun _ => fun
  | [d] => { results := [.lit (.bool false)], args := [d] }
  | _ => none }
def MhpNoneWrongFalsely : Prop := mhpNoneRow.holds Tryd.pinned (OpenSpec.ofChange mhpNoneWrong)

/-- 'forkwrightkeep.MhpMore': WHATEVER THE INPUT: true; the input reads as it did. -/
def mhpMoreSpec : ChangeSpec := { name := "mhpMore", fn := fun _ => fun
  | [d1, d2, d3] => { results := [.lit (.bool true)], args := [d1, d2, d3] }
  | _ => none }
def mhpMoreRow : OpenClaim := { program := "ytniekhedpdkmiaadoor", sum := "ab10e0ed02a381f77d7d091df1602209285aa74f7226e96e1a441a2de9f9f556", func := "forkwright/forkwrightkeep.MhpMore", spec := "mhpMore", unfollowed := true, recurses := true, named := ["math/bits.deBruijn64tab"], loops := true, apart := false, laid := [("math/bits.deBruijn64tab", laid_math_bits_deBruijn64tab)] }
def MhpMoreSaid : Prop := mhpMoreRow.holds Tryd.pinned (OpenSpec.ofChange mhpMoreSpec)

/-- ITS FALSE NEIGHBOUR: 'it returns false'. Refute it at one input. -/
def mhpMoreWrong : ChangeSpec := { name := "mhpMore", fn := fun _ => fun
  | [d1, d2, d3] => { results := [.lit (.bool false)], args := [d1, d2, d3] }
  | _ => none }
def MhpMoreWrongFalsely : Prop := mhpMoreRow.holds Tryd.pinned (OpenSpec.ofChange mhpMoreWrong)

/- THE SECOND FORM. 'bulk': how many values and letters a reading holds, each counted each time it is reached (what is shared counts as often as it is met; a slice's spare places count too). A statement '..UptoSaid' is the law's where the arguments, and the package variables that the reading takes, are together of bulk at most 1048576: NARROWER than '..Said'. Prove '..Said' where nothing that the law and all that it calls make is longer than what came in: it says more and counts as full. Else prove '..UptoSaid'. A law counts once. -/
mutual
def uptoBulk {H : Type} : DataW H → Nat
  | .lit (.string bytes) => bytes.length + 1
  | .lit _ => 1
  | .nil => 1
  | .ptr d => uptoBulk d + 1
  | .slice elems spare => uptoBulkAll elems + uptoBulkAll spare + 1
  | .agg parts => uptoBulkAll parts + 1
  | .iface _ d => uptoBulk d + 1
  | .map entries => uptoBulkEntries entries + 1
  | .held _ => 1
def uptoBulkAll {H : Type} : List (DataW H) → Nat
  | [] => 0
  | d :: r => uptoBulk d + uptoBulkAll r
def uptoBulkEntries {H : Type} : List (Lit × DataW H) → Nat
  | [] => 0
  | x :: r => uptoBulkEntry x + uptoBulkEntries r
def uptoBulkEntry {H : Type} : Lit × DataW H → Nat
  | (.string bytes, d) => bytes.length + uptoBulk d + 1
  | (_, d) => uptoBulk d + 1
 end
def uptoSmall : (H : Type) → List (DataW H) → Bool := fun _ ds => decide (uptoBulkAll ds ≤ 1048576)
def OpenSpec.upto (s : _root_.Go.ChangeSpec) : _root_.Go.OpenSpec := { _root_.Go.OpenSpec.ofChange s with cond := some uptoSmall }

/-- 'forkwrightkeep.BitsetAlgebra', WHERE WHAT IT READS IS OF BULK AT MOST 1048576: true; the input reads as it did. -/
def bitsetAlgebraUptoRow : OpenClaim := { program := "ytniekhedpdkmiaadoor", sum := "ab10e0ed02a381f77d7d091df1602209285aa74f7226e96e1a441a2de9f9f556", func := "forkwright/forkwrightkeep.BitsetAlgebra", spec := "bitsetAlgebra", unfollowed := true, recurses := true, named := ["math/bits.deBruijn64tab"], apart := false, laid := [("math/bits.deBruijn64tab", laid_math_bits_deBruijn64tab)], narrowed := true }
def BitsetAlgebraUptoSaid : Prop := bitsetAlgebraUptoRow.holds Tryd.pinned (OpenSpec.upto bitsetAlgebraSpec)

/-- 'forkwrightkeep.BitsetCount', WHERE WHAT IT READS IS OF BULK AT MOST 1048576: true; the input reads as it did. -/
def bitsetCountUptoRow : OpenClaim := { program := "ytniekhedpdkmiaadoor", sum := "ab10e0ed02a381f77d7d091df1602209285aa74f7226e96e1a441a2de9f9f556", func := "forkwright/forkwrightkeep.BitsetCount", spec := "bitsetCount", unfollowed := true, recurses := true, named := ["math/bits.deBruijn64tab"], apart := false, laid := [("math/bits.deBruijn64tab", laid_math_bits_deBruijn64tab)], narrowed := true }
def BitsetCountUptoSaid : Prop := bitsetCountUptoRow.holds Tryd.pinned (OpenSpec.upto bitsetCountSpec)

/-- 'forkwrightkeep.BitsetWithin', WHERE WHAT IT READS IS OF BULK AT MOST 1048576: true; the input reads as it did. -/
def bitsetWithinUptoRow : OpenClaim := { program := "ytniekhedpdkmiaadoor", sum := "ab10e0ed02a381f77d7d091df1602209285aa74f7226e96e1a441a2de9f9f556", func := "forkwright/forkwrightkeep.BitsetWithin", spec := "bitsetWithin", unfollowed := true, recurses := true, named := ["math/bits.deBruijn64tab"], apart := false, laid := [("math/bits.deBruijn64tab", laid_math_bits_deBruijn64tab)], narrowed := true }
def BitsetWithinUptoSaid : Prop := bitsetWithinUptoRow.holds Tryd.pinned (OpenSpec.upto bitsetWithinSpec)

/-- 'forkwrightkeep.BitsetBack', WHERE WHAT IT READS IS OF BULK AT MOST 1048576: true; the input reads as it did. -/
def bitsetBackUptoRow : OpenClaim := { program := "ytniekhedpdkmiaadoor", sum := "ab10e0ed02a381f77d7d091df1602209285aa74f7226e96e1a441a2de9f9f556", func := "forkwright/forkwrightkeep.BitsetBack", spec := "bitsetBack", unfollowed := true, recurses := true, named := ["math/bits.deBruijn64tab"], apart := false, laid := [("math/bits.deBruijn64tab", laid_math_bits_deBruijn64tab)], narrowed := true }
def BitsetBackUptoSaid : Prop := bitsetBackUptoRow.holds Tryd.pinned (OpenSpec.upto bitsetBackSpec)

/-- 'forkwrightkeep.MhpNone', WHERE WHAT IT READS IS OF BULK AT MOST 1048576: true; the input reads as it did. -/
def mhpNoneUptoRow : OpenClaim := { program := "ytniekhedpdkmiaadoor", sum := "ab10e0ed02a381f77d7d091df1602209285aa74f7226e96e1a441a2de9f9f556", func := "forkwright/forkwrightkeep.MhpNone", spec := "mhpNone", unfollowed := true, recurses := true, named := ["math/bits.deBruijn64tab"], loops := true, apart := false, laid := [("math/bits.deBruijn64tab", laid_math_bits_deBruijn64tab)], narrowed := true }
def MhpNoneUptoSaid : Prop := mhpNoneUptoRow.holds Tryd.pinned (OpenSpec.upto mhpNoneSpec)

/-- 'forkwrightkeep.MhpMore', WHERE WHAT IT READS IS OF BULK AT MOST 1048576: true; the input reads as it did. -/
def mhpMoreUptoRow : OpenClaim := { program := "ytniekhedpdkmiaadoor", sum := "ab10e0ed02a381f77d7d091df1602209285aa74f7226e96e1a441a2de9f9f556", func := "forkwright/forkwrightkeep.MhpMore", spec := "mhpMore", unfollowed := true, recurses := true, named := ["math/bits.deBruijn64tab"], loops := true, apart := false, laid := [("math/bits.deBruijn64tab", laid_math_bits_deBruijn64tab)], narrowed := true }
def MhpMoreUptoSaid : Prop := mhpMoreUptoRow.holds Tryd.pinned (OpenSpec.upto mhpMoreSpec)

end Rows
end Go.Proofs.YtniekhedpdkmiaaDoor
