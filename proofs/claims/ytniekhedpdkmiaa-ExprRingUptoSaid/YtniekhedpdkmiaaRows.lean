/-
  NARROWER THAN 'FOR EVERY INPUT', by the rows' own cells (each row's printed sentence says how): ExprFold: loops · ExprRing: loops · ExprPut: loops · ExprNames: loops.
  DERIVED. THE GIVEN ROWS OF THIS SEAT. 5 by the template 'for every input the law returns true; each argument reads behind the call as it read before'; 0 by the template 'total and deterministic' (their statements: YtniekhedpdkmiaaTotals.lean).
  GIVEN WITH THE SEED: the statements are not yours to turn. If you find one false, say at which input.
  Laid BY PROGRAM, IN A SANDBOX (cutbox-rows.mjs): the forced cells as the released guide's own fill.sh prints them over the translation 629d4549baf35f56… (all of the seat's roots in one cut). By AI agents, Wed Nov 11 2026. No macro, syntax, notation, axiom, sorry.
-/
import Derived.Test.YtniekhedpdkmiaaChecked
import GoSem.Claim
import GoSem.ClaimJoined
import GoSem.ClaimMapViews
import Derived.JoinedTies
import Derived.KernelRfl
namespace Go.Proofs.Ytniekhedpdkmiaa
/- THE CELL 'sum', in the pinned program and in every row, IS THE sha256 OF THE DUMP (.gsa) THAT YtniekhedpdkmiaaProg.lean LOADS. Nothing in Lean hashes anything: it is a label: what it is worth is what the hold of that sum in a sandbox is worth. -/
noncomputable def Try.pinned : Pinned := { name := "ytniekhedpdkmiaa", sum := "629d4549baf35f56096e36646ff5a8bf4934b1e90cf920d935c217fb1f055974", checked := Try.checked }
namespace Rows
def none {H : Type} : Left H := { results := [], args := [] }

/-- 'forkwrightkeep.DequeEnds': WHATEVER THE INPUT: true; the input reads as it did. -/
def dequeEndsSpec : ChangeSpec := { name := "dequeEnds", fn := fun _ => fun
  | [d1, d2] => { results := [.lit (.bool true)], args := [d1, d2] }
  | _ => none }
def dequeEndsRow : OpenClaim := { program := "ytniekhedpdkmiaa", sum := "629d4549baf35f56096e36646ff5a8bf4934b1e90cf920d935c217fb1f055974", func := "forkwright/forkwrightkeep.DequeEnds", spec := "dequeEnds", unfollowed := true, recurses := true, apart := false }
def DequeEndsSaid : Prop := dequeEndsRow.holds Try.pinned (OpenSpec.ofChange dequeEndsSpec)

/-- ITS FALSE NEIGHBOUR: 'it returns false'. Refute it at one input. -/
def dequeEndsWrong : ChangeSpec := { name := "dequeEnds", fn := fun _ => fun
  | [d1, d2] => { results := [.lit (.bool false)], args := [d1, d2] }
  | _ => none }
def DequeEndsWrongFalsely : Prop := dequeEndsRow.holds Try.pinned (OpenSpec.ofChange dequeEndsWrong)

/-- 'forkwrightkeep.ExprFold': WHATEVER THE INPUT: true; the input reads as it did. -/
def exprFoldSpec : ChangeSpec := { name := "exprFold", fn := fun _ => fun
  | [d1, d2] => { results := [.lit (.bool true)], args := [d1, d2] }
  | _ => none }
def exprFoldRow : OpenClaim := { program := "ytniekhedpdkmiaa", sum := "629d4549baf35f56096e36646ff5a8bf4934b1e90cf920d935c217fb1f055974", func := "forkwright/forkwrightkeep.ExprFold", spec := "exprFold", unfollowed := true, recurses := true, loops := true, apart := false }
def ExprFoldSaid : Prop := exprFoldRow.holds Try.pinned (OpenSpec.ofChange exprFoldSpec)

/-- ITS FALSE NEIGHBOUR: 'it returns false'. Refute it at one input. -/
def exprFoldWrong : ChangeSpec := { name := "exprFold", fn := fun _ => fun
  | [d1, d2] => { results := [.lit (.bool false)], args := [d1, d2] }
  | _ => none }
def ExprFoldWrongFalsely : Prop := exprFoldRow.holds Try.pinned (OpenSpec.ofChange exprFoldWrong)

/-- 'forkwrightkeep.ExprRing': WHATEVER THE INPUT: true; the input reads as it did. -/
def exprRingSpec : ChangeSpec := { name := "exprRing", fn := fun _ => fun
  | [d1, d2, d3, d4] => { results := [.lit (.bool true)], args := [d1, d2, d3, d4] }
  | _ => none }
def exprRingRow : OpenClaim := { program := "ytniekhedpdkmiaa", sum := "629d4549baf35f56096e36646ff5a8bf4934b1e90cf920d935c217fb1f055974", func := "forkwright/forkwrightkeep.ExprRing", spec := "exprRing", unfollowed := true, recurses := true, loops := true, apart := false }
def ExprRingSaid : Prop := exprRingRow.holds Try.pinned (OpenSpec.ofChange exprRingSpec)

/-- ITS FALSE NEIGHBOUR: 'it returns false'. Refute it at one input. -/
def exprRingWrong : ChangeSpec := { name := "exprRing", fn := fun _ => fun
  | [d1, d2, d3, d4] => { results := [.lit (.bool false)], args := [d1, d2, d3, d4] }
  | _ => none }
def ExprRingWrongFalsely : Prop := exprRingRow.holds Try.pinned (OpenSpec.ofChange exprRingWrong)

/-- 'forkwrightkeep.ExprPut': WHATEVER THE INPUT: true; the input reads as it did. -/
def exprPutSpec : ChangeSpec := { name := "exprPut", fn := fun _ => fun
  | [d1, d2, d3, d4] => { results := [.lit (.bool true)], args := [d1, d2, d3, d4] }
  | _ => none }
def exprPutRow : OpenClaim := { program := "ytniekhedpdkmiaa", sum := "629d4549baf35f56096e36646ff5a8bf4934b1e90cf920d935c217fb1f055974", func := "forkwright/forkwrightkeep.ExprPut", spec := "exprPut", unfollowed := true, recurses := true, loops := true, apart := false }
def ExprPutSaid : Prop := exprPutRow.holds Try.pinned (OpenSpec.ofChange exprPutSpec)

/-- ITS FALSE NEIGHBOUR: 'it returns false'. Refute it at one input. -/
def exprPutWrong : ChangeSpec := { name := "exprPut", fn := fun _ => fun
  | [d1, d2, d3, d4] => { results := [.lit (.bool false)], args := [d1, d2, d3, d4] }
  | _ => none }
def ExprPutWrongFalsely : Prop := exprPutRow.holds Try.pinned (OpenSpec.ofChange exprPutWrong)

/-- 'forkwrightkeep.ExprNames': WHATEVER THE INPUT: true; the input reads as it did. -/
def exprNamesSpec : ChangeSpec := { name := "exprNames", fn := fun _ => fun
  | [d1, d2, d3] => { results := [.lit (.bool true)], args := [d1, d2, d3] }
  | _ => none }
def exprNamesRow : OpenClaim := { program := "ytniekhedpdkmiaa", sum := "629d4549baf35f56096e36646ff5a8bf4934b1e90cf920d935c217fb1f055974", func := "forkwright/forkwrightkeep.ExprNames", spec := "exprNames", unfollowed := true, recurses := true, loops := true, apart := false }
def ExprNamesSaid : Prop := exprNamesRow.holds Try.pinned (OpenSpec.ofChange exprNamesSpec)

/-- ITS FALSE NEIGHBOUR: 'it returns false'. Refute it at one input. -/
def exprNamesWrong : ChangeSpec := { name := "exprNames", fn := fun _ => fun
  | [d1, d2, d3] => { results := [.lit (.bool false)], args := [d1, d2, d3] }
  | _ => none }
def ExprNamesWrongFalsely : Prop := exprNamesRow.holds Try.pinned (OpenSpec.ofChange exprNamesWrong)

/- THE SECOND FORM. 'bulk': how many values and letters a reading holds, each counted each time it is reached (what is shared counts as often as it is met; a slice's spare places count too). A statement '..UptoSaid' is the law's where the arguments, and the package variables that the reading takes, are together of bulk at most 1048576: NARROWER than '..Said'. Prove '..Said' where nothing that the law and all that it calls make is longer than what came in: it says more and counts as full. Else prove '..UptoSaid'. A law counts once. -/
mutual
def uptoBulk {H : Type} : DataW H → Nat
  | .lit (.string bytes) => bytes.length + 1
  | .lit _ => 1
  | .nil => 1
  | .ptr d => uptoBulk d + 1
  | .slice elems spare => uptoBulkAll elems + uptoBulkAll spare + 1
  | .agg parts => uptoBulkAll parts + 1
  | .iface _ d => uptoBulk d + 1
  | .map entries => uptoBulkEntries entries + 1
  | .held _ => 1
def uptoBulkAll {H : Type} : List (DataW H) → Nat
  | [] => 0
  | d :: r => uptoBulk d + uptoBulkAll r
def uptoBulkEntries {H : Type} : List (Lit × DataW H) → Nat
  | [] => 0
  | x :: r => uptoBulkEntry x + uptoBulkEntries r
def uptoBulkEntry {H : Type} : Lit × DataW H → Nat
  | (.string bytes, d) => bytes.length + uptoBulk d + 1
  | (_, d) => uptoBulk d + 1
 end
def uptoSmall : (H : Type) → List (DataW H) → Bool := fun _ ds => decide (uptoBulkAll ds ≤ 1048576)
def OpenSpec.upto (s : _root_.Go.ChangeSpec) : _root_.Go.OpenSpec := { _root_.Go.OpenSpec.ofChange s with cond := some uptoSmall }

/-- 'forkwrightkeep.DequeEnds', WHERE WHAT IT READS IS OF BULK AT MOST 1048576: true; the input reads as it did. -/
def dequeEndsUptoRow : OpenClaim := { program := "ytniekhedpdkmiaa", sum := "629d4549baf35f56096e36646ff5a8bf4934b1e90cf920d935c217fb1f055974", func := "forkwright/forkwrightkeep.DequeEnds", spec := "dequeEnds", unfollowed := true, recurses := true, apart := false, narrowed := true }
def DequeEndsUptoSaid : Prop := dequeEndsUptoRow.holds Try.pinned (OpenSpec.upto dequeEndsSpec)

/-- 'forkwrightkeep.ExprFold', WHERE WHAT IT READS IS OF BULK AT MOST 1048576: true; the input reads as it did. -/
def exprFoldUptoRow : OpenClaim := { program := "ytniekhedpdkmiaa", sum := "629d4549baf35f56096e36646ff5a8bf4934b1e90cf920d935c217fb1f055974", func := "forkwright/forkwrightkeep.ExprFold", spec := "exprFold", unfollowed := true, recurses := true, loops := true, apart := false, narrowed := true }
def ExprFoldUptoSaid : Prop := exprFoldUptoRow.holds Try.pinned (OpenSpec.upto exprFoldSpec)

/-- 'forkwrightkeep.ExprRing', WHERE WHAT IT READS IS OF BULK AT MOST 1048576: true; the input reads as it did. -/
def exprRingUptoRow : OpenClaim := { program := "ytniekhedpdkmiaa", sum := "629d4549baf35f56096e36646ff5a8bf4934b1e90cf920d935c217fb1f055974", func := "forkwright/forkwrightkeep.ExprRing", spec := "exprRing", unfollowed := true, recurses := true, loops := true, apart := false, narrowed := true }
def ExprRingUptoSaid : Prop := exprRingUptoRow.holds Try.pinned (OpenSpec.upto exprRingSpec)

/-- 'forkwrightkeep.ExprPut', WHERE WHAT IT READS IS OF BULK AT MOST 1048576: true; the input reads as it did. -/
def exprPutUptoRow : OpenClaim := { program := "ytniekhedpdkmiaa", sum := "629d4549baf35f56096e36646ff5a8bf4934b1e90cf920d935c217fb1f055974", func := "forkwright/forkwrightkeep.ExprPut", spec := "exprPut", unfollowed := true, recurses := true, loops := true, apart := false, narrowed := true }
def ExprPutUptoSaid : Prop := exprPutUptoRow.holds Try.pinned (OpenSpec.upto exprPutSpec)

/-- 'forkwrightkeep.ExprNames', WHERE WHAT IT READS IS OF BULK AT MOST 1048576: true; the input reads as it did. -/
def exprNamesUptoRow : OpenClaim := { program := "ytniekhedpdkmiaa", sum := "629d4549baf35f56096e36646ff5a8bf4934b1e90cf920d935c217fb1f055974", func := "forkwright/forkwrightkeep.ExprNames", spec := "exprNames", unfollowed := true, recurses := true, loops := true, apart := false, narrowed := true }
def ExprNamesUptoSaid : Prop := exprNamesUptoRow.holds Try.pinned (OpenSpec.upto exprNamesSpec)

end Rows
end Go.Proofs.Ytniekhedpdkmiaa
