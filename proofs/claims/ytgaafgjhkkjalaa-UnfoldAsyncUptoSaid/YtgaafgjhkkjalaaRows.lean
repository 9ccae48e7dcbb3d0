/-
  NARROWER THAN 'FOR EVERY INPUT', by the rows' own cells (each row's printed sentence says how): UnfoldFinish: loops · UnfoldAsync: loops · UnfoldPlain: loops · UnfoldTrace: loops.
  DERIVED. THE GIVEN ROWS OF THIS SEAT. 4 by the template 'for every input the law returns true; each argument reads behind the call as it read before'; 0 by the template 'total and deterministic' (their statements: YtgaafgjhkkjalaaTotals.lean).
  GIVEN WITH THE SEED: the statements are not yours to turn. If you find one false, say at which input.
  Laid BY PROGRAM, IN A SANDBOX (cutbox-rows.mjs): the forced cells as the released guide's own fill.sh prints them over the translation de4b1734d134a0c0… (all of the seat's roots in one cut). By AI agents, Wed Nov 11 2026. No macro, syntax, notation, axiom, sorry.
-/
import Derived.Test.YtgaafgjhkkjalaaChecked
import GoSem.Claim
import GoSem.ClaimJoined
import GoSem.ClaimMapViews
import Derived.JoinedTies
import Derived.KernelRfl
namespace Go.Proofs.Ytgaafgjhkkjalaa
/- THE CELL 'sum', in the pinned program and in every row, IS THE sha256 OF THE DUMP (.gsa) THAT YtgaafgjhkkjalaaProg.lean LOADS. Nothing in Lean hashes anything: it is a label: what it is worth is what the hold of that sum in a sandbox is worth. -/
noncomputable def Try.pinned : Pinned := { name := "ytgaafgjhkkjalaa", sum := "de4b1734d134a0c0a8809c448cc6421bc2df8bf792591646dc4da601f59106e4", checked := Try.checked }
namespace Rows
def none {H : Type} : Left H := { results := [], args := [] }

/-- 'forkwrightkeep.UnfoldFinish': WHATEVER THE INPUT: true; the input reads as it did. -/
def unfoldFinishSpec : ChangeSpec := { name := "unfoldFinish", fn := fun _ => fun
  | [d1, d2, d3, d4, d5, d6] => { results := [.lit (.bool true)], args := [d1, d2, d3, d4, d5, d6] }
  | _ => none }
def unfoldFinishRow : OpenClaim := { program := "ytgaafgjhkkjalaa", sum := "de4b1734d134a0c0a8809c448cc6421bc2df8bf792591646dc4da601f59106e4", func := "forkwright/forkwrightkeep.UnfoldFinish", spec := "unfoldFinish", unfollowed := true, recurses := true, loops := true, apart := false }
def UnfoldFinishSaid : Prop := unfoldFinishRow.holds Try.pinned (OpenSpec.ofChange unfoldFinishSpec)

/-- ITS FALSE NEIGHBOUR: 'it returns false'. Refute it at one input. -/
def unfoldFinishWrong : ChangeSpec := { name := "unfoldFinish", fn := fun _ => fun
  | [d1, d2, d3, d4, d5, d6] => { results := [.lit (.bool false)], args := [d1, d2, d3, d4, d5, d6] }
  | _ => none }
def UnfoldFinishWrongFalsely : Prop := unfoldFinishRow.holds Try.pinned (OpenSpec.ofChange unfoldFinishWrong)

/-- 'forkwrightkeep.UnfoldAsync': WHATEVER THE INPUT: true; the input reads as it did. -/
def unfoldAsyncSpec : ChangeSpec := { name := "unfoldAsync", fn := fun _ => fun
  | [d1, d2, d3, d4, d5, d6, d7] => { results := [.lit (.bool true)], args := [d1, d2, d3, d4, d5, d6, d7] }
  | _ => none }
def unfoldAsyncRow : OpenClaim := { program := "ytgaafgjhkkjalaa", sum := "de4b1734d134a0c0a8809c448cc6421bc2df8bf792591646dc4da601f59106e4", func := "forkwright/forkwrightkeep.UnfoldAsync", spec := "unfoldAsync", unfollowed := true, recurses := true, loops := true, apart := false }
def UnfoldAsyncSaid : Prop := unfoldAsyncRow.holds Try.pinned (OpenSpec.ofChange unfoldAsyncSpec)

/-- ITS FALSE NEIGHBOUR: 'it returns false'. Refute it at one input. -/
def unfoldAsyncWrong : ChangeSpec := { name := "unfoldAsync", fn := fun _ => fun
  | [d1, d2, d3, d4, d5, d6, d7] => { results := [.lit (.bool false)], args := [d1, d2, d3, d4, d5, d6, d7] }
  | _ => none }
def UnfoldAsyncWrongFalsely : Prop := unfoldAsyncRow.holds Try.pinned (OpenSpec.ofChange unfoldAsyncWrong)

/-- 'forkwrightkeep.UnfoldPlain': WHATEVER THE INPUT: true; the input reads as it did. -/
def unfoldPlainSpec : ChangeSpec := { name := "unfoldPlain", fn := fun _ => fun
  | [d1, d2, d3] => { results := [.lit (.bool true)], args := [d1, d2, d3] }
  | _ => none }
def unfoldPlainRow : OpenClaim := { program := "ytgaafgjhkkjalaa", sum := "de4b1734d134a0c0a8809c448cc6421bc2df8bf792591646dc4da601f59106e4", func := "forkwright/forkwrightkeep.UnfoldPlain", spec := "unfoldPlain", unfollowed := true, recurses := true, loops := true, apart := false }
def UnfoldPlainSaid : Prop := unfoldPlainRow.holds Try.pinned (OpenSpec.ofChange unfoldPlainSpec)

/-- ITS FALSE NEIGHBOUR: 'it returns false'. Refute it at one input. -/
def unfoldPlainWrong : ChangeSpec := { name := "unfoldPlain", fn := fun _ => fun
  | [d1, d2, d3] => { results := [.lit (.bool false)], args := [d1, d2, d3] }
  | _ => none }
def UnfoldPlainWrongFalsely : Prop := unfoldPlainRow.holds Try.pinned (OpenSpec.ofChange unfoldPlainWrong)

/-- 'forkwrightkeep.UnfoldTrace': WHATEVER THE INPUT: true; the input reads as it did. -/
def unfoldTraceSpec : ChangeSpec := { name := "unfoldTrace", fn := fun _ => fun
  | [d1, d2, d3] => { results := [.lit (.bool true)], args := [d1, d2, d3] }
  | _ => none }
def unfoldTraceRow : OpenClaim := { program := "ytgaafgjhkkjalaa", sum := "de4b1734d134a0c0a8809c448cc6421bc2df8bf792591646dc4da601f59106e4", func := "forkwright/forkwrightkeep.UnfoldTrace", spec := "unfoldTrace", unfollowed := true, recurses := true, loops := true, apart := false }
def UnfoldTraceSaid : Prop := unfoldTraceRow.holds Try.pinned (OpenSpec.ofChange unfoldTraceSpec)

/-- ITS FALSE NEIGHBOUR: 'it returns false'. Refute it at one input. -/
def unfoldTraceWrong : ChangeSpec := { name := "unfoldTrace", fn := fun _ => fun
  | [d1, d2, d3] => { results := [.lit (.bool false)], args := [d1, d2, d3] }
  | _ => none }
def UnfoldTraceWrongFalsely : Prop := unfoldTraceRow.holds Try.pinned (OpenSpec.ofChange unfoldTraceWrong)

/- THE SECOND FORM. 'bulk': how many values and letters a reading holds, each counted each time it is reached (what is shared counts as often as it is met; a slice's spare places count too). A statement '..UptoSaid' is the law's where the arguments, and the package variables that the reading takes, are together of bulk at most 1048576: NARROWER than '..Said'. Prove '..Said' where nothing that the law and all that it calls make is longer than what came in: it says more and counts as full. Else prove '..UptoSaid'. A law counts once. -/
mutual
def uptoBulk {H : Type} : DataW H → Nat
  | .lit (.string bytes) => bytes.length + 1
  | .lit _ => 1
  | .nil => 1
  | .ptr d => uptoBulk d + 1
  | .slice elems spare => uptoBulkAll elems + uptoBulkAll spare + 1
  | .agg parts => uptoBulkAll parts + 1
  | .iface _ d => uptoBulk d + 1
  | .map entries => uptoBulkEntries entries + 1
  | .held _ => 1
def uptoBulkAll {H : Type} : List (DataW H) → Nat
  | [] => 0
  | d :: r => uptoBulk d + uptoBulkAll r
def uptoBulkEntries {H : Type} : List (Lit × DataW H) → Nat
  | [] => 0
  | x :: r => uptoBulkEntry x + uptoBulkEntries r
def uptoBulkEntry {H : Type} : Lit × DataW H → Nat
  | (.string bytes, d) => bytes.length + uptoBulk d + 1
  | (_, d) => uptoBulk d + 1
 end
def uptoSmall : (H : Type) → List (DataW H) → Bool := fun _ ds => decide (uptoBulkAll ds ≤ 1048576)
def OpenSpec.upto (s : _root_.Go.ChangeSpec) : _root_.Go.OpenSpec := { _root_.Go.OpenSpec.ofChange s with cond := some uptoSmall }

/-- 'forkwrightkeep.UnfoldFinish', WHERE WHAT IT READS IS OF BULK AT MOST 1048576: true; the input reads as it did. -/
def unfoldFinishUptoRow : OpenClaim := { program := "ytgaafgjhkkjalaa", sum := "de4b1734d134a0c0a8809c448cc6421bc2df8bf792591646dc4da601f59106e4", func := "forkwright/forkwrightkeep.UnfoldFinish", spec := "unfoldFinish", unfollowed := true, recurses := true, loops := true, apart := false, narrowed := true }
def UnfoldFinishUptoSaid : Prop := unfoldFinishUptoRow.holds Try.pinned (OpenSpec.upto unfoldFinishSpec)

/-- 'forkwrightkeep.UnfoldAsync', WHERE WHAT IT READS IS OF BULK AT MOST 1048576: true; the input reads as it did. -/
def unfoldAsyncUptoRow : OpenClaim := { program := "ytgaafgjhkkjalaa", sum := "de4b1734d134a0c0a8809c448cc6421bc2df8bf792591646dc4da601f59106e4", func := "forkwright/forkwrightkeep.UnfoldAsync", spec := "unfoldAsync", unfollowed := true, recurses := true, loops := true, apart := false, narrowed := true }
def UnfoldAsyncUptoSaid : Prop := unfoldAsyncUptoRow.holds Try.pinned (OpenSpec.upto unfoldAsyncSpec)

/-- 'forkwrightkeep.UnfoldPlain', WHERE WHAT IT READS IS OF BULK AT MOST 1048576: true; the input reads as it did. -/
def unfoldPlainUptoRow : OpenClaim := { program := "ytgaafgjhkkjalaa", sum := "de4b1734d134a0c0a8809c448cc6421bc2df8bf792591646dc4da601f59106e4", func := "forkwright/forkwrightkeep.UnfoldPlain", spec := "unfoldPlain", unfollowed := true, recurses := true, loops := true, apart := false, narrowed := true }
def UnfoldPlainUptoSaid : Prop := unfoldPlainUptoRow.holds Try.pinned (OpenSpec.upto unfoldPlainSpec)

/-- 'forkwrightkeep.UnfoldTrace', WHERE WHAT IT READS IS OF BULK AT MOST 1048576: true; the input reads as it did. -/
def unfoldTraceUptoRow : OpenClaim := { program := "ytgaafgjhkkjalaa", sum := "de4b1734d134a0c0a8809c448cc6421bc2df8bf792591646dc4da601f59106e4", func := "forkwright/forkwrightkeep.UnfoldTrace", spec := "unfoldTrace", unfollowed := true, recurses := true, loops := true, apart := false, narrowed := true }
def UnfoldTraceUptoSaid : Prop := unfoldTraceUptoRow.holds Try.pinned (OpenSpec.upto unfoldTraceSpec)

end Rows
end Go.Proofs.Ytgaafgjhkkjalaa
