/-
  NARROWER THAN 'FOR EVERY INPUT', by the rows' own cells (each row's printed sentence says how): SpanArea: loops · SpanJoins: loops · SpTwo: loops · SpOrder: loops · SpNoN: loops · SpJoins: loops.
  DERIVED. THE GIVEN ROWS OF THIS SEAT. 10 by the template 'for every input the law returns true; each argument reads behind the call as it read before'; 0 by the template 'total and deterministic' (their statements: YtdipieplmmhnhaaTotals.lean).
  GIVEN WITH THE SEED: the statements are not yours to turn. If you find one false, say at which input.
  Laid BY PROGRAM, IN A SANDBOX (cutbox-rows.mjs): the forced cells as the released guide's own fill.sh prints them over the translation 8df601aec689f164… (all of the seat's roots in one cut). By AI agents, Wed Nov 11 2026. No macro, syntax, notation, axiom, sorry.
-/
import Derived.Test.YtdipieplmmhnhaaChecked
import GoSem.Claim
import GoSem.ClaimJoined
import GoSem.ClaimMapViews
import Derived.JoinedTies
import Derived.KernelRfl
namespace Go.Proofs.Ytdipieplmmhnhaa
/- THE CELL 'sum', in the pinned program and in every row, IS THE sha256 OF THE DUMP (.gsa) THAT YtdipieplmmhnhaaProg.lean LOADS. Nothing in Lean hashes anything: it is a label: what it is worth is what the hold of that sum in a sandbox is worth. -/
noncomputable def Try.pinned : Pinned := { name := "ytdipieplmmhnhaa", sum := "8df601aec689f1645741944179d1231a9ed6b29164d6b05460df8b7be9e5b2e4", checked := Try.checked }
namespace Rows
def none {H : Type} : Left H := { results := [], args := [] }

/-- 'forkwrightkeep.SpanArea': WHATEVER THE INPUT: true; the input reads as it did. -/
def spanAreaSpec : ChangeSpec := { name := "spanArea", fn := fun _ => fun
  | [d] => { results := [.lit (.bool true)], args := [d] }
  | _ => none }
def spanAreaRow : OpenClaim := { program := "ytdipieplmmhnhaa", sum := "8df601aec689f1645741944179d1231a9ed6b29164d6b05460df8b7be9e5b2e4", func := "forkwright/forkwrightkeep.SpanArea", spec := "spanArea", unfollowed := true, recurses := true, loops := true, apart := false }
def SpanAreaSaid : Prop := spanAreaRow.holds Try.pinned (OpenSpec.ofChange spanAreaSpec)

/-- ITS FALSE NEIGHBOUR: 'it returns false'. Refute it at one input. -/
def spanAreaWrong : ChangeSpec := { name := "spanArea", fn := fun _ => fun
  | [d] => { results := [.lit (.bool false)], args := [d] }
  | _ => none }
def SpanAreaWrongFalsely : Prop := spanAreaRow.holds Try.pinned (OpenSpec.ofChange spanAreaWrong)

/-- 'forkwrightkeep.SpanJoins': WHATEVER THE INPUT: true; the input reads as it did. -/
def spanJoinsSpec : ChangeSpec := { name := "spanJoins", fn := fun _ => fun
  | [d1, d2] => { results := [.lit (.bool true)], args := [d1, d2] }
  | _ => none }
def spanJoinsRow : OpenClaim := { program := "ytdipieplmmhnhaa", sum := "8df601aec689f1645741944179d1231a9ed6b29164d6b05460df8b7be9e5b2e4", func := "forkwright/forkwrightkeep.SpanJoins", spec := "spanJoins", unfollowed := true, recurses := true, loops := true, apart := false }
def SpanJoinsSaid : Prop := spanJoinsRow.holds Try.pinned (OpenSpec.ofChange spanJoinsSpec)

/-- ITS FALSE NEIGHBOUR: 'it returns false'. Refute it at one input. -/
def spanJoinsWrong : ChangeSpec := { name := "spanJoins", fn := fun _ => fun
  | [d1, d2] => { results := [.lit (.bool false)], args := [d1, d2] }
  | _ => none }
def SpanJoinsWrongFalsely : Prop := spanJoinsRow.holds Try.pinned (OpenSpec.ofChange spanJoinsWrong)

/-- 'forkwrightkeep.LexBack': WHATEVER THE INPUT: true; the input reads as it did. -/
def lexBackSpec : ChangeSpec := { name := "lexBack", fn := fun _ => fun
  | [d] => { results := [.lit (.bool true)], args := [d] }
  | _ => none }
def lexBackRow : OpenClaim := { program := "ytdipieplmmhnhaa", sum := "8df601aec689f1645741944179d1231a9ed6b29164d6b05460df8b7be9e5b2e4", func := "forkwright/forkwrightkeep.LexBack", spec := "lexBack", inPlace := ["internal/bytealg.IndexByteString", "internal/abi.NoEscape"], unfollowed := true, recurses := true, apart := false }
def LexBackSaid : Prop := lexBackRow.holds Try.pinned (OpenSpec.ofChange lexBackSpec)

/-- ITS FALSE NEIGHBOUR: 'it returns false'. Refute it at one input. -/
def lexBackWrong : ChangeSpec := { name := "lexBack", fn := fun _ => fun
  | [d] => { results := [.lit (.bool false)], args := [d] }
  | _ => none }
def LexBackWrongFalsely : Prop := lexBackRow.holds Try.pinned (OpenSpec.ofChange lexBackWrong)

/-- 'forkwrightkeep.LexAll': WHATEVER THE INPUT: true; the input reads as it did. -/
def lexAllSpec : ChangeSpec := { name := "lexAll", fn := fun _ => fun
  | [d] => { results := [.lit (.bool true)], args := [d] }
  | _ => none }
def lexAllRow : OpenClaim := { program := "ytdipieplmmhnhaa", sum := "8df601aec689f1645741944179d1231a9ed6b29164d6b05460df8b7be9e5b2e4", func := "forkwright/forkwrightkeep.LexAll", spec := "lexAll", inPlace := ["internal/bytealg.IndexByteString", "internal/abi.NoEscape"], unfollowed := true, recurses := true, apart := false }
def LexAllSaid : Prop := lexAllRow.holds Try.pinned (OpenSpec.ofChange lexAllSpec)

/-- ITS FALSE NEIGHBOUR: 'it returns false'. Refute it at one input. -/
def lexAllWrong : ChangeSpec := { name := "lexAll", fn := fun _ => fun
  | [d] => { results := [.lit (.bool false)], args := [d] }
  | _ => none }
def LexAllWrongFalsely : Prop := lexAllRow.holds Try.pinned (OpenSpec.ofChange lexAllWrong)

/-- 'forkwrightkeep.LexTwo': WHATEVER THE INPUT: true; the input reads as it did. -/
def lexTwoSpec : ChangeSpec := { name := "lexTwo", fn := fun _ => fun
  | [d1, d2] => { results := [.lit (.bool true)], args := [d1, d2] }
  | _ => none }
def lexTwoRow : OpenClaim := { program := "ytdipieplmmhnhaa", sum := "8df601aec689f1645741944179d1231a9ed6b29164d6b05460df8b7be9e5b2e4", func := "forkwright/forkwrightkeep.LexTwo", spec := "lexTwo", inPlace := ["internal/bytealg.IndexByteString", "internal/abi.NoEscape"], unfollowed := true, recurses := true, apart := false }
def LexTwoSaid : Prop := lexTwoRow.holds Try.pinned (OpenSpec.ofChange lexTwoSpec)

/-- ITS FALSE NEIGHBOUR: 'it returns false'. Refute it at one input. -/
def lexTwoWrong : ChangeSpec := { name := "lexTwo", fn := fun _ => fun
  | [d1, d2] => { results := [.lit (.bool false)], args := [d1, d2] }
  | _ => none }
def LexTwoWrongFalsely : Prop := lexTwoRow.holds Try.pinned (OpenSpec.ofChange lexTwoWrong)

/-- 'forkwrightkeep.LexBlanks': WHATEVER THE INPUT: true; the input reads as it did. -/
def lexBlanksSpec : ChangeSpec := { name := "lexBlanks", fn := fun _ => fun
  | [d1, d2] => { results := [.lit (.bool true)], args := [d1, d2] }
  | _ => none }
def lexBlanksRow : OpenClaim := { program := "ytdipieplmmhnhaa", sum := "8df601aec689f1645741944179d1231a9ed6b29164d6b05460df8b7be9e5b2e4", func := "forkwright/forkwrightkeep.LexBlanks", spec := "lexBlanks", inPlace := ["internal/bytealg.IndexByteString", "internal/abi.NoEscape"], unfollowed := true, recurses := true, apart := false }
def LexBlanksSaid : Prop := lexBlanksRow.holds Try.pinned (OpenSpec.ofChange lexBlanksSpec)

/-- ITS FALSE NEIGHBOUR: 'it returns false'. Refute it at one input. -/
def lexBlanksWrong : ChangeSpec := { name := "lexBlanks", fn := fun _ => fun
  | [d1, d2] => { results := [.lit (.bool false)], args := [d1, d2] }
  | _ => none }
def LexBlanksWrongFalsely : Prop := lexBlanksRow.holds Try.pinned (OpenSpec.ofChange lexBlanksWrong)

/-- 'forkwrightkeep.SpTwo': WHATEVER THE INPUT: true; the input reads as it did. -/
def spTwoSpec : ChangeSpec := { name := "spTwo", fn := fun _ => fun
  | [d1, d2, d3] => { results := [.lit (.bool true)], args := [d1, d2, d3] }
  | _ => none }
def spTwoRow : OpenClaim := { program := "ytdipieplmmhnhaa", sum := "8df601aec689f1645741944179d1231a9ed6b29164d6b05460df8b7be9e5b2e4", func := "forkwright/forkwrightkeep.SpTwo", spec := "spTwo", unfollowed := true, recurses := true, loops := true, apart := false }
def SpTwoSaid : Prop := spTwoRow.holds Try.pinned (OpenSpec.ofChange spTwoSpec)

/-- ITS FALSE NEIGHBOUR: 'it returns false'. Refute it at one input. -/
def spTwoWrong : ChangeSpec := { name := "spTwo", fn := fun _ => fun
  | [d1, d2, d3] => { results := [.lit (.bool false)], args := [d1, d2, d3] }
  | _ => none }
def SpTwoWrongFalsely : Prop := spTwoRow.holds Try.pinned (OpenSpec.ofChange spTwoWrong)

/-- 'forkwrightkeep.SpOrder': WHATEVER THE INPUT: true; the input reads as it did. -/
def spOrderSpec : ChangeSpec := { name := "spOrder", fn := fun _ => fun
  | [d1, d2, d3, d4] => { results := [.lit (.bool true)], args := [d1, d2, d3, d4] }
  | _ => none }
def spOrderRow : OpenClaim := { program := "ytdipieplmmhnhaa", sum := "8df601aec689f1645741944179d1231a9ed6b29164d6b05460df8b7be9e5b2e4", func := "forkwright/forkwrightkeep.SpOrder", spec := "spOrder", unfollowed := true, recurses := true, loops := true, apart := false }
def SpOrderSaid : Prop := spOrderRow.holds Try.pinned (OpenSpec.ofChange spOrderSpec)

/-- ITS FALSE NEIGHBOUR: 'it returns false'. Refute it at one input. -/
def spOrderWrong : ChangeSpec := { name := "spOrder", fn := fun _ => fun
  | [d1, d2, d3, d4] => { results := [.lit (.bool false)], args := [d1, d2, d3, d4] }
  | _ => none }
def SpOrderWrongFalsely : Prop := spOrderRow.holds Try.pinned (OpenSpec.ofChange spOrderWrong)

/-- 'forkwrightkeep.SpNoN': WHATEVER THE INPUT: true; the input reads as it did. -/
def spNoNSpec : ChangeSpec := { name := "spNoN", fn := fun _ => fun
  | [d1, d2, d3, d4, d5] => { results := [.lit (.bool true)], args := [d1, d2, d3, d4, d5] }
  | _ => none }
def spNoNRow : OpenClaim := { program := "ytdipieplmmhnhaa", sum := "8df601aec689f1645741944179d1231a9ed6b29164d6b05460df8b7be9e5b2e4", func := "forkwright/forkwrightkeep.SpNoN", spec := "spNoN", unfollowed := true, recurses := true, loops := true, apart := false }
def SpNoNSaid : Prop := spNoNRow.holds Try.pinned (OpenSpec.ofChange spNoNSpec)

/-- ITS FALSE NEIGHBOUR: 'it returns false'. Refute it at one input. -/
def spNoNWrong : ChangeSpec := { name := "spNoN", fn := fun _ => fun
  | [d1, d2, d3, d4, d5] => { results := [.lit (.bool false)], args := [d1, d2, d3, d4, d5] }
  | _ => none }
def SpNoNWrongFalsely : Prop := spNoNRow.holds Try.pinned (OpenSpec.ofChange spNoNWrong)

/-- 'forkwrightkeep.SpJoins': WHATEVER THE INPUT: true; the input reads as it did. -/
def spJoinsSpec : ChangeSpec := { name := "spJoins", fn := fun _ => fun
  | [d1, d2, d3, d4, d5, d6] => { results := [.lit (.bool true)], args := [d1, d2, d3, d4, d5, d6] }
  | _ => none }
def spJoinsRow : OpenClaim := { program := "ytdipieplmmhnhaa", sum := "8df601aec689f1645741944179d1231a9ed6b29164d6b05460df8b7be9e5b2e4", func := "forkwright/forkwrightkeep.SpJoins", spec := "spJoins", unfollowed := true, recurses := true, loops := true, apart := false }
def SpJoinsSaid : Prop := spJoinsRow.holds Try.pinned (OpenSpec.ofChange spJoinsSpec)

/-- ITS FALSE NEIGHBOUR: 'it returns false'. Refute it at one input. -/
def spJoinsWrong : ChangeSpec := { name := "spJoins", fn := fun _ => fun
  | [d1, d2, d3, d4, d5, d6] => { results := [.lit (.bool false)], args := [d1, d2, d3, d4, d5, d6] }
  | _ => none }
def SpJoinsWrongFalsely : Prop := spJoinsRow.holds Try.pinned (OpenSpec.ofChange spJoinsWrong)

/- THE SECOND FORM. 'bulk': how many values and letters a reading holds, each counted each time it is reached (what is shared counts as often as it is met; a slice's spare places count too). A statement '..UptoSaid' is the law's where the arguments, and the package variables that the reading takes, are together of bulk at most 1048576: NARROWER than '..Said'. Prove '..Said' where nothing that the law and all that it calls make is longer than what came in: it says more and counts as full. Else prove '..UptoSaid'. A law counts once. -/
mutual
def uptoBulk {H : Type} : DataW H → Nat
  | .lit (.string bytes) => bytes.length + 1
  | .lit _ => 1
  | .nil => 1
  | .ptr d => uptoBulk d + 1
  | .slice elems spare => uptoBulkAll elems + uptoBulkAll spare + 1
  | .agg parts => uptoBulkAll parts + 1
  | .iface _ d => uptoBulk d + 1
  | .map entries => uptoBulkEntries entries + 1
  | .held _ => 1
def uptoBulkAll {H : Type} : List (DataW H) → Nat
  | [] => 0
  | d :: r => uptoBulk d + uptoBulkAll r
def uptoBulkEntries {H : Type} : List (Lit × DataW H) → Nat
  | [] => 0
  | x :: r => uptoBulkEntry x + uptoBulkEntries r
def uptoBulkEntry {H : Type} : Lit × DataW H → Nat
  | (.string bytes, d) => bytes.length + uptoBulk d + 1
  | (_, d) => uptoBulk d + 1
 end
def uptoSmall : (H : Type) → List (DataW H) → Bool := fun _ ds => decide (uptoBulkAll ds ≤ 1048576)
def OpenSpec.upto (s : _root_.Go.ChangeSpec) : _root_.Go.OpenSpec := { _root_.Go.OpenSpec.ofChange s with cond := some uptoSmall }

/-- 'forkwrightkeep.SpanArea', WHERE WHAT IT READS IS OF BULK AT MOST 1048576: true; the input reads as it did. -/
def spanAreaUptoRow : OpenClaim := { program := "ytdipieplmmhnhaa", sum := "8df601aec689f1645741944179d1231a9ed6b29164d6b05460df8b7be9e5b2e4", func := "forkwright/forkwrightkeep.SpanArea", spec := "spanArea", unfollowed := true, recurses := true, loops := true, apart := false, narrowed := true }
def SpanAreaUptoSaid : Prop := spanAreaUptoRow.holds Try.pinned (OpenSpec.upto spanAreaSpec)

/-- 'forkwrightkeep.SpanJoins', WHERE WHAT IT READS IS OF BULK AT MOST 1048576: true; the input reads as it did. -/
def spanJoinsUptoRow : OpenClaim := { program := "ytdipieplmmhnhaa", sum := "8df601aec689f1645741944179d1231a9ed6b29164d6b05460df8b7be9e5b2e4", func := "forkwright/forkwrightkeep.SpanJoins", spec := "spanJoins", unfollowed := true, recurses := true, loops := true, apart := false, narrowed := true }
def SpanJoinsUptoSaid : Prop := spanJoinsUptoRow.holds Try.pinned (OpenSpec.upto spanJoinsSpec)

/-- 'forkwrightkeep.LexBack', WHERE WHAT IT READS IS OF BULK AT MOST 1048576: true; the input reads as it did. -/
def lexBackUptoRow : OpenClaim := { program := "ytdipieplmmhnhaa", sum := "8df601aec689f1645741944179d1231a9ed6b29164d6b05460df8b7be9e5b2e4", func := "forkwright/forkwrightkeep.LexBack", spec := "lexBack", inPlace := ["internal/bytealg.IndexByteString", "internal/abi.NoEscape"], unfollowed := true, recurses := true, apart := false, narrowed := true }
def LexBackUptoSaid : Prop := lexBackUptoRow.holds Try.pinned (OpenSpec.upto lexBackSpec)

/-- 'forkwrightkeep.LexAll', WHERE WHAT IT READS IS OF BULK AT MOST 1048576: true; the input reads as it did. -/
def lexAllUptoRow : OpenClaim := { program := "ytdipieplmmhnhaa", sum := "8df601aec689f1645741944179d1231a9ed6b29164d6b05460df8b7be9e5b2e4", func := "forkwright/forkwrightkeep.LexAll", spec := "lexAll", inPlace := ["internal/bytealg.IndexByteString", "internal/abi.NoEscape"], unfollowed := true, recurses := true, apart := false, narrowed := true }
def LexAllUptoSaid : Prop := lexAllUptoRow.holds Try.pinned (OpenSpec.upto lexAllSpec)

/-- 'forkwrightkeep.LexTwo', WHERE WHAT IT READS IS OF BULK AT MOST 1048576: true; the input reads as it did. -/
def lexTwoUptoRow : OpenClaim := { program := "ytdipieplmmhnhaa", sum := "8df601aec689f1645741944179d1231a9ed6b29164d6b05460df8b7be9e5b2e4", func := "forkwright/forkwrightkeep.LexTwo", spec := "lexTwo", inPlace := ["internal/bytealg.IndexByteString", "internal/abi.NoEscape"], unfollowed := true, recurses := true, apart := false, narrowed := true }
def LexTwoUptoSaid : Prop := lexTwoUptoRow.holds Try.pinned (OpenSpec.upto lexTwoSpec)

/-- 'forkwrightkeep.LexBlanks', WHERE WHAT IT READS IS OF BULK AT MOST 1048576: true; the input reads as it did. -/
def lexBlanksUptoRow : OpenClaim := { program := "ytdipieplmmhnhaa", sum := "8df601aec689f1645741944179d1231a9ed6b29164d6b05460df8b7be9e5b2e4", func := "forkwright/forkwrightkeep.LexBlanks", spec := "lexBlanks", inPlace := ["internal/bytealg.IndexByteString", "internal/abi.NoEscape"], unfollowed := true, recurses := true, apart := false, narrowed := true }
def LexBlanksUptoSaid : Prop := lexBlanksUptoRow.holds Try.pinned (OpenSpec.upto lexBlanksSpec)

/-- 'forkwrightkeep.SpTwo', WHERE WHAT IT READS IS OF BULK AT MOST 1048576: true; the input reads as it did. -/
def spTwoUptoRow : OpenClaim := { program := "ytdipieplmmhnhaa", sum := "8df601aec689f1645741944179d1231a9ed6b29164d6b05460df8b7be9e5b2e4", func := "forkwright/forkwrightkeep.SpTwo", spec := "spTwo", unfollowed := true, recurses := true, loops := true, apart := false, narrowed := true }
def SpTwoUptoSaid : Prop := spTwoUptoRow.holds Try.pinned (OpenSpec.upto spTwoSpec)

/-- 'forkwrightkeep.SpOrder', WHERE WHAT IT READS IS OF BULK AT MOST 1048576: true; the input reads as it did. -/
def spOrderUptoRow : OpenClaim := { program := "ytdipieplmmhnhaa", sum := "8df601aec689f1645741944179d1231a9ed6b29164d6b05460df8b7be9e5b2e4", func := "forkwright/forkwrightkeep.SpOrder", spec := "spOrder", unfollowed := true, recurses := true, loops := true, apart := false, narrowed := true }
def SpOrderUptoSaid : Prop := spOrderUptoRow.holds Try.pinned (OpenSpec.upto spOrderSpec)

/-- 'forkwrightkeep.SpNoN', WHERE WHAT IT READS IS OF BULK AT MOST 1048576: true; the input reads as it did. -/
def spNoNUptoRow : OpenClaim := { program := "ytdipieplmmhnhaa", sum := "8df601aec689f1645741944179d1231a9ed6b29164d6b05460df8b7be9e5b2e4", func := "forkwright/forkwrightkeep.SpNoN", spec := "spNoN", unfollowed := true, recurses := true, loops := true, apart := false, narrowed := true }
def SpNoNUptoSaid : Prop := spNoNUptoRow.holds Try.pinned (OpenSpec.upto spNoNSpec)

/-- 'forkwrightkeep.SpJoins', WHERE WHAT IT READS IS OF BULK AT MOST 1048576: true; the input reads as it did. -/
def spJoinsUptoRow : OpenClaim := { program := "ytdipieplmmhnhaa", sum := "8df601aec689f1645741944179d1231a9ed6b29164d6b05460df8b7be9e5b2e4", func := "forkwright/forkwrightkeep.SpJoins", spec := "spJoins", unfollowed := true, recurses := true, loops := true, apart := false, narrowed := true }
def SpJoinsUptoSaid : Prop := spJoinsUptoRow.holds Try.pinned (OpenSpec.upto spJoinsSpec)

end Rows
end Go.Proofs.Ytdipieplmmhnhaa
