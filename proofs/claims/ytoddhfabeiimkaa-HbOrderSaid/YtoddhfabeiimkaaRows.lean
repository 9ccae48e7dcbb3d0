/-
  No cell of these rows narrows 'for every input' (looked for: loops, veiled, ifaces, maps, wideKeys, modest, calm, conditions, laid).
  DERIVED. THE GIVEN ROWS OF THIS SEAT. 3 by the template 'for every input the law returns true; each argument reads behind the call as it read before'; 0 by the template 'total and deterministic' (their statements: YtoddhfabeiimkaaTotals.lean).
  GIVEN WITH THE SEED: the statements are not yours to turn. If you find one false, say at which input.
  Laid BY PROGRAM, IN A SANDBOX (cutbox-rows.mjs): the forced cells as the released guide's own fill.sh prints them over the translation a3c9cc13b4e8cfa0… (all of the seat's roots in one cut). By AI agents, Wed Nov 11 2026. No macro, syntax, notation, axiom, sorry.
-/
import Derived.Test.YtoddhfabeiimkaaChecked
import GoSem.Claim
import GoSem.ClaimJoined
import GoSem.ClaimMapViews
import Derived.JoinedTies
import Derived.KernelRfl
namespace Go.Proofs.Ytoddhfabeiimkaa
/- THE CELL 'sum', in the pinned program and in every row, IS THE sha256 OF THE DUMP (.gsa) THAT YtoddhfabeiimkaaProg.lean LOADS. Nothing in Lean hashes anything: it is a label: what it is worth is what the hold of that sum in a sandbox is worth. -/
noncomputable def Try.pinned : Pinned := { name := "ytoddhfabeiimkaa", sum := "a3c9cc13b4e8cfa0708238d821c8d37941bbf6d810963ae6e3e0a434164609e7", checked := Try.checked }
namespace Rows
def none {H : Type} : Left H := { results := [], args := [] }

/-- 'forkwrightkeep.DequeOnce': WHATEVER THE INPUT: true; the input reads as it did. -/
def dequeOnceSpec : ChangeSpec := { name := "dequeOnce", fn := fun _ => fun
  | [d] => { results := [.lit (.bool true)], args := [d] }
  | _ => none }
def dequeOnceRow : OpenClaim := { program := "ytoddhfabeiimkaa", sum := "a3c9cc13b4e8cfa0708238d821c8d37941bbf6d810963ae6e3e0a434164609e7", func := "forkwright/forkwrightkeep.DequeOnce", spec := "dequeOnce", unfollowed := true, recurses := true, apart := false }
def DequeOnceSaid : Prop := dequeOnceRow.holds Try.pinned (OpenSpec.ofChange dequeOnceSpec)

/-- ITS FALSE NEIGHBOUR: 'it returns false'. Refute it at one input. -/
def dequeOnceWrong : ChangeSpec := { name := "dequeOnce", fn := fun _ => fun
  | [d] => { results := [.lit (.bool false)], args := [d] }
  | _ => none }
def DequeOnceWrongFalsely : Prop := dequeOnceRow.holds Try.pinned (OpenSpec.ofChange dequeOnceWrong)

/-- 'forkwrightkeep.HbOrder': WHATEVER THE INPUT: true; the input reads as it did. -/
def hbOrderSpec : ChangeSpec := { name := "hbOrder", fn := fun _ => fun
  | [d1, d2, d3, d4] => { results := [.lit (.bool true)], args := [d1, d2, d3, d4] }
  | _ => none }
def hbOrderRow : OpenClaim := { program := "ytoddhfabeiimkaa", sum := "a3c9cc13b4e8cfa0708238d821c8d37941bbf6d810963ae6e3e0a434164609e7", func := "forkwright/forkwrightkeep.HbOrder", spec := "hbOrder", recurses := true, apart := false }
def HbOrderSaid : Prop := hbOrderRow.holds Try.pinned (OpenSpec.ofChange hbOrderSpec)

/-- ITS FALSE NEIGHBOUR: 'it returns false'. Refute it at one input. -/
def hbOrderWrong : ChangeSpec := { name := "hbOrder", fn := fun _ => fun
  | [d1, d2, d3, d4] => { results := [.lit (.bool false)], args := [d1, d2, d3, d4] }
  | _ => none }
def HbOrderWrongFalsely : Prop := hbOrderRow.holds Try.pinned (OpenSpec.ofChange hbOrderWrong)

/-- 'forkwrightkeep.HbVector': WHATEVER THE INPUT: true; the input reads as it did. -/
def hbVectorSpec : ChangeSpec := { name := "hbVector", fn := fun _ => fun
  | [d1, d2, d3] => { results := [.lit (.bool true)], args := [d1, d2, d3] }
  | _ => none }
def hbVectorRow : OpenClaim := { program := "ytoddhfabeiimkaa", sum := "a3c9cc13b4e8cfa0708238d821c8d37941bbf6d810963ae6e3e0a434164609e7", func := "forkwright/forkwrightkeep.HbVector", spec := "hbVector", recurses := true, apart := false }
def HbVectorSaid : Prop := hbVectorRow.holds Try.pinned (OpenSpec.ofChange hbVectorSpec)

/-- ITS FALSE NEIGHBOUR: 'it returns false'. Refute it at one input. -/
def hbVectorWrong : ChangeSpec := { name := "hbVector", fn := fun _ => fun
  | [d1, d2, d3] => { results := [.lit (.bool false)], args := [d1, d2, d3] }
  | _ => none }
def HbVectorWrongFalsely : Prop := hbVectorRow.holds Try.pinned (OpenSpec.ofChange hbVectorWrong)

/- THE SECOND FORM. 'bulk': how many values and letters a reading holds, each counted each time it is reached (what is shared counts as often as it is met; a slice's spare places count too). A statement '..UptoSaid' is the law's where the arguments, and the package variables that the reading takes, are together of bulk at most 1048576: NARROWER than '..Said'. Prove '..Said' where nothing that the law and all that it calls make is longer than what came in: it says more and counts as full. Else prove '..UptoSaid'. A law counts once. -/
mutual
def uptoBulk {H : Type} : DataW H → Nat
  | .lit (.string bytes) => bytes.length + 1
  | .lit _ => 1
  | .nil => 1
  | .ptr d => uptoBulk d + 1
  | .slice elems spare => uptoBulkAll elems + uptoBulkAll spare + 1
  | .agg parts => uptoBulkAll parts + 1
  | .iface _ d => uptoBulk d + 1
  | .map entries => uptoBulkEntries entries + 1
  | .held _ => 1
def uptoBulkAll {H : Type} : List (DataW H) → Nat
  | [] => 0
  | d :: r => uptoBulk d + uptoBulkAll r
def uptoBulkEntries {H : Type} : List (Lit × DataW H) → Nat
  | [] => 0
  | x :: r => uptoBulkEntry x + uptoBulkEntries r
def uptoBulkEntry {H : Type} : Lit × DataW H → Nat
  | (.string bytes, d) => bytes.length + uptoBulk d + 1
  | (_, d) => uptoBulk d + 1
 end
def uptoSmall : (H : Type) → List (DataW H) → Bool := fun _ ds => decide (uptoBulkAll ds ≤ 1048576)
def OpenSpec.upto (s : _root_.Go.ChangeSpec) : _root_.Go.OpenSpec := { _root_.Go.OpenSpec.ofChange s with cond := some uptoSmall }

/-- 'forkwrightkeep.DequeOnce', WHERE WHAT IT READS IS OF BULK AT MOST 1048576: true; the input reads as it did. -/
def dequeOnceUptoRow : OpenClaim := { program := "ytoddhfabeiimkaa", sum := "a3c9cc13b4e8cfa0708238d821c8d37941bbf6d810963ae6e3e0a434164609e7", func := "forkwright/forkwrightkeep.DequeOnce", spec := "dequeOnce", unfollowed := true, recurses := true, apart := false, narrowed := true }
def DequeOnceUptoSaid : Prop := dequeOnceUptoRow.holds Try.pinned (OpenSpec.upto dequeOnceSpec)

/-- 'forkwrightkeep.HbOrder', WHERE WHAT IT READS IS OF BULK AT MOST 1048576: true; the input reads as it did. -/
def hbOrderUptoRow : OpenClaim := { program := "ytoddhfabeiimkaa", sum := "a3c9cc13b4e8cfa0708238d821c8d37941bbf6d810963ae6e3e0a434164609e7", func := "forkwright/forkwrightkeep.HbOrder", spec := "hbOrder", recurses := true, apart := false, narrowed := true }
def HbOrderUptoSaid : Prop := hbOrderUptoRow.holds Try.pinned (OpenSpec.upto hbOrderSpec)

/-- 'forkwrightkeep.HbVector', WHERE WHAT IT READS IS OF BULK AT MOST 1048576: true; the input reads as it did. -/
def hbVectorUptoRow : OpenClaim := { program := "ytoddhfabeiimkaa", sum := "a3c9cc13b4e8cfa0708238d821c8d37941bbf6d810963ae6e3e0a434164609e7", func := "forkwright/forkwrightkeep.HbVector", spec := "hbVector", recurses := true, apart := false, narrowed := true }
def HbVectorUptoSaid : Prop := hbVectorUptoRow.holds Try.pinned (OpenSpec.upto hbVectorSpec)

end Rows
end Go.Proofs.Ytoddhfabeiimkaa
