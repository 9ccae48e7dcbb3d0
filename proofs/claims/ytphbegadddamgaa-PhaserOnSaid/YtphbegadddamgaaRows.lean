/-
  No cell of these rows narrows 'for every input' (looked for: loops, veiled, ifaces, maps, wideKeys, modest, calm, conditions, laid).
  DERIVED. THE GIVEN ROWS OF THIS SEAT. 12 by the template 'for every input the law returns true; each argument reads behind the call as it read before'; 0 by the template 'total and deterministic' (their statements: YtphbegadddamgaaTotals.lean).
  GIVEN WITH THE SEED: the statements are not yours to turn. If you find one false, say at which input.
  Laid BY PROGRAM, IN A SANDBOX (cutbox-rows.mjs): the forced cells as the released guide's own fill.sh prints them over the translation 30fe9861b6cfad8e… (all of the seat's roots in one cut). By AI agents, Wed Nov 11 2026. No macro, syntax, notation, axiom, sorry.
-/
import Derived.Test.YtphbegadddamgaaChecked
import GoSem.Claim
import GoSem.ClaimJoined
import GoSem.ClaimMapViews
import Derived.JoinedTies
import Derived.KernelRfl
namespace Go.Proofs.Ytphbegadddamgaa
/- THE CELL 'sum', in the pinned program and in every row, IS THE sha256 OF THE DUMP (.gsa) THAT YtphbegadddamgaaProg.lean LOADS. Nothing in Lean hashes anything: it is a label: what it is worth is what the hold of that sum in a sandbox is worth. -/
noncomputable def Try.pinned : Pinned := { name := "ytphbegadddamgaa", sum := "30fe9861b6cfad8ebce0090e3ade1df9d49db20abea3adb1a11dbb4c38e4387b", checked := Try.checked }
namespace Rows
def none {H : Type} : Left H := { results := [], args := [] }

/-- 'forkwrightkeep.VectorJoins': WHATEVER THE INPUT: true; the input reads as it did. -/
def vectorJoinsSpec : ChangeSpec := { name := "vectorJoins", fn := fun _ => fun
  | [d1, d2, d3] => { results := [.lit (.bool true)], args := [d1, d2, d3] }
  | _ => none }
def vectorJoinsRow : OpenClaim := { program := "ytphbegadddamgaa", sum := "30fe9861b6cfad8ebce0090e3ade1df9d49db20abea3adb1a11dbb4c38e4387b", func := "forkwright/forkwrightkeep.VectorJoins", spec := "vectorJoins", apart := false }
def VectorJoinsSaid : Prop := vectorJoinsRow.holds Try.pinned (OpenSpec.ofChange vectorJoinsSpec)

/-- ITS FALSE NEIGHBOUR: 'it returns false'. Refute it at one input. -/
def vectorJoinsWrong : ChangeSpec := { name := "vectorJoins", fn := fun _ => fun
  | [d1, d2, d3] => { results := [.lit (.bool false)], args := [d1, d2, d3] }
  | _ => none }
def VectorJoinsWrongFalsely : Prop := vectorJoinsRow.holds Try.pinned (OpenSpec.ofChange vectorJoinsWrong)

/-- 'forkwrightkeep.VectorOrder': WHATEVER THE INPUT: true; the input reads as it did. -/
def vectorOrderSpec : ChangeSpec := { name := "vectorOrder", fn := fun _ => fun
  | [d1, d2, d3] => { results := [.lit (.bool true)], args := [d1, d2, d3] }
  | _ => none }
def vectorOrderRow : OpenClaim := { program := "ytphbegadddamgaa", sum := "30fe9861b6cfad8ebce0090e3ade1df9d49db20abea3adb1a11dbb4c38e4387b", func := "forkwright/forkwrightkeep.VectorOrder", spec := "vectorOrder", apart := false }
def VectorOrderSaid : Prop := vectorOrderRow.holds Try.pinned (OpenSpec.ofChange vectorOrderSpec)

/-- ITS FALSE NEIGHBOUR: 'it returns false'. Refute it at one input. -/
def vectorOrderWrong : ChangeSpec := { name := "vectorOrder", fn := fun _ => fun
  | [d1, d2, d3] => { results := [.lit (.bool false)], args := [d1, d2, d3] }
  | _ => none }
def VectorOrderWrongFalsely : Prop := vectorOrderRow.holds Try.pinned (OpenSpec.ofChange vectorOrderWrong)

/-- 'forkwrightkeep.VectorTicks': WHATEVER THE INPUT: true; the input reads as it did. -/
def vectorTicksSpec : ChangeSpec := { name := "vectorTicks", fn := fun _ => fun
  | [d1, d2, d3] => { results := [.lit (.bool true)], args := [d1, d2, d3] }
  | _ => none }
def vectorTicksRow : OpenClaim := { program := "ytphbegadddamgaa", sum := "30fe9861b6cfad8ebce0090e3ade1df9d49db20abea3adb1a11dbb4c38e4387b", func := "forkwright/forkwrightkeep.VectorTicks", spec := "vectorTicks", apart := false }
def VectorTicksSaid : Prop := vectorTicksRow.holds Try.pinned (OpenSpec.ofChange vectorTicksSpec)

/-- ITS FALSE NEIGHBOUR: 'it returns false'. Refute it at one input. -/
def vectorTicksWrong : ChangeSpec := { name := "vectorTicks", fn := fun _ => fun
  | [d1, d2, d3] => { results := [.lit (.bool false)], args := [d1, d2, d3] }
  | _ => none }
def VectorTicksWrongFalsely : Prop := vectorTicksRow.holds Try.pinned (OpenSpec.ofChange vectorTicksWrong)

/-- 'forkwrightkeep.PhaserDrop': WHATEVER THE INPUT: true; the input reads as it did. -/
def phaserDropSpec : ChangeSpec := { name := "phaserDrop", fn := fun _ => fun
  | [d] => { results := [.lit (.bool true)], args := [d] }
  | _ => none }
def phaserDropRow : OpenClaim := { program := "ytphbegadddamgaa", sum := "30fe9861b6cfad8ebce0090e3ade1df9d49db20abea3adb1a11dbb4c38e4387b", func := "forkwright/forkwrightkeep.PhaserDrop", spec := "phaserDrop", apart := false }
def PhaserDropSaid : Prop := phaserDropRow.holds Try.pinned (OpenSpec.ofChange phaserDropSpec)

/-- ITS FALSE NEIGHBOUR: 'it returns false'. Refute it at one input. -/
def phaserDropWrong : ChangeSpec := { name := "phaserDrop", fn := fun _ => fun
  | [d] => { results := [.lit (.bool false)], args := [d] }
  | _ => none }
def PhaserDropWrongFalsely : Prop := phaserDropRow.holds Try.pinned (OpenSpec.ofChange phaserDropWrong)

/-- 'forkwrightkeep.PhaserLive': WHATEVER THE INPUT: true; the input reads as it did. -/
def phaserLiveSpec : ChangeSpec := { name := "phaserLive", fn := fun _ => fun
  | [d] => { results := [.lit (.bool true)], args := [d] }
  | _ => none }
def phaserLiveRow : OpenClaim := { program := "ytphbegadddamgaa", sum := "30fe9861b6cfad8ebce0090e3ade1df9d49db20abea3adb1a11dbb4c38e4387b", func := "forkwright/forkwrightkeep.PhaserLive", spec := "phaserLive", apart := false }
def PhaserLiveSaid : Prop := phaserLiveRow.holds Try.pinned (OpenSpec.ofChange phaserLiveSpec)

/-- ITS FALSE NEIGHBOUR: 'it returns false'. Refute it at one input. -/
def phaserLiveWrong : ChangeSpec := { name := "phaserLive", fn := fun _ => fun
  | [d] => { results := [.lit (.bool false)], args := [d] }
  | _ => none }
def PhaserLiveWrongFalsely : Prop := phaserLiveRow.holds Try.pinned (OpenSpec.ofChange phaserLiveWrong)

/-- 'forkwrightkeep.PhaserOn': WHATEVER THE INPUT: true; the input reads as it did. -/
def phaserOnSpec : ChangeSpec := { name := "phaserOn", fn := fun _ => fun
  | [d] => { results := [.lit (.bool true)], args := [d] }
  | _ => none }
def phaserOnRow : OpenClaim := { program := "ytphbegadddamgaa", sum := "30fe9861b6cfad8ebce0090e3ade1df9d49db20abea3adb1a11dbb4c38e4387b", func := "forkwright/forkwrightkeep.PhaserOn", spec := "phaserOn", apart := false }
def PhaserOnSaid : Prop := phaserOnRow.holds Try.pinned (OpenSpec.ofChange phaserOnSpec)

/-- ITS FALSE NEIGHBOUR: 'it returns false'. Refute it at one input. -/
def phaserOnWrong : ChangeSpec := { name := "phaserOn", fn := fun _ => fun
  | [d] => { results := [.lit (.bool false)], args := [d] }
  | _ => none }
def PhaserOnWrongFalsely : Prop := phaserOnRow.holds Try.pinned (OpenSpec.ofChange phaserOnWrong)

/-- 'forkwrightkeep.DequeEnds': WHATEVER THE INPUT: true; the input reads as it did. -/
def dequeEndsSpec : ChangeSpec := { name := "dequeEnds", fn := fun _ => fun
  | [d1, d2] => { results := [.lit (.bool true)], args := [d1, d2] }
  | _ => none }
def dequeEndsRow : OpenClaim := { program := "ytphbegadddamgaa", sum := "30fe9861b6cfad8ebce0090e3ade1df9d49db20abea3adb1a11dbb4c38e4387b", func := "forkwright/forkwrightkeep.DequeEnds", spec := "dequeEnds", unfollowed := true, recurses := true, apart := false }
def DequeEndsSaid : Prop := dequeEndsRow.holds Try.pinned (OpenSpec.ofChange dequeEndsSpec)

/-- ITS FALSE NEIGHBOUR: 'it returns false'. Refute it at one input. -/
def dequeEndsWrong : ChangeSpec := { name := "dequeEnds", fn := fun _ => fun
  | [d1, d2] => { results := [.lit (.bool false)], args := [d1, d2] }
  | _ => none }
def DequeEndsWrongFalsely : Prop := dequeEndsRow.holds Try.pinned (OpenSpec.ofChange dequeEndsWrong)

/-- 'forkwrightkeep.DequeTwo': WHATEVER THE INPUT: true; the input reads as it did. -/
def dequeTwoSpec : ChangeSpec := { name := "dequeTwo", fn := fun _ => fun
  | [d] => { results := [.lit (.bool true)], args := [d] }
  | _ => none }
def dequeTwoRow : OpenClaim := { program := "ytphbegadddamgaa", sum := "30fe9861b6cfad8ebce0090e3ade1df9d49db20abea3adb1a11dbb4c38e4387b", func := "forkwright/forkwrightkeep.DequeTwo", spec := "dequeTwo", unfollowed := true, recurses := true, apart := false }
def DequeTwoSaid : Prop := dequeTwoRow.holds Try.pinned (OpenSpec.ofChange dequeTwoSpec)

/-- ITS FALSE NEIGHBOUR: 'it returns false'. Refute it at one input. -/
def dequeTwoWrong : ChangeSpec := { name := "dequeTwo", fn := fun _ => fun
  | [d] => { results := [.lit (.bool false)], args := [d] }
  | _ => none }
def DequeTwoWrongFalsely : Prop := dequeTwoRow.holds Try.pinned (OpenSpec.ofChange dequeTwoWrong)

/-- 'forkwrightkeep.UfindSame': WHATEVER THE INPUT: true; the input reads as it did. -/
def ufindSameSpec : ChangeSpec := { name := "ufindSame", fn := fun _ => fun
  | [d1, d2, d3, d4, d5] => { results := [.lit (.bool true)], args := [d1, d2, d3, d4, d5] }
  | _ => none }
def ufindSameRow : OpenClaim := { program := "ytphbegadddamgaa", sum := "30fe9861b6cfad8ebce0090e3ade1df9d49db20abea3adb1a11dbb4c38e4387b", func := "forkwright/forkwrightkeep.UfindSame", spec := "ufindSame", unfollowed := true, recurses := true, apart := false }
def UfindSameSaid : Prop := ufindSameRow.holds Try.pinned (OpenSpec.ofChange ufindSameSpec)

/-- ITS FALSE NEIGHBOUR: 'it returns false'. Refute it at one input. -/
def ufindSameWrong : ChangeSpec := { name := "ufindSame", fn := fun _ => fun
  | [d1, d2, d3, d4, d5] => { results := [.lit (.bool false)], args := [d1, d2, d3, d4, d5] }
  | _ => none }
def UfindSameWrongFalsely : Prop := ufindSameRow.holds Try.pinned (OpenSpec.ofChange ufindSameWrong)

/-- 'forkwrightkeep.UfindCount': WHATEVER THE INPUT: true; the input reads as it did. -/
def ufindCountSpec : ChangeSpec := { name := "ufindCount", fn := fun _ => fun
  | [d1, d2] => { results := [.lit (.bool true)], args := [d1, d2] }
  | _ => none }
def ufindCountRow : OpenClaim := { program := "ytphbegadddamgaa", sum := "30fe9861b6cfad8ebce0090e3ade1df9d49db20abea3adb1a11dbb4c38e4387b", func := "forkwright/forkwrightkeep.UfindCount", spec := "ufindCount", apart := false }
def UfindCountSaid : Prop := ufindCountRow.holds Try.pinned (OpenSpec.ofChange ufindCountSpec)

/-- ITS FALSE NEIGHBOUR: 'it returns false'. Refute it at one input. -/
def ufindCountWrong : ChangeSpec := { name := "ufindCount", fn := fun _ => fun
  | [d1, d2] => { results := [.lit (.bool false)], args := [d1, d2] }
  | _ => none }
def UfindCountWrongFalsely : Prop := ufindCountRow.holds Try.pinned (OpenSpec.ofChange ufindCountWrong)

/-- 'forkwrightkeep.PhaserArrive': WHATEVER THE INPUT: true; the input reads as it did. -/
def phaserArriveSpec : ChangeSpec := { name := "phaserArrive", fn := fun _ => fun
  | [d1, d2] => { results := [.lit (.bool true)], args := [d1, d2] }
  | _ => none }
def phaserArriveRow : OpenClaim := { program := "ytphbegadddamgaa", sum := "30fe9861b6cfad8ebce0090e3ade1df9d49db20abea3adb1a11dbb4c38e4387b", func := "forkwright/forkwrightkeep.PhaserArrive", spec := "phaserArrive", apart := false }
def PhaserArriveSaid : Prop := phaserArriveRow.holds Try.pinned (OpenSpec.ofChange phaserArriveSpec)

/-- ITS FALSE NEIGHBOUR: 'it returns false'. Refute it at one input. -/
def phaserArriveWrong : ChangeSpec := { name := "phaserArrive", fn := fun _ => fun
  | [d1, d2] => { results := [.lit (.bool false)], args := [d1, d2] }
  | _ => none }
def PhaserArriveWrongFalsely : Prop := phaserArriveRow.holds Try.pinned (OpenSpec.ofChange phaserArriveWrong)

/-- 'forkwrightkeep.UfindOrder': WHATEVER THE INPUT: true; the input reads as it did. -/
def ufindOrderSpec : ChangeSpec := { name := "ufindOrder", fn := fun _ => fun
  | [d1, d2, d3, d4] => { results := [.lit (.bool true)], args := [d1, d2, d3, d4] }
  | _ => none }
def ufindOrderRow : OpenClaim := { program := "ytphbegadddamgaa", sum := "30fe9861b6cfad8ebce0090e3ade1df9d49db20abea3adb1a11dbb4c38e4387b", func := "forkwright/forkwrightkeep.UfindOrder", spec := "ufindOrder", apart := false }
def UfindOrderSaid : Prop := ufindOrderRow.holds Try.pinned (OpenSpec.ofChange ufindOrderSpec)

/-- ITS FALSE NEIGHBOUR: 'it returns false'. Refute it at one input. -/
def ufindOrderWrong : ChangeSpec := { name := "ufindOrder", fn := fun _ => fun
  | [d1, d2, d3, d4] => { results := [.lit (.bool false)], args := [d1, d2, d3, d4] }
  | _ => none }
def UfindOrderWrongFalsely : Prop := ufindOrderRow.holds Try.pinned (OpenSpec.ofChange ufindOrderWrong)

/- THE SECOND FORM. 'bulk': how many values and letters a reading holds, each counted each time it is reached (what is shared counts as often as it is met; a slice's spare places count too). A statement '..UptoSaid' is the law's where the arguments, and the package variables that the reading takes, are together of bulk at most 1048576: NARROWER than '..Said'. Prove '..Said' where nothing that the law and all that it calls make is longer than what came in: it says more and counts as full. Else prove '..UptoSaid'. A law counts once. -/
mutual
def uptoBulk {H : Type} : DataW H → Nat
  | .lit (.string bytes) => bytes.length + 1
  | .lit _ => 1
  | .nil => 1
  | .ptr d => uptoBulk d + 1
  | .slice elems spare => uptoBulkAll elems + uptoBulkAll spare + 1
  | .agg parts => uptoBulkAll parts + 1
  | .iface _ d => uptoBulk d + 1
  | .map entries => uptoBulkEntries entries + 1
  | .held _ => 1
def uptoBulkAll {H : Type} : List (DataW H) → Nat
  | [] => 0
  | d :: r => uptoBulk d + uptoBulkAll r
def uptoBulkEntries {H : Type} : List (Lit × DataW H) → Nat
  | [] => 0
  | x :: r => uptoBulkEntry x + uptoBulkEntries r
def uptoBulkEntry {H : Type} : Lit × DataW H → Nat
  | (.string bytes, d) => bytes.length + uptoBulk d + 1
  | (_, d) => uptoBulk d + 1
 end
def uptoSmall : (H : Type) → List (DataW H) → Bool := fun _ ds => decide (uptoBulkAll ds ≤ 1048576)
def OpenSpec.upto (s : _root_.Go.ChangeSpec) : _root_.Go.OpenSpec := { _root_.Go.OpenSpec.ofChange s with cond := some uptoSmall }

/-- 'forkwrightkeep.VectorJoins', WHERE WHAT IT READS IS OF BULK AT MOST 1048576: true; the input reads as it did. -/
def vectorJoinsUptoRow : OpenClaim := { program := "ytphbegadddamgaa", sum := "30fe9861b6cfad8ebce0090e3ade1df9d49db20abea3adb1a11dbb4c38e4387b", func := "forkwright/forkwrightkeep.VectorJoins", spec := "vectorJoins", apart := false, narrowed := true }
def VectorJoinsUptoSaid : Prop := vectorJoinsUptoRow.holds Try.pinned (OpenSpec.upto vectorJoinsSpec)

/-- 'forkwrightkeep.VectorOrder', WHERE WHAT IT READS IS OF BULK AT MOST 1048576: true; the input reads as it did. -/
def vectorOrderUptoRow : OpenClaim := { program := "ytphbegadddamgaa", sum := "30fe9861b6cfad8ebce0090e3ade1df9d49db20abea3adb1a11dbb4c38e4387b", func := "forkwright/forkwrightkeep.VectorOrder", spec := "vectorOrder", apart := false, narrowed := true }
def VectorOrderUptoSaid : Prop := vectorOrderUptoRow.holds Try.pinned (OpenSpec.upto vectorOrderSpec)

/-- 'forkwrightkeep.VectorTicks', WHERE WHAT IT READS IS OF BULK AT MOST 1048576: true; the input reads as it did. -/
def vectorTicksUptoRow : OpenClaim := { program := "ytphbegadddamgaa", sum := "30fe9861b6cfad8ebce0090e3ade1df9d49db20abea3adb1a11dbb4c38e4387b", func := "forkwright/forkwrightkeep.VectorTicks", spec := "vectorTicks", apart := false, narrowed := true }
def VectorTicksUptoSaid : Prop := vectorTicksUptoRow.holds Try.pinned (OpenSpec.upto vectorTicksSpec)

/-- 'forkwrightkeep.PhaserDrop', WHERE WHAT IT READS IS OF BULK AT MOST 1048576: true; the input reads as it did. -/
def phaserDropUptoRow : OpenClaim := { program := "ytphbegadddamgaa", sum := "30fe9861b6cfad8ebce0090e3ade1df9d49db20abea3adb1a11dbb4c38e4387b", func := "forkwright/forkwrightkeep.PhaserDrop", spec := "phaserDrop", apart := false, narrowed := true }
def PhaserDropUptoSaid : Prop := phaserDropUptoRow.holds Try.pinned (OpenSpec.upto phaserDropSpec)

/-- 'forkwrightkeep.PhaserLive', WHERE WHAT IT READS IS OF BULK AT MOST 1048576: true; the input reads as it did. -/
def phaserLiveUptoRow : OpenClaim := { program := "ytphbegadddamgaa", sum := "30fe9861b6cfad8ebce0090e3ade1df9d49db20abea3adb1a11dbb4c38e4387b", func := "forkwright/forkwrightkeep.PhaserLive", spec := "phaserLive", apart := false, narrowed := true }
def PhaserLiveUptoSaid : Prop := phaserLiveUptoRow.holds Try.pinned (OpenSpec.upto phaserLiveSpec)

/-- 'forkwrightkeep.PhaserOn', WHERE WHAT IT READS IS OF BULK AT MOST 1048576: true; the input reads as it did. -/
def phaserOnUptoRow : OpenClaim := { program := "ytphbegadddamgaa", sum := "30fe9861b6cfad8ebce0090e3ade1df9d49db20abea3adb1a11dbb4c38e4387b", func := "forkwright/forkwrightkeep.PhaserOn", spec := "phaserOn", apart := false, narrowed := true }
def PhaserOnUptoSaid : Prop := phaserOnUptoRow.holds Try.pinned (OpenSpec.upto phaserOnSpec)

/-- 'forkwrightkeep.DequeEnds', WHERE WHAT IT READS IS OF BULK AT MOST 1048576: true; the input reads as it did. -/
def dequeEndsUptoRow : OpenClaim := { program := "ytphbegadddamgaa", sum := "30fe9861b6cfad8ebce0090e3ade1df9d49db20abea3adb1a11dbb4c38e4387b", func := "forkwright/forkwrightkeep.DequeEnds", spec := "dequeEnds", unfollowed := true, recurses := true, apart := false, narrowed := true }
def DequeEndsUptoSaid : Prop := dequeEndsUptoRow.holds Try.pinned (OpenSpec.upto dequeEndsSpec)

/-- 'forkwrightkeep.DequeTwo', WHERE WHAT IT READS IS OF BULK AT MOST 1048576: true; the input reads as it did. -/
def dequeTwoUptoRow : OpenClaim := { program := "ytphbegadddamgaa", sum := "30fe9861b6cfad8ebce0090e3ade1df9d49db20abea3adb1a11dbb4c38e4387b", func := "forkwright/forkwrightkeep.DequeTwo", spec := "dequeTwo", unfollowed := true, recurses := true, apart := false, narrowed := true }
def DequeTwoUptoSaid : Prop := dequeTwoUptoRow.holds Try.pinned (OpenSpec.upto dequeTwoSpec)

/-- 'forkwrightkeep.UfindSame', WHERE WHAT IT READS IS OF BULK AT MOST 1048576: true; the input reads as it did. -/
def ufindSameUptoRow : OpenClaim := { program := "ytphbegadddamgaa", sum := "30fe9861b6cfad8ebce0090e3ade1df9d49db20abea3adb1a11dbb4c38e4387b", func := "forkwright/forkwrightkeep.UfindSame", spec := "ufindSame", unfollowed := true, recurses := true, apart := false, narrowed := true }
def UfindSameUptoSaid : Prop := ufindSameUptoRow.holds Try.pinned (OpenSpec.upto ufindSameSpec)

/-- 'forkwrightkeep.UfindCount', WHERE WHAT IT READS IS OF BULK AT MOST 1048576: true; the input reads as it did. -/
def ufindCountUptoRow : OpenClaim := { program := "ytphbegadddamgaa", sum := "30fe9861b6cfad8ebce0090e3ade1df9d49db20abea3adb1a11dbb4c38e4387b", func := "forkwright/forkwrightkeep.UfindCount", spec := "ufindCount", apart := false, narrowed := true }
def UfindCountUptoSaid : Prop := ufindCountUptoRow.holds Try.pinned (OpenSpec.upto ufindCountSpec)

/-- 'forkwrightkeep.PhaserArrive', WHERE WHAT IT READS IS OF BULK AT MOST 1048576: true; the input reads as it did. -/
def phaserArriveUptoRow : OpenClaim := { program := "ytphbegadddamgaa", sum := "30fe9861b6cfad8ebce0090e3ade1df9d49db20abea3adb1a11dbb4c38e4387b", func := "forkwright/forkwrightkeep.PhaserArrive", spec := "phaserArrive", apart := false, narrowed := true }
def PhaserArriveUptoSaid : Prop := phaserArriveUptoRow.holds Try.pinned (OpenSpec.upto phaserArriveSpec)

/-- 'forkwrightkeep.UfindOrder', WHERE WHAT IT READS IS OF BULK AT MOST 1048576: true; the input reads as it did. -/
def ufindOrderUptoRow : OpenClaim := { program := "ytphbegadddamgaa", sum := "30fe9861b6cfad8ebce0090e3ade1df9d49db20abea3adb1a11dbb4c38e4387b", func := "forkwright/forkwrightkeep.UfindOrder", spec := "ufindOrder", apart := false, narrowed := true }
def UfindOrderUptoSaid : Prop := ufindOrderUptoRow.holds Try.pinned (OpenSpec.upto ufindOrderSpec)

end Rows
end Go.Proofs.Ytphbegadddamgaa
