/-
  NARROWER THAN 'FOR EVERY INPUT', by the rows' own cells (each row's printed sentence says how): StealBusy: loops · StealAlone: loops · StealEnds: loops · StealOnce: loops · SerialFuel: loops · SerialKept: loops · SerialSame: loops · SerialParts: loops.
  DERIVED. THE GIVEN ROWS OF THIS SEAT. 8 by the template 'for every input the law returns true; each argument reads behind the call as it read before'; 0 by the template 'total and deterministic' (their statements: YtajddbmmbhdnfaaTotals.lean).
  GIVEN WITH THE SEED: the statements are not yours to turn. If you find one false, say at which input.
  Laid BY PROGRAM, IN A SANDBOX (cutbox-rows.mjs): the forced cells as the released guide's own fill.sh prints them over the translation 870a0216e0ce93ab… (all of the seat's roots in one cut). By AI agents, Wed Nov 11 2026. No macro, syntax, notation, axiom, sorry.
-/
import Derived.Test.YtajddbmmbhdnfaaChecked
import GoSem.Claim
import GoSem.ClaimJoined
import GoSem.ClaimMapViews
import Derived.JoinedTies
import Derived.KernelRfl
namespace Go.Proofs.Ytajddbmmbhdnfaa
/- THE CELL 'sum', in the pinned program and in every row, IS THE sha256 OF THE DUMP (.gsa) THAT YtajddbmmbhdnfaaProg.lean LOADS. Nothing in Lean hashes anything: it is a label: what it is worth is what the hold of that sum in a sandbox is worth. -/
noncomputable def Try.pinned : Pinned := { name := "ytajddbmmbhdnfaa", sum := "870a0216e0ce93ab6a79d2aa68f10ba6e39c54902839146981097950bc599cf7", checked := Try.checked }
namespace Rows
def none {H : Type} : Left H := { results := [], args := [] }

/-- 'forkwrightkeep.StealBusy': WHATEVER THE INPUT: true; the input reads as it did. -/
def stealBusySpec : ChangeSpec := { name := "stealBusy", fn := fun _ => fun
  | [d1, d2, d3, d4] => { results := [.lit (.bool true)], args := [d1, d2, d3, d4] }
  | _ => none }
def stealBusyRow : OpenClaim := { program := "ytajddbmmbhdnfaa", sum := "870a0216e0ce93ab6a79d2aa68f10ba6e39c54902839146981097950bc599cf7", func := "forkwright/forkwrightkeep.StealBusy", spec := "stealBusy", recurses := true, loops := true, apart := false }
def StealBusySaid : Prop := stealBusyRow.holds Try.pinned (OpenSpec.ofChange stealBusySpec)

/-- ITS FALSE NEIGHBOUR: 'it returns false'. Refute it at one input. -/
def stealBusyWrong : ChangeSpec := { name := "stealBusy", fn := fun _ => fun
  | [d1, d2, d3, d4] => { results := [.lit (.bool false)], args := [d1, d2, d3, d4] }
  | _ => none }
def StealBusyWrongFalsely : Prop := stealBusyRow.holds Try.pinned (OpenSpec.ofChange stealBusyWrong)

/-- 'forkwrightkeep.StealAlone': WHATEVER THE INPUT: true; the input reads as it did. -/
def stealAloneSpec : ChangeSpec := { name := "stealAlone", fn := fun _ => fun
  | [d1, d2] => { results := [.lit (.bool true)], args := [d1, d2] }
  | _ => none }
def stealAloneRow : OpenClaim := { program := "ytajddbmmbhdnfaa", sum := "870a0216e0ce93ab6a79d2aa68f10ba6e39c54902839146981097950bc599cf7", func := "forkwright/forkwrightkeep.StealAlone", spec := "stealAlone", unfollowed := true, recurses := true, loops := true, apart := false }
def StealAloneSaid : Prop := stealAloneRow.holds Try.pinned (OpenSpec.ofChange stealAloneSpec)

/-- ITS FALSE NEIGHBOUR: 'it returns false'. Refute it at one input. -/
def stealAloneWrong : ChangeSpec := { name := "stealAlone", fn := fun _ => fun
  | [d1, d2] => { results := [.lit (.bool false)], args := [d1, d2] }
  | _ => none }
def StealAloneWrongFalsely : Prop := stealAloneRow.holds Try.pinned (OpenSpec.ofChange stealAloneWrong)

/-- 'forkwrightkeep.StealEnds': WHATEVER THE INPUT: true; the input reads as it did. -/
def stealEndsSpec : ChangeSpec := { name := "stealEnds", fn := fun _ => fun
  | [d1, d2, d3] => { results := [.lit (.bool true)], args := [d1, d2, d3] }
  | _ => none }
def stealEndsRow : OpenClaim := { program := "ytajddbmmbhdnfaa", sum := "870a0216e0ce93ab6a79d2aa68f10ba6e39c54902839146981097950bc599cf7", func := "forkwright/forkwrightkeep.StealEnds", spec := "stealEnds", unfollowed := true, recurses := true, loops := true, apart := false }
def StealEndsSaid : Prop := stealEndsRow.holds Try.pinned (OpenSpec.ofChange stealEndsSpec)

/-- ITS FALSE NEIGHBOUR: 'it returns false'. Refute it at one input. -/
def stealEndsWrong : ChangeSpec := { name := "stealEnds", fn := fun _ => fun
  | [d1, d2, d3] => { results := [.lit (.bool false)], args := [d1, d2, d3] }
  | _ => none }
def StealEndsWrongFalsely : Prop := stealEndsRow.holds Try.pinned (OpenSpec.ofChange stealEndsWrong)

/-- 'forkwrightkeep.StealOnce': WHATEVER THE INPUT: true; the input reads as it did. -/
def stealOnceSpec : ChangeSpec := { name := "stealOnce", fn := fun _ => fun
  | [d1, d2, d3] => { results := [.lit (.bool true)], args := [d1, d2, d3] }
  | _ => none }
def stealOnceRow : OpenClaim := { program := "ytajddbmmbhdnfaa", sum := "870a0216e0ce93ab6a79d2aa68f10ba6e39c54902839146981097950bc599cf7", func := "forkwright/forkwrightkeep.StealOnce", spec := "stealOnce", unfollowed := true, recurses := true, loops := true, apart := false }
def StealOnceSaid : Prop := stealOnceRow.holds Try.pinned (OpenSpec.ofChange stealOnceSpec)

/-- ITS FALSE NEIGHBOUR: 'it returns false'. Refute it at one input. -/
def stealOnceWrong : ChangeSpec := { name := "stealOnce", fn := fun _ => fun
  | [d1, d2, d3] => { results := [.lit (.bool false)], args := [d1, d2, d3] }
  | _ => none }
def StealOnceWrongFalsely : Prop := stealOnceRow.holds Try.pinned (OpenSpec.ofChange stealOnceWrong)

/-- 'forkwrightkeep.SerialFuel': WHATEVER THE INPUT: true; the input reads as it did. -/
def serialFuelSpec : ChangeSpec := { name := "serialFuel", fn := fun _ => fun
  | [d1, d2, d3, d4] => { results := [.lit (.bool true)], args := [d1, d2, d3, d4] }
  | _ => none }
def serialFuelRow : OpenClaim := { program := "ytajddbmmbhdnfaa", sum := "870a0216e0ce93ab6a79d2aa68f10ba6e39c54902839146981097950bc599cf7", func := "forkwright/forkwrightkeep.SerialFuel", spec := "serialFuel", unfollowed := true, recurses := true, loops := true, apart := false }
def SerialFuelSaid : Prop := serialFuelRow.holds Try.pinned (OpenSpec.ofChange serialFuelSpec)

/-- ITS FALSE NEIGHBOUR: 'it returns false'. Refute it at one input. -/
def serialFuelWrong : ChangeSpec := { name := "serialFuel", fn := fun _ => fun
  | [d1, d2, d3, d4] => { results := [.lit (.bool false)], args := [d1, d2, d3, d4] }
  | _ => none }
def SerialFuelWrongFalsely : Prop := serialFuelRow.holds Try.pinned (OpenSpec.ofChange serialFuelWrong)

/-- 'forkwrightkeep.SerialKept': WHATEVER THE INPUT: true; the input reads as it did. -/
def serialKeptSpec : ChangeSpec := { name := "serialKept", fn := fun _ => fun
  | [d1, d2, d3, d4, d5] => { results := [.lit (.bool true)], args := [d1, d2, d3, d4, d5] }
  | _ => none }
def serialKeptRow : OpenClaim := { program := "ytajddbmmbhdnfaa", sum := "870a0216e0ce93ab6a79d2aa68f10ba6e39c54902839146981097950bc599cf7", func := "forkwright/forkwrightkeep.SerialKept", spec := "serialKept", unfollowed := true, recurses := true, loops := true, apart := false }
def SerialKeptSaid : Prop := serialKeptRow.holds Try.pinned (OpenSpec.ofChange serialKeptSpec)

/-- ITS FALSE NEIGHBOUR: 'it returns false'. Refute it at one input. -/
def serialKeptWrong : ChangeSpec := { name := "serialKept", fn := fun _ => fun
  | [d1, d2, d3, d4, d5] => { results := [.lit (.bool false)], args := [d1, d2, d3, d4, d5] }
  | _ => none }
def SerialKeptWrongFalsely : Prop := serialKeptRow.holds Try.pinned (OpenSpec.ofChange serialKeptWrong)

/-- 'forkwrightkeep.SerialSame': WHATEVER THE INPUT: true; the input reads as it did. -/
def serialSameSpec : ChangeSpec := { name := "serialSame", fn := fun _ => fun
  | [d1, d2, d3] => { results := [.lit (.bool true)], args := [d1, d2, d3] }
  | _ => none }
def serialSameRow : OpenClaim := { program := "ytajddbmmbhdnfaa", sum := "870a0216e0ce93ab6a79d2aa68f10ba6e39c54902839146981097950bc599cf7", func := "forkwright/forkwrightkeep.SerialSame", spec := "serialSame", unfollowed := true, recurses := true, loops := true, apart := false }
def SerialSameSaid : Prop := serialSameRow.holds Try.pinned (OpenSpec.ofChange serialSameSpec)

/-- ITS FALSE NEIGHBOUR: 'it returns false'. Refute it at one input. -/
def serialSameWrong : ChangeSpec := { name := "serialSame", fn := fun _ => fun
  | [d1, d2, d3] => { results := [.lit (.bool false)], args := [d1, d2, d3] }
  | _ => none }
def SerialSameWrongFalsely : Prop := serialSameRow.holds Try.pinned (OpenSpec.ofChange serialSameWrong)

/-- 'forkwrightkeep.SerialParts': WHATEVER THE INPUT: true; the input reads as it did. -/
def serialPartsSpec : ChangeSpec := { name := "serialParts", fn := fun _ => fun
  | [d1, d2, d3, d4] => { results := [.lit (.bool true)], args := [d1, d2, d3, d4] }
  | _ => none }
def serialPartsRow : OpenClaim := { program := "ytajddbmmbhdnfaa", sum := "870a0216e0ce93ab6a79d2aa68f10ba6e39c54902839146981097950bc599cf7", func := "forkwright/forkwrightkeep.SerialParts", spec := "serialParts", unfollowed := true, recurses := true, loops := true, apart := false }
def SerialPartsSaid : Prop := serialPartsRow.holds Try.pinned (OpenSpec.ofChange serialPartsSpec)

/-- ITS FALSE NEIGHBOUR: 'it returns false'. Refute it at one input. -/
def serialPartsWrong : ChangeSpec := { name := "serialParts", fn := fun _ => fun
  | [d1, d2, d3, d4] => { results := [.lit (.bool false)], args := [d1, d2, d3, d4] }
  | _ => none }
def SerialPartsWrongFalsely : Prop := serialPartsRow.holds Try.pinned (OpenSpec.ofChange serialPartsWrong)

/- THE SECOND FORM. 'bulk': how many values and letters a reading holds, each counted each time it is reached (what is shared counts as often as it is met; a slice's spare places count too). A statement '..UptoSaid' is the law's where the arguments, and the package variables that the reading takes, are together of bulk at most 1048576: NARROWER than '..Said'. Prove '..Said' where nothing that the law and all that it calls make is longer than what came in: it says more and counts as full. Else prove '..UptoSaid'. A law counts once. -/
mutual
def uptoBulk {H : Type} : DataW H → Nat
  | .lit (.string bytes) => bytes.length + 1
  | .lit _ => 1
  | .nil => 1
  | .ptr d => uptoBulk d + 1
  | .slice elems spare => uptoBulkAll elems + uptoBulkAll spare + 1
  | .agg parts => uptoBulkAll parts + 1
  | .iface _ d => uptoBulk d + 1
  | .map entries => uptoBulkEntries entries + 1
  | .held _ => 1
def uptoBulkAll {H : Type} : List (DataW H) → Nat
  | [] => 0
  | d :: r => uptoBulk d + uptoBulkAll r
def uptoBulkEntries {H : Type} : List (Lit × DataW H) → Nat
  | [] => 0
  | x :: r => uptoBulkEntry x + uptoBulkEntries r
def uptoBulkEntry {H : Type} : Lit × DataW H → Nat
  | (.string bytes, d) => bytes.length + uptoBulk d + 1
  | (_, d) => uptoBulk d + 1
 end
def uptoSmall : (H : Type) → List (DataW H) → Bool := fun _ ds => decide (uptoBulkAll ds ≤ 1048576)
def OpenSpec.upto (s : _root_.Go.ChangeSpec) : _root_.Go.OpenSpec := { _root_.Go.OpenSpec.ofChange s with cond := some uptoSmall }

/-- 'forkwrightkeep.StealBusy', WHERE WHAT IT READS IS OF BULK AT MOST 1048576: true; the input reads as it did. -/
def stealBusyUptoRow : OpenClaim := { program := "ytajddbmmbhdnfaa", sum := "870a0216e0ce93ab6a79d2aa68f10ba6e39c54902839146981097950bc599cf7", func := "forkwright/forkwrightkeep.StealBusy", spec := "stealBusy", recurses := true, loops := true, apart := false, narrowed := true }
def StealBusyUptoSaid : Prop := stealBusyUptoRow.holds Try.pinned (OpenSpec.upto stealBusySpec)

/-- 'forkwrightkeep.StealAlone', WHERE WHAT IT READS IS OF BULK AT MOST 1048576: true; the input reads as it did. -/
def stealAloneUptoRow : OpenClaim := { program := "ytajddbmmbhdnfaa", sum := "870a0216e0ce93ab6a79d2aa68f10ba6e39c54902839146981097950bc599cf7", func := "forkwright/forkwrightkeep.StealAlone", spec := "stealAlone", unfollowed := true, recurses := true, loops := true, apart := false, narrowed := true }
def StealAloneUptoSaid : Prop := stealAloneUptoRow.holds Try.pinned (OpenSpec.upto stealAloneSpec)

/-- 'forkwrightkeep.StealEnds', WHERE WHAT IT READS IS OF BULK AT MOST 1048576: true; the input reads as it did. -/
def stealEndsUptoRow : OpenClaim := { program := "ytajddbmmbhdnfaa", sum := "870a0216e0ce93ab6a79d2aa68f10ba6e39c54902839146981097950bc599cf7", func := "forkwright/forkwrightkeep.StealEnds", spec := "stealEnds", unfollowed := true, recurses := true, loops := true, apart := false, narrowed := true }
def StealEndsUptoSaid : Prop := stealEndsUptoRow.holds Try.pinned (OpenSpec.upto stealEndsSpec)

/-- 'forkwrightkeep.StealOnce', WHERE WHAT IT READS IS OF BULK AT MOST 1048576: true; the input reads as it did. -/
def stealOnceUptoRow : OpenClaim := { program := "ytajddbmmbhdnfaa", sum := "870a0216e0ce93ab6a79d2aa68f10ba6e39c54902839146981097950bc599cf7", func := "forkwright/forkwrightkeep.StealOnce", spec := "stealOnce", unfollowed := true, recurses := true, loops := true, apart := false, narrowed := true }
def StealOnceUptoSaid : Prop := stealOnceUptoRow.holds Try.pinned (OpenSpec.upto stealOnceSpec)

/-- 'forkwrightkeep.SerialFuel', WHERE WHAT IT READS IS OF BULK AT MOST 1048576: true; the input reads as it did. -/
def serialFuelUptoRow : OpenClaim := { program := "ytajddbmmbhdnfaa", sum := "870a0216e0ce93ab6a79d2aa68f10ba6e39c54902839146981097950bc599cf7", func := "forkwright/forkwrightkeep.SerialFuel", spec := "serialFuel", unfollowed := true, recurses := true, loops := true, apart := false, narrowed := true }
def SerialFuelUptoSaid : Prop := serialFuelUptoRow.holds Try.pinned (OpenSpec.upto serialFuelSpec)

/-- 'forkwrightkeep.SerialKept', WHERE WHAT IT READS IS OF BULK AT MOST 1048576: true; the input reads as it did. -/
def serialKeptUptoRow : OpenClaim := { program := "ytajddbmmbhdnfaa", sum := "870a0216e0ce93ab6a79d2aa68f10ba6e39c54902839146981097950bc599cf7", func := "forkwright/forkwrightkeep.SerialKept", spec := "serialKept", unfollowed := true, recurses := true, loops := true, apart := false, narrowed := true }
def SerialKeptUptoSaid : Prop := serialKeptUptoRow.holds Try.pinned (OpenSpec.upto serialKeptSpec)

/-- 'forkwrightkeep.SerialSame', WHERE WHAT IT READS IS OF BULK AT MOST 1048576: true; the input reads as it did. -/
def serialSameUptoRow : OpenClaim := { program := "ytajddbmmbhdnfaa", sum := "870a0216e0ce93ab6a79d2aa68f10ba6e39c54902839146981097950bc599cf7", func := "forkwright/forkwrightkeep.SerialSame", spec := "serialSame", unfollowed := true, recurses := true, loops := true, apart := false, narrowed := true }
def SerialSameUptoSaid : Prop := serialSameUptoRow.holds Try.pinned (OpenSpec.upto serialSameSpec)

/-- 'forkwrightkeep.SerialParts', WHERE WHAT IT READS IS OF BULK AT MOST 1048576: true; the input reads as it did. -/
def serialPartsUptoRow : OpenClaim := { program := "ytajddbmmbhdnfaa", sum := "870a0216e0ce93ab6a79d2aa68f10ba6e39c54902839146981097950bc599cf7", func := "forkwright/forkwrightkeep.SerialParts", spec := "serialParts", unfollowed := true, recurses := true, loops := true, apart := false, narrowed := true }
def SerialPartsUptoSaid : Prop := serialPartsUptoRow.holds Try.pinned (OpenSpec.upto serialPartsSpec)

end Rows
end Go.Proofs.Ytajddbmmbhdnfaa
