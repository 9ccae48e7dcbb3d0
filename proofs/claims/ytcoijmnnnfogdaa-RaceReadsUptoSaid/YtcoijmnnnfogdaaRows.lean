/-
  NARROWER THAN 'FOR EVERY INPUT', by the rows' own cells (each row's printed sentence says how): StealSame: loops · RaceFree: loops · RaceMatters: loops · RaceReads: loops · RaceChain: loops.
  DERIVED. THE GIVEN ROWS OF THIS SEAT. 5 by the template 'for every input the law returns true; each argument reads behind the call as it read before'; 0 by the template 'total and deterministic' (their statements: YtcoijmnnnfogdaaTotals.lean).
  GIVEN WITH THE SEED: the statements are not yours to turn. If you find one false, say at which input.
  Laid BY PROGRAM, IN A SANDBOX (cutbox-rows.mjs): the forced cells as the released guide's own fill.sh prints them over the translation 46d7d415b7145eca… (all of the seat's roots in one cut). By AI agents, Wed Nov 11 2026. No macro, syntax, notation, axiom, sorry.
-/
import Derived.Test.YtcoijmnnnfogdaaChecked
import GoSem.Claim
import GoSem.ClaimJoined
import GoSem.ClaimMapViews
import Derived.JoinedTies
import Derived.KernelRfl
namespace Go.Proofs.Ytcoijmnnnfogdaa
/- THE CELL 'sum', in the pinned program and in every row, IS THE sha256 OF THE DUMP (.gsa) THAT YtcoijmnnnfogdaaProg.lean LOADS. Nothing in Lean hashes anything: it is a label: what it is worth is what the hold of that sum in a sandbox is worth. -/
noncomputable def Try.pinned : Pinned := { name := "ytcoijmnnnfogdaa", sum := "46d7d415b7145eca1e226ac3c1d73153d8366630a321e33c91777b8684e1b592", checked := Try.checked }
namespace Rows
def none {H : Type} : Left H := { results := [], args := [] }

/-- 'forkwrightkeep.StealSame': WHATEVER THE INPUT: true; the input reads as it did. -/
def stealSameSpec : ChangeSpec := { name := "stealSame", fn := fun _ => fun
  | [d1, d2, d3] => { results := [.lit (.bool true)], args := [d1, d2, d3] }
  | _ => none }
def stealSameRow : OpenClaim := { program := "ytcoijmnnnfogdaa", sum := "46d7d415b7145eca1e226ac3c1d73153d8366630a321e33c91777b8684e1b592", func := "forkwright/forkwrightkeep.StealSame", spec := "stealSame", unfollowed := true, recurses := true, loops := true, apart := false }
def StealSameSaid : Prop := stealSameRow.holds Try.pinned (OpenSpec.ofChange stealSameSpec)

/-- ITS FALSE NEIGHBOUR: 'it returns false'. Refute it at one input. -/
def stealSameWrong : ChangeSpec := { name := "stealSame", fn := fun _ => fun
  | [d1, d2, d3] => { results := [.lit (.bool false)], args := [d1, d2, d3] }
  | _ => none }
def StealSameWrongFalsely : Prop := stealSameRow.holds Try.pinned (OpenSpec.ofChange stealSameWrong)

/-- 'forkwrightkeep.RaceFree': WHATEVER THE INPUT: true; the input reads as it did. -/
def raceFreeSpec : ChangeSpec := { name := "raceFree", fn := fun _ => fun
  | [d1, d2] => { results := [.lit (.bool true)], args := [d1, d2] }
  | _ => none }
def raceFreeRow : OpenClaim := { program := "ytcoijmnnnfogdaa", sum := "46d7d415b7145eca1e226ac3c1d73153d8366630a321e33c91777b8684e1b592", func := "forkwright/forkwrightkeep.RaceFree", spec := "raceFree", unfollowed := true, recurses := true, loops := true, apart := false }
def RaceFreeSaid : Prop := raceFreeRow.holds Try.pinned (OpenSpec.ofChange raceFreeSpec)

/-- ITS FALSE NEIGHBOUR: 'it returns false'. Refute it at one input. -/
def raceFreeWrong : ChangeSpec := { name := "raceFree", fn := fun _ => fun
  | [d1, d2] => { results := [.lit (.bool false)], args := [d1, d2] }
  | _ => none }
def RaceFreeWrongFalsely : Prop := raceFreeRow.holds Try.pinned (OpenSpec.ofChange raceFreeWrong)

/-- 'forkwrightkeep.RaceMatters': WHATEVER THE INPUT: true; the input reads as it did. -/
def raceMattersSpec : ChangeSpec := { name := "raceMatters", fn := fun _ => fun
  | [d1, d2] => { results := [.lit (.bool true)], args := [d1, d2] }
  | _ => none }
def raceMattersRow : OpenClaim := { program := "ytcoijmnnnfogdaa", sum := "46d7d415b7145eca1e226ac3c1d73153d8366630a321e33c91777b8684e1b592", func := "forkwright/forkwrightkeep.RaceMatters", spec := "raceMatters", unfollowed := true, recurses := true, loops := true, apart := false }
def RaceMattersSaid : Prop := raceMattersRow.holds Try.pinned (OpenSpec.ofChange raceMattersSpec)

/-- ITS FALSE NEIGHBOUR: 'it returns false'. Refute it at one input. -/
def raceMattersWrong : ChangeSpec := { name := "raceMatters", fn := fun _ => fun
  | [d1, d2] => { results := [.lit (.bool false)], args := [d1, d2] }
  | _ => none }
def RaceMattersWrongFalsely : Prop := raceMattersRow.holds Try.pinned (OpenSpec.ofChange raceMattersWrong)

/-- 'forkwrightkeep.RaceReads': WHATEVER THE INPUT: true; the input reads as it did. -/
def raceReadsSpec : ChangeSpec := { name := "raceReads", fn := fun _ => fun
  | [d1, d2] => { results := [.lit (.bool true)], args := [d1, d2] }
  | _ => none }
def raceReadsRow : OpenClaim := { program := "ytcoijmnnnfogdaa", sum := "46d7d415b7145eca1e226ac3c1d73153d8366630a321e33c91777b8684e1b592", func := "forkwright/forkwrightkeep.RaceReads", spec := "raceReads", unfollowed := true, recurses := true, loops := true, apart := false }
def RaceReadsSaid : Prop := raceReadsRow.holds Try.pinned (OpenSpec.ofChange raceReadsSpec)

/-- ITS FALSE NEIGHBOUR: 'it returns false'. Refute it at one input. -/
def raceReadsWrong : ChangeSpec := { name := "raceReads", fn := fun _ => fun
  | [d1, d2] => { results := [.lit (.bool false)], args := [d1, d2] }
  | _ => none }
def RaceReadsWrongFalsely : Prop := raceReadsRow.holds Try.pinned (OpenSpec.ofChange raceReadsWrong)

/-- 'forkwrightkeep.RaceChain': WHATEVER THE INPUT: true; the input reads as it did. -/
def raceChainSpec : ChangeSpec := { name := "raceChain", fn := fun _ => fun
  | [d1, d2] => { results := [.lit (.bool true)], args := [d1, d2] }
  | _ => none }
def raceChainRow : OpenClaim := { program := "ytcoijmnnnfogdaa", sum := "46d7d415b7145eca1e226ac3c1d73153d8366630a321e33c91777b8684e1b592", func := "forkwright/forkwrightkeep.RaceChain", spec := "raceChain", unfollowed := true, recurses := true, loops := true, apart := false }
def RaceChainSaid : Prop := raceChainRow.holds Try.pinned (OpenSpec.ofChange raceChainSpec)

/-- ITS FALSE NEIGHBOUR: 'it returns false'. Refute it at one input. -/
def raceChainWrong : ChangeSpec := { name := "raceChain", fn := fun _ => fun
  | [d1, d2] => { results := [.lit (.bool false)], args := [d1, d2] }
  | _ => none }
def RaceChainWrongFalsely : Prop := raceChainRow.holds Try.pinned (OpenSpec.ofChange raceChainWrong)

/- THE SECOND FORM. 'bulk': how many values and letters a reading holds, each counted each time it is reached (what is shared counts as often as it is met; a slice's spare places count too). A statement '..UptoSaid' is the law's where the arguments, and the package variables that the reading takes, are together of bulk at most 1048576: NARROWER than '..Said'. Prove '..Said' where nothing that the law and all that it calls make is longer than what came in: it says more and counts as full. Else prove '..UptoSaid'. A law counts once. -/
mutual
def uptoBulk {H : Type} : DataW H → Nat
  | .lit (.string bytes) => bytes.length + 1
  | .lit _ => 1
  | .nil => 1
  | .ptr d => uptoBulk d + 1
  | .slice elems spare => uptoBulkAll elems + uptoBulkAll spare + 1
  | .agg parts => uptoBulkAll parts + 1
  | .iface _ d => uptoBulk d + 1
  | .map entries => uptoBulkEntries entries + 1
  | .held _ => 1
def uptoBulkAll {H : Type} : List (DataW H) → Nat
  | [] => 0
  | d :: r => uptoBulk d + uptoBulkAll r
def uptoBulkEntries {H : Type} : List (Lit × DataW H) → Nat
  | [] => 0
  | x :: r => uptoBulkEntry x + uptoBulkEntries r
def uptoBulkEntry {H : Type} : Lit × DataW H → Nat
  | (.string bytes, d) => bytes.length + uptoBulk d + 1
  | (_, d) => uptoBulk d + 1
 end
def uptoSmall : (H : Type) → List (DataW H) → Bool := fun _ ds => decide (uptoBulkAll ds ≤ 1048576)
def OpenSpec.upto (s : _root_.Go.ChangeSpec) : _root_.Go.OpenSpec := { _root_.Go.OpenSpec.ofChange s with cond := some uptoSmall }

/-- 'forkwrightkeep.StealSame', WHERE WHAT IT READS IS OF BULK AT MOST 1048576: true; the input reads as it did. -/
def stealSameUptoRow : OpenClaim := { program := "ytcoijmnnnfogdaa", sum := "46d7d415b7145eca1e226ac3c1d73153d8366630a321e33c91777b8684e1b592", func := "forkwright/forkwrightkeep.StealSame", spec := "stealSame", unfollowed := true, recurses := true, loops := true, apart := false, narrowed := true }
def StealSameUptoSaid : Prop := stealSameUptoRow.holds Try.pinned (OpenSpec.upto stealSameSpec)

/-- 'forkwrightkeep.RaceFree', WHERE WHAT IT READS IS OF BULK AT MOST 1048576: true; the input reads as it did. -/
def raceFreeUptoRow : OpenClaim := { program := "ytcoijmnnnfogdaa", sum := "46d7d415b7145eca1e226ac3c1d73153d8366630a321e33c91777b8684e1b592", func := "forkwright/forkwrightkeep.RaceFree", spec := "raceFree", unfollowed := true, recurses := true, loops := true, apart := false, narrowed := true }
def RaceFreeUptoSaid : Prop := raceFreeUptoRow.holds Try.pinned (OpenSpec.upto raceFreeSpec)

/-- 'forkwrightkeep.RaceMatters', WHERE WHAT IT READS IS OF BULK AT MOST 1048576: true; the input reads as it did. -/
def raceMattersUptoRow : OpenClaim := { program := "ytcoijmnnnfogdaa", sum := "46d7d415b7145eca1e226ac3c1d73153d8366630a321e33c91777b8684e1b592", func := "forkwright/forkwrightkeep.RaceMatters", spec := "raceMatters", unfollowed := true, recurses := true, loops := true, apart := false, narrowed := true }
def RaceMattersUptoSaid : Prop := raceMattersUptoRow.holds Try.pinned (OpenSpec.upto raceMattersSpec)

/-- 'forkwrightkeep.RaceReads', WHERE WHAT IT READS IS OF BULK AT MOST 1048576: true; the input reads as it did. -/
def raceReadsUptoRow : OpenClaim := { program := "ytcoijmnnnfogdaa", sum := "46d7d415b7145eca1e226ac3c1d73153d8366630a321e33c91777b8684e1b592", func := "forkwright/forkwrightkeep.RaceReads", spec := "raceReads", unfollowed := true, recurses := true, loops := true, apart := false, narrowed := true }
def RaceReadsUptoSaid : Prop := raceReadsUptoRow.holds Try.pinned (OpenSpec.upto raceReadsSpec)

/-- 'forkwrightkeep.RaceChain', WHERE WHAT IT READS IS OF BULK AT MOST 1048576: true; the input reads as it did. -/
def raceChainUptoRow : OpenClaim := { program := "ytcoijmnnnfogdaa", sum := "46d7d415b7145eca1e226ac3c1d73153d8366630a321e33c91777b8684e1b592", func := "forkwright/forkwrightkeep.RaceChain", spec := "raceChain", unfollowed := true, recurses := true, loops := true, apart := false, narrowed := true }
def RaceChainUptoSaid : Prop := raceChainUptoRow.holds Try.pinned (OpenSpec.upto raceChainSpec)

end Rows
end Go.Proofs.Ytcoijmnnnfogdaa
