/-
  No cell of these rows narrows 'for every input' (looked for: loops, veiled, ifaces, maps, wideKeys, modest, calm, conditions, laid).
  DERIVED. THE GIVEN ROWS OF THIS SEAT. 7 by the template 'for every input the law returns true; each argument reads behind the call as it read before'; 0 by the template 'total and deterministic' (their statements: YtbjciplcaekjpaaTotals.lean).
  GIVEN WITH THE SEED: the statements are not yours to turn. If you find one false, say at which input.
  Laid BY PROGRAM, IN A SANDBOX (cutbox-rows.mjs): the forced cells as the released guide's own fill.sh prints them over the translation f021c3d0596eb18a… (all of the seat's roots in one cut). By AI agents, Wed Nov 11 2026. No macro, syntax, notation, axiom, sorry.
-/
import Derived.Test.YtbjciplcaekjpaaChecked
import GoSem.Claim
import GoSem.ClaimJoined
import GoSem.ClaimMapViews
import Derived.JoinedTies
import Derived.KernelRfl
namespace Go.Proofs.Ytbjciplcaekjpaa
/- THE CELL 'sum', in the pinned program and in every row, IS THE sha256 OF THE DUMP (.gsa) THAT YtbjciplcaekjpaaProg.lean LOADS. Nothing in Lean hashes anything: it is a label: what it is worth is what the hold of that sum in a sandbox is worth. -/
noncomputable def Try.pinned : Pinned := { name := "ytbjciplcaekjpaa", sum := "f021c3d0596eb18a4d6f1f8b8f2190dfdae65b414d9b5d24e64a7a1258ddff77", checked := Try.checked }
namespace Rows
def none {H : Type} : Left H := { results := [], args := [] }

/-- 'vedettelaw22.QueuePlays': WHATEVER THE INPUT: true; the input reads as it did. -/
def queuePlaysSpec : ChangeSpec := { name := "queuePlays", fn := fun _ => fun
  | [d1, d2] => { results := [.lit (.bool true)], args := [d1, d2] }
  | _ => none }
def queuePlaysRow : OpenClaim := { program := "ytbjciplcaekjpaa", sum := "f021c3d0596eb18a4d6f1f8b8f2190dfdae65b414d9b5d24e64a7a1258ddff77", func := "vedette/vedettelaw22.QueuePlays", spec := "queuePlays", apart := false }
def QueuePlaysSaid : Prop := queuePlaysRow.holds Try.pinned (OpenSpec.ofChange queuePlaysSpec)

/-- ITS FALSE NEIGHBOUR: 'it returns false'. Refute it at one input. -/
def queuePlaysWrong : ChangeSpec := { name := "queuePlays", fn := fun _ => fun
  | [d1, d2] => { results := [.lit (.bool false)], args := [d1, d2] }
  | _ => none }
def QueuePlaysWrongFalsely : Prop := queuePlaysRow.holds Try.pinned (OpenSpec.ofChange queuePlaysWrong)

/-- 'vedettelaw22.QueueRounds': WHATEVER THE INPUT: true; the input reads as it did. -/
def queueRoundsSpec : ChangeSpec := { name := "queueRounds", fn := fun _ => fun
  | [d1, d2] => { results := [.lit (.bool true)], args := [d1, d2] }
  | _ => none }
def queueRoundsRow : OpenClaim := { program := "ytbjciplcaekjpaa", sum := "f021c3d0596eb18a4d6f1f8b8f2190dfdae65b414d9b5d24e64a7a1258ddff77", func := "vedette/vedettelaw22.QueueRounds", spec := "queueRounds", apart := false }
def QueueRoundsSaid : Prop := queueRoundsRow.holds Try.pinned (OpenSpec.ofChange queueRoundsSpec)

/-- ITS FALSE NEIGHBOUR: 'it returns false'. Refute it at one input. -/
def queueRoundsWrong : ChangeSpec := { name := "queueRounds", fn := fun _ => fun
  | [d1, d2] => { results := [.lit (.bool false)], args := [d1, d2] }
  | _ => none }
def QueueRoundsWrongFalsely : Prop := queueRoundsRow.holds Try.pinned (OpenSpec.ofChange queueRoundsWrong)

/-- 'vedettelaw13.OwnerPlays': WHATEVER THE INPUT: true; the input reads as it did. -/
def ownerPlaysSpec : ChangeSpec := { name := "ownerPlays", fn := fun _ => fun
  | [d1, d2, d3] => { results := [.lit (.bool true)], args := [d1, d2, d3] }
  | _ => none }
def ownerPlaysRow : OpenClaim := { program := "ytbjciplcaekjpaa", sum := "f021c3d0596eb18a4d6f1f8b8f2190dfdae65b414d9b5d24e64a7a1258ddff77", func := "vedette/vedettelaw13.OwnerPlays", spec := "ownerPlays", apart := false }
def OwnerPlaysSaid : Prop := ownerPlaysRow.holds Try.pinned (OpenSpec.ofChange ownerPlaysSpec)

/-- ITS FALSE NEIGHBOUR: 'it returns false'. Refute it at one input. -/
def ownerPlaysWrong : ChangeSpec := { name := "ownerPlays", fn := fun _ => fun
  | [d1, d2, d3] => { results := [.lit (.bool false)], args := [d1, d2, d3] }
  | _ => none }
def OwnerPlaysWrongFalsely : Prop := ownerPlaysRow.holds Try.pinned (OpenSpec.ofChange ownerPlaysWrong)

/-- 'vedettelaw13.OwnerLoads': WHATEVER THE INPUT: true; the input reads as it did. -/
def ownerLoadsSpec : ChangeSpec := { name := "ownerLoads", fn := fun _ => fun
  | [d1, d2] => { results := [.lit (.bool true)], args := [d1, d2] }
  | _ => none }
def ownerLoadsRow : OpenClaim := { program := "ytbjciplcaekjpaa", sum := "f021c3d0596eb18a4d6f1f8b8f2190dfdae65b414d9b5d24e64a7a1258ddff77", func := "vedette/vedettelaw13.OwnerLoads", spec := "ownerLoads", apart := false }
def OwnerLoadsSaid : Prop := ownerLoadsRow.holds Try.pinned (OpenSpec.ofChange ownerLoadsSpec)

/-- ITS FALSE NEIGHBOUR: 'it returns false'. Refute it at one input. -/
def ownerLoadsWrong : ChangeSpec := { name := "ownerLoads", fn := fun _ => fun
  | [d1, d2] => { results := [.lit (.bool false)], args := [d1, d2] }
  | _ => none }
def OwnerLoadsWrongFalsely : Prop := ownerLoadsRow.holds Try.pinned (OpenSpec.ofChange ownerLoadsWrong)

/-- 'vedettelaw13.OwnerEpochs': WHATEVER THE INPUT: true; the input reads as it did. -/
def ownerEpochsSpec : ChangeSpec := { name := "ownerEpochs", fn := fun _ => fun
  | [d1, d2] => { results := [.lit (.bool true)], args := [d1, d2] }
  | _ => none }
def ownerEpochsRow : OpenClaim := { program := "ytbjciplcaekjpaa", sum := "f021c3d0596eb18a4d6f1f8b8f2190dfdae65b414d9b5d24e64a7a1258ddff77", func := "vedette/vedettelaw13.OwnerEpochs", spec := "ownerEpochs", apart := false }
def OwnerEpochsSaid : Prop := ownerEpochsRow.holds Try.pinned (OpenSpec.ofChange ownerEpochsSpec)

/-- ITS FALSE NEIGHBOUR: 'it returns false'. Refute it at one input. -/
def ownerEpochsWrong : ChangeSpec := { name := "ownerEpochs", fn := fun _ => fun
  | [d1, d2] => { results := [.lit (.bool false)], args := [d1, d2] }
  | _ => none }
def OwnerEpochsWrongFalsely : Prop := ownerEpochsRow.holds Try.pinned (OpenSpec.ofChange ownerEpochsWrong)

/-- 'vedettelaw13.OwnerRounds': WHATEVER THE INPUT: true; the input reads as it did. -/
def ownerRoundsSpec : ChangeSpec := { name := "ownerRounds", fn := fun _ => fun
  | [d1, d2, d3] => { results := [.lit (.bool true)], args := [d1, d2, d3] }
  | _ => none }
def ownerRoundsRow : OpenClaim := { program := "ytbjciplcaekjpaa", sum := "f021c3d0596eb18a4d6f1f8b8f2190dfdae65b414d9b5d24e64a7a1258ddff77", func := "vedette/vedettelaw13.OwnerRounds", spec := "ownerRounds", apart := false }
def OwnerRoundsSaid : Prop := ownerRoundsRow.holds Try.pinned (OpenSpec.ofChange ownerRoundsSpec)

/-- ITS FALSE NEIGHBOUR: 'it returns false'. Refute it at one input. -/
def ownerRoundsWrong : ChangeSpec := { name := "ownerRounds", fn := fun _ => fun
  | [d1, d2, d3] => { results := [.lit (.bool false)], args := [d1, d2, d3] }
  | _ => none }
def OwnerRoundsWrongFalsely : Prop := ownerRoundsRow.holds Try.pinned (OpenSpec.ofChange ownerRoundsWrong)

/-- 'vedettelaw13.OwnerCopies': WHATEVER THE INPUT: true; the input reads as it did. -/
def ownerCopiesSpec : ChangeSpec := { name := "ownerCopies", fn := fun _ => fun
  | [d1, d2] => { results := [.lit (.bool true)], args := [d1, d2] }
  | _ => none }
def ownerCopiesRow : OpenClaim := { program := "ytbjciplcaekjpaa", sum := "f021c3d0596eb18a4d6f1f8b8f2190dfdae65b414d9b5d24e64a7a1258ddff77", func := "vedette/vedettelaw13.OwnerCopies", spec := "ownerCopies", apart := false }
def OwnerCopiesSaid : Prop := ownerCopiesRow.holds Try.pinned (OpenSpec.ofChange ownerCopiesSpec)

/-- ITS FALSE NEIGHBOUR: 'it returns false'. Refute it at one input. -/
def ownerCopiesWrong : ChangeSpec := { name := "ownerCopies", fn := fun _ => fun
  | [d1, d2] => { results := [.lit (.bool false)], args := [d1, d2] }
  | _ => none }
def OwnerCopiesWrongFalsely : Prop := ownerCopiesRow.holds Try.pinned (OpenSpec.ofChange ownerCopiesWrong)

/- THE SECOND FORM. 'bulk': how many values and letters a reading holds, each counted each time it is reached (what is shared counts as often as it is met; a slice's spare places count too). A statement '..UptoSaid' is the law's where the arguments, and the package variables that the reading takes, are together of bulk at most 1048576: NARROWER than '..Said'. Prove '..Said' where nothing that the law and all that it calls make is longer than what came in: it says more and counts as full. Else prove '..UptoSaid'. A law counts once. -/
mutual
def uptoBulk {H : Type} : DataW H → Nat
  | .lit (.string bytes) => bytes.length + 1
  | .lit _ => 1
  | .nil => 1
  | .ptr d => uptoBulk d + 1
  | .slice elems spare => uptoBulkAll elems + uptoBulkAll spare + 1
  | .agg parts => uptoBulkAll parts + 1
  | .iface _ d => uptoBulk d + 1
  | .map entries => uptoBulkEntries entries + 1
  | .held _ => 1
def uptoBulkAll {H : Type} : List (DataW H) → Nat
  | [] => 0
  | d :: r => uptoBulk d + uptoBulkAll r
def uptoBulkEntries {H : Type} : List (Lit × DataW H) → Nat
  | [] => 0
  | x :: r => uptoBulkEntry x + uptoBulkEntries r
def uptoBulkEntry {H : Type} : Lit × DataW H → Nat
  | (.string bytes, d) => bytes.length + uptoBulk d + 1
  | (_, d) => uptoBulk d + 1
 end
def uptoSmall : (H : Type) → List (DataW H) → Bool := fun _ ds => decide (uptoBulkAll ds ≤ 1048576)
def OpenSpec.upto (s : _root_.Go.ChangeSpec) : _root_.Go.OpenSpec := { _root_.Go.OpenSpec.ofChange s with cond := some uptoSmall }

/-- 'vedettelaw22.QueuePlays', WHERE WHAT IT READS IS OF BULK AT MOST 1048576: true; the input reads as it did. -/
def queuePlaysUptoRow : OpenClaim := { program := "ytbjciplcaekjpaa", sum := "f021c3d0596eb18a4d6f1f8b8f2190dfdae65b414d9b5d24e64a7a1258ddff77", func := "vedette/vedettelaw22.QueuePlays", spec := "queuePlays", apart := false, narrowed := true }
def QueuePlaysUptoSaid : Prop := queuePlaysUptoRow.holds Try.pinned (OpenSpec.upto queuePlaysSpec)

/-- 'vedettelaw22.QueueRounds', WHERE WHAT IT READS IS OF BULK AT MOST 1048576: true; the input reads as it did. -/
def queueRoundsUptoRow : OpenClaim := { program := "ytbjciplcaekjpaa", sum := "f021c3d0596eb18a4d6f1f8b8f2190dfdae65b414d9b5d24e64a7a1258ddff77", func := "vedette/vedettelaw22.QueueRounds", spec := "queueRounds", apart := false, narrowed := true }
def QueueRoundsUptoSaid : Prop := queueRoundsUptoRow.holds Try.pinned (OpenSpec.upto queueRoundsSpec)

/-- 'vedettelaw13.OwnerPlays', WHERE WHAT IT READS IS OF BULK AT MOST 1048576: true; the input reads as it did. -/
def ownerPlaysUptoRow : OpenClaim := { program := "ytbjciplcaekjpaa", sum := "f021c3d0596eb18a4d6f1f8b8f2190dfdae65b414d9b5d24e64a7a1258ddff77", func := "vedette/vedettelaw13.OwnerPlays", spec := "ownerPlays", apart := false, narrowed := true }
def OwnerPlaysUptoSaid : Prop := ownerPlaysUptoRow.holds Try.pinned (OpenSpec.upto ownerPlaysSpec)

/-- 'vedettelaw13.OwnerLoads', WHERE WHAT IT READS IS OF BULK AT MOST 1048576: true; the input reads as it did. -/
def ownerLoadsUptoRow : OpenClaim := { program := "ytbjciplcaekjpaa", sum := "f021c3d0596eb18a4d6f1f8b8f2190dfdae65b414d9b5d24e64a7a1258ddff77", func := "vedette/vedettelaw13.OwnerLoads", spec := "ownerLoads", apart := false, narrowed := true }
def OwnerLoadsUptoSaid : Prop := ownerLoadsUptoRow.holds Try.pinned (OpenSpec.upto ownerLoadsSpec)

/-- 'vedettelaw13.OwnerEpochs', WHERE WHAT IT READS IS OF BULK AT MOST 1048576: true; the input reads as it did. -/
def ownerEpochsUptoRow : OpenClaim := { program := "ytbjciplcaekjpaa", sum := "f021c3d0596eb18a4d6f1f8b8f2190dfdae65b414d9b5d24e64a7a1258ddff77", func := "vedette/vedettelaw13.OwnerEpochs", spec := "ownerEpochs", apart := false, narrowed := true }
def OwnerEpochsUptoSaid : Prop := ownerEpochsUptoRow.holds Try.pinned (OpenSpec.upto ownerEpochsSpec)

/-- 'vedettelaw13.OwnerRounds', WHERE WHAT IT READS IS OF BULK AT MOST 1048576: true; the input reads as it did. -/
def ownerRoundsUptoRow : OpenClaim := { program := "ytbjciplcaekjpaa", sum := "f021c3d0596eb18a4d6f1f8b8f2190dfdae65b414d9b5d24e64a7a1258ddff77", func := "vedette/vedettelaw13.OwnerRounds", spec := "ownerRounds", apart := false, narrowed := true }
def OwnerRoundsUptoSaid : Prop := ownerRoundsUptoRow.holds Try.pinned (OpenSpec.upto ownerRoundsSpec)

/-- 'vedettelaw13.OwnerCopies', WHERE WHAT IT READS IS OF BULK AT MOST 1048576: true; the input reads as it did. -/
def ownerCopiesUptoRow : OpenClaim := { program := "ytbjciplcaekjpaa", sum := "f021c3d0596eb18a4d6f1f8b8f2190dfdae65b414d9b5d24e64a7a1258ddff77", func := "vedette/vedettelaw13.OwnerCopies", spec := "ownerCopies", apart := false, narrowed := true }
def OwnerCopiesUptoSaid : Prop := ownerCopiesUptoRow.holds Try.pinned (OpenSpec.upto ownerCopiesSpec)

end Rows
end Go.Proofs.Ytbjciplcaekjpaa
