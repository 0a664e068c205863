/-
  No cell of these rows narrows 'for every input' (looked for: loops, veiled, ifaces, maps, wideKeys, modest, calm, conditions, laid).
  DERIVED. THE GIVEN ROWS OF THIS SEAT. 7 by the template 'for every input the law returns true; each argument reads behind the call as it read before'; 0 by the template 'total and deterministic' (their statements: YtnncbfpkeikfaaaTotals.lean).
  GIVEN WITH THE SEED: the statements are not yours to turn. If you find one false, say at which input.
  Laid BY PROGRAM, IN A SANDBOX (cutbox-rows.mjs): the forced cells as the released guide's own fill.sh prints them over the translation ec3080fd20ba101c… (all of the seat's roots in one cut). By AI agents, Wed Nov 11 2026. No macro, syntax, notation, axiom, sorry.
-/
import Derived.Test.YtnncbfpkeikfaaaChecked
import GoSem.Claim
import GoSem.ClaimJoined
import GoSem.ClaimMapViews
import Derived.JoinedTies
import Derived.KernelRfl
namespace Go.Proofs.Ytnncbfpkeikfaaa
/- THE CELL 'sum', in the pinned program and in every row, IS THE sha256 OF THE DUMP (.gsa) THAT YtnncbfpkeikfaaaProg.lean LOADS. Nothing in Lean hashes anything: it is a label: what it is worth is what the hold of that sum in a sandbox is worth. -/
noncomputable def Try.pinned : Pinned := { name := "ytnncbfpkeikfaaa", sum := "ec3080fd20ba101c702e3ae6ef243dd13c2b9e2136b501560d501ecfbf37cbf1", checked := Try.checked }
namespace Rows
def none {H : Type} : Left H := { results := [], args := [] }

/-- 'vedettelaw11.ActCells': WHATEVER THE INPUT: true; the input reads as it did. -/
def actCellsSpec : ChangeSpec := { name := "actCells", fn := fun _ => fun
  | [d1, d2, d3, d4] => { results := [.lit (.bool true)], args := [d1, d2, d3, d4] }
  | _ => none }
def actCellsRow : OpenClaim := { program := "ytnncbfpkeikfaaa", sum := "ec3080fd20ba101c702e3ae6ef243dd13c2b9e2136b501560d501ecfbf37cbf1", func := "vedette/vedettelaw11.ActCells", spec := "actCells", unfollowed := true, recurses := true, apart := false }
def ActCellsSaid : Prop := actCellsRow.holds Try.pinned (OpenSpec.ofChange actCellsSpec)

/-- ITS FALSE NEIGHBOUR: 'it returns false'. Refute it at one input. -/
def actCellsWrong : ChangeSpec := { name := "actCells", fn := fun _ => fun
  | [d1, d2, d3, d4] => { results := [.lit (.bool false)], args := [d1, d2, d3, d4] }
  | _ => none }
def ActCellsWrongFalsely : Prop := actCellsRow.holds Try.pinned (OpenSpec.ofChange actCellsWrong)

/-- 'vedettelaw11.ActTwice': WHATEVER THE INPUT: true; the input reads as it did. -/
def actTwiceSpec : ChangeSpec := { name := "actTwice", fn := fun _ => fun
  | [d1, d2, d3] => { results := [.lit (.bool true)], args := [d1, d2, d3] }
  | _ => none }
def actTwiceRow : OpenClaim := { program := "ytnncbfpkeikfaaa", sum := "ec3080fd20ba101c702e3ae6ef243dd13c2b9e2136b501560d501ecfbf37cbf1", func := "vedette/vedettelaw11.ActTwice", spec := "actTwice", unfollowed := true, recurses := true, apart := false }
def ActTwiceSaid : Prop := actTwiceRow.holds Try.pinned (OpenSpec.ofChange actTwiceSpec)

/-- ITS FALSE NEIGHBOUR: 'it returns false'. Refute it at one input. -/
def actTwiceWrong : ChangeSpec := { name := "actTwice", fn := fun _ => fun
  | [d1, d2, d3] => { results := [.lit (.bool false)], args := [d1, d2, d3] }
  | _ => none }
def ActTwiceWrongFalsely : Prop := actTwiceRow.holds Try.pinned (OpenSpec.ofChange actTwiceWrong)

/-- 'vedettelaw11.ActSets': WHATEVER THE INPUT: true; the input reads as it did. -/
def actSetsSpec : ChangeSpec := { name := "actSets", fn := fun _ => fun
  | [d1, d2] => { results := [.lit (.bool true)], args := [d1, d2] }
  | _ => none }
def actSetsRow : OpenClaim := { program := "ytnncbfpkeikfaaa", sum := "ec3080fd20ba101c702e3ae6ef243dd13c2b9e2136b501560d501ecfbf37cbf1", func := "vedette/vedettelaw11.ActSets", spec := "actSets", unfollowed := true, recurses := true, apart := false }
def ActSetsSaid : Prop := actSetsRow.holds Try.pinned (OpenSpec.ofChange actSetsSpec)

/-- ITS FALSE NEIGHBOUR: 'it returns false'. Refute it at one input. -/
def actSetsWrong : ChangeSpec := { name := "actSets", fn := fun _ => fun
  | [d1, d2] => { results := [.lit (.bool false)], args := [d1, d2] }
  | _ => none }
def ActSetsWrongFalsely : Prop := actSetsRow.holds Try.pinned (OpenSpec.ofChange actSetsWrong)

/-- 'vedettelaw11.ActDoes': WHATEVER THE INPUT: true; the input reads as it did. -/
def actDoesSpec : ChangeSpec := { name := "actDoes", fn := fun _ => fun
  | [d1, d2, d3] => { results := [.lit (.bool true)], args := [d1, d2, d3] }
  | _ => none }
def actDoesRow : OpenClaim := { program := "ytnncbfpkeikfaaa", sum := "ec3080fd20ba101c702e3ae6ef243dd13c2b9e2136b501560d501ecfbf37cbf1", func := "vedette/vedettelaw11.ActDoes", spec := "actDoes", unfollowed := true, recurses := true, apart := false }
def ActDoesSaid : Prop := actDoesRow.holds Try.pinned (OpenSpec.ofChange actDoesSpec)

/-- ITS FALSE NEIGHBOUR: 'it returns false'. Refute it at one input. -/
def actDoesWrong : ChangeSpec := { name := "actDoes", fn := fun _ => fun
  | [d1, d2, d3] => { results := [.lit (.bool false)], args := [d1, d2, d3] }
  | _ => none }
def ActDoesWrongFalsely : Prop := actDoesRow.holds Try.pinned (OpenSpec.ofChange actDoesWrong)

/-- 'vedettelaw12.WorldApart': WHATEVER THE INPUT: true; the input reads as it did. -/
def worldApartSpec : ChangeSpec := { name := "worldApart", fn := fun _ => fun
  | [d1, d2, d3, d4, d5, d6] => { results := [.lit (.bool true)], args := [d1, d2, d3, d4, d5, d6] }
  | _ => none }
def worldApartRow : OpenClaim := { program := "ytnncbfpkeikfaaa", sum := "ec3080fd20ba101c702e3ae6ef243dd13c2b9e2136b501560d501ecfbf37cbf1", func := "vedette/vedettelaw12.WorldApart", spec := "worldApart", inPlace := ["maps.clone"], unfollowed := true, recurses := true, apart := false }
def WorldApartSaid : Prop := worldApartRow.holds Try.pinned (OpenSpec.ofChange worldApartSpec)

/-- ITS FALSE NEIGHBOUR: 'it returns false'. Refute it at one input. -/
def worldApartWrong : ChangeSpec := { name := "worldApart", fn := fun _ => fun
  | [d1, d2, d3, d4, d5, d6] => { results := [.lit (.bool false)], args := [d1, d2, d3, d4, d5, d6] }
  | _ => none }
def WorldApartWrongFalsely : Prop := worldApartRow.holds Try.pinned (OpenSpec.ofChange worldApartWrong)

/-- 'vedettelaw12.WorldFree': WHATEVER THE INPUT: true; the input reads as it did. -/
def worldFreeSpec : ChangeSpec := { name := "worldFree", fn := fun _ => fun
  | [d1, d2] => { results := [.lit (.bool true)], args := [d1, d2] }
  | _ => none }
def worldFreeRow : OpenClaim := { program := "ytnncbfpkeikfaaa", sum := "ec3080fd20ba101c702e3ae6ef243dd13c2b9e2136b501560d501ecfbf37cbf1", func := "vedette/vedettelaw12.WorldFree", spec := "worldFree", inPlace := ["maps.clone"], unfollowed := true, recurses := true, apart := false }
def WorldFreeSaid : Prop := worldFreeRow.holds Try.pinned (OpenSpec.ofChange worldFreeSpec)

/-- ITS FALSE NEIGHBOUR: 'it returns false'. Refute it at one input. -/
def worldFreeWrong : ChangeSpec := { name := "worldFree", fn := fun _ => fun
  | [d1, d2] => { results := [.lit (.bool false)], args := [d1, d2] }
  | _ => none }
def WorldFreeWrongFalsely : Prop := worldFreeRow.holds Try.pinned (OpenSpec.ofChange worldFreeWrong)

/-- 'vedettelaw12.WorldLast': WHATEVER THE INPUT: true; the input reads as it did. -/
def worldLastSpec : ChangeSpec := { name := "worldLast", fn := fun _ => fun
  | [d1, d2] => { results := [.lit (.bool true)], args := [d1, d2] }
  | _ => none }
def worldLastRow : OpenClaim := { program := "ytnncbfpkeikfaaa", sum := "ec3080fd20ba101c702e3ae6ef243dd13c2b9e2136b501560d501ecfbf37cbf1", func := "vedette/vedettelaw12.WorldLast", spec := "worldLast", inPlace := ["maps.clone"], unfollowed := true, recurses := true, apart := false }
def WorldLastSaid : Prop := worldLastRow.holds Try.pinned (OpenSpec.ofChange worldLastSpec)

/-- ITS FALSE NEIGHBOUR: 'it returns false'. Refute it at one input. -/
def worldLastWrong : ChangeSpec := { name := "worldLast", fn := fun _ => fun
  | [d1, d2] => { results := [.lit (.bool false)], args := [d1, d2] }
  | _ => none }
def WorldLastWrongFalsely : Prop := worldLastRow.holds Try.pinned (OpenSpec.ofChange worldLastWrong)

/- THE SECOND FORM. 'bulk': how many values and letters a reading holds, each counted each time it is reached (what is shared counts as often as it is met; a slice's spare places count too). A statement '..UptoSaid' is the law's where the arguments, and the package variables that the reading takes, are together of bulk at most 1048576: NARROWER than '..Said'. Prove '..Said' where nothing that the law and all that it calls make is longer than what came in: it says more and counts as full. Else prove '..UptoSaid'. A law counts once. -/
mutual
def uptoBulk {H : Type} : DataW H → Nat
  | .lit (.string bytes) => bytes.length + 1
  | .lit _ => 1
  | .nil => 1
  | .ptr d => uptoBulk d + 1
  | .slice elems spare => uptoBulkAll elems + uptoBulkAll spare + 1
  | .agg parts => uptoBulkAll parts + 1
  | .iface _ d => uptoBulk d + 1
  | .map entries => uptoBulkEntries entries + 1
  | .held _ => 1
def uptoBulkAll {H : Type} : List (DataW H) → Nat
  | [] => 0
  | d :: r => uptoBulk d + uptoBulkAll r
def uptoBulkEntries {H : Type} : List (Lit × DataW H) → Nat
  | [] => 0
  | x :: r => uptoBulkEntry x + uptoBulkEntries r
def uptoBulkEntry {H : Type} : Lit × DataW H → Nat
  | (.string bytes, d) => bytes.length + uptoBulk d + 1
  | (_, d) => uptoBulk d + 1
 end
def uptoSmall : (H : Type) → List (DataW H) → Bool := fun _ ds => decide (uptoBulkAll ds ≤ 1048576)
def OpenSpec.upto (s : _root_.Go.ChangeSpec) : _root_.Go.OpenSpec := { _root_.Go.OpenSpec.ofChange s with cond := some uptoSmall }

/-- 'vedettelaw11.ActCells', WHERE WHAT IT READS IS OF BULK AT MOST 1048576: true; the input reads as it did. -/
def actCellsUptoRow : OpenClaim := { program := "ytnncbfpkeikfaaa", sum := "ec3080fd20ba101c702e3ae6ef243dd13c2b9e2136b501560d501ecfbf37cbf1", func := "vedette/vedettelaw11.ActCells", spec := "actCells", unfollowed := true, recurses := true, apart := false, narrowed := true }
def ActCellsUptoSaid : Prop := actCellsUptoRow.holds Try.pinned (OpenSpec.upto actCellsSpec)

/-- 'vedettelaw11.ActTwice', WHERE WHAT IT READS IS OF BULK AT MOST 1048576: true; the input reads as it did. -/
def actTwiceUptoRow : OpenClaim := { program := "ytnncbfpkeikfaaa", sum := "ec3080fd20ba101c702e3ae6ef243dd13c2b9e2136b501560d501ecfbf37cbf1", func := "vedette/vedettelaw11.ActTwice", spec := "actTwice", unfollowed := true, recurses := true, apart := false, narrowed := true }
def ActTwiceUptoSaid : Prop := actTwiceUptoRow.holds Try.pinned (OpenSpec.upto actTwiceSpec)

/-- 'vedettelaw11.ActSets', WHERE WHAT IT READS IS OF BULK AT MOST 1048576: true; the input reads as it did. -/
def actSetsUptoRow : OpenClaim := { program := "ytnncbfpkeikfaaa", sum := "ec3080fd20ba101c702e3ae6ef243dd13c2b9e2136b501560d501ecfbf37cbf1", func := "vedette/vedettelaw11.ActSets", spec := "actSets", unfollowed := true, recurses := true, apart := false, narrowed := true }
def ActSetsUptoSaid : Prop := actSetsUptoRow.holds Try.pinned (OpenSpec.upto actSetsSpec)

/-- 'vedettelaw11.ActDoes', WHERE WHAT IT READS IS OF BULK AT MOST 1048576: true; the input reads as it did. -/
def actDoesUptoRow : OpenClaim := { program := "ytnncbfpkeikfaaa", sum := "ec3080fd20ba101c702e3ae6ef243dd13c2b9e2136b501560d501ecfbf37cbf1", func := "vedette/vedettelaw11.ActDoes", spec := "actDoes", unfollowed := true, recurses := true, apart := false, narrowed := true }
def ActDoesUptoSaid : Prop := actDoesUptoRow.holds Try.pinned (OpenSpec.upto actDoesSpec)

/-- 'vedettelaw12.WorldApart', WHERE WHAT IT READS IS OF BULK AT MOST 1048576: true; the input reads as it did. -/
def worldApartUptoRow : OpenClaim := { program := "ytnncbfpkeikfaaa", sum := "ec3080fd20ba101c702e3ae6ef243dd13c2b9e2136b501560d501ecfbf37cbf1", func := "vedette/vedettelaw12.WorldApart", spec := "worldApart", inPlace := ["maps.clone"], unfollowed := true, recurses := true, apart := false, narrowed := true }
def WorldApartUptoSaid : Prop := worldApartUptoRow.holds Try.pinned (OpenSpec.upto worldApartSpec)

/-- 'vedettelaw12.WorldFree', WHERE WHAT IT READS IS OF BULK AT MOST 1048576: true; the input reads as it did. -/
def worldFreeUptoRow : OpenClaim := { program := "ytnncbfpkeikfaaa", sum := "ec3080fd20ba101c702e3ae6ef243dd13c2b9e2136b501560d501ecfbf37cbf1", func := "vedette/vedettelaw12.WorldFree", spec := "worldFree", inPlace := ["maps.clone"], unfollowed := true, recurses := true, apart := false, narrowed := true }
def WorldFreeUptoSaid : Prop := worldFreeUptoRow.holds Try.pinned (OpenSpec.upto worldFreeSpec)

/-- 'vedettelaw12.WorldLast', WHERE WHAT IT READS IS OF BULK AT MOST 1048576: true; the input reads as it did. -/
def worldLastUptoRow : OpenClaim := { program := "ytnncbfpkeikfaaa", sum := "ec3080fd20ba101c702e3ae6ef243dd13c2b9e2136b501560d501ecfbf37cbf1", func := "vedette/vedettelaw12.WorldLast", spec := "worldLast", inPlace := ["maps.clone"], unfollowed := true, recurses := true, apart := false, narrowed := true }
def WorldLastUptoSaid : Prop := worldLastUptoRow.holds Try.pinned (OpenSpec.upto worldLastSpec)

end Rows
end Go.Proofs.Ytnncbfpkeikfaaa
