/-
  No cell of these rows narrows 'for every input' (looked for: loops, veiled, ifaces, maps, wideKeys, modest, calm, conditions, laid).
  DERIVED. THE GIVEN ROWS OF THIS SEAT. 8 by the template 'for every input the law returns true; each argument reads behind the call as it read before'; 0 by the template 'total and deterministic' (their statements: YtplfaoobmdgiaaaTotals.lean).
  GIVEN WITH THE SEED: the statements are not yours to turn. If you find one false, say at which input.
  Laid BY PROGRAM, IN A SANDBOX (cutbox-rows.mjs): the forced cells as the released guide's own fill.sh prints them over the translation db568368cc65b89a… (all of the seat's roots in one cut). By AI agents, Wed Nov 11 2026. No macro, syntax, notation, axiom, sorry.
-/
import Derived.Test.YtplfaoobmdgiaaaChecked
import GoSem.Claim
import GoSem.ClaimJoined
import GoSem.ClaimMapViews
import Derived.JoinedTies
import Derived.KernelRfl
namespace Go.Proofs.Ytplfaoobmdgiaaa
/- THE CELL 'sum', in the pinned program and in every row, IS THE sha256 OF THE DUMP (.gsa) THAT YtplfaoobmdgiaaaProg.lean LOADS. Nothing in Lean hashes anything: it is a label: what it is worth is what the hold of that sum in a sandbox is worth. -/
noncomputable def Try.pinned : Pinned := { name := "ytplfaoobmdgiaaa", sum := "db568368cc65b89a15639fb8c5d10c236e229713cfb850ba91dec8e0dfd23a0d", checked := Try.checked }
namespace Rows
def none {H : Type} : Left H := { results := [], args := [] }

/-- 'vedettelaw8.QuadPlays': WHATEVER THE INPUT: true; the input reads as it did. -/
def quadPlaysSpec : ChangeSpec := { name := "quadPlays", fn := fun _ => fun
  | [d] => { results := [.lit (.bool true)], args := [d] }
  | _ => none }
def quadPlaysRow : OpenClaim := { program := "ytplfaoobmdgiaaa", sum := "db568368cc65b89a15639fb8c5d10c236e229713cfb850ba91dec8e0dfd23a0d", func := "vedette/vedettelaw8.QuadPlays", spec := "quadPlays", unfollowed := true, recurses := true, apart := false }
def QuadPlaysSaid : Prop := quadPlaysRow.holds Try.pinned (OpenSpec.ofChange quadPlaysSpec)

/-- ITS FALSE NEIGHBOUR: 'it returns false'. Refute it at one input. -/
def quadPlaysWrong : ChangeSpec := { name := "quadPlays", fn := fun _ => fun
  | [d] => { results := [.lit (.bool false)], args := [d] }
  | _ => none }
def QuadPlaysWrongFalsely : Prop := quadPlaysRow.holds Try.pinned (OpenSpec.ofChange quadPlaysWrong)

/-- 'vedettelaw8.QuadFinds': WHATEVER THE INPUT: true; the input reads as it did. -/
def quadFindsSpec : ChangeSpec := { name := "quadFinds", fn := fun _ => fun
  | [d1, d2, d3] => { results := [.lit (.bool true)], args := [d1, d2, d3] }
  | _ => none }
def quadFindsRow : OpenClaim := { program := "ytplfaoobmdgiaaa", sum := "db568368cc65b89a15639fb8c5d10c236e229713cfb850ba91dec8e0dfd23a0d", func := "vedette/vedettelaw8.QuadFinds", spec := "quadFinds", unfollowed := true, recurses := true, apart := false }
def QuadFindsSaid : Prop := quadFindsRow.holds Try.pinned (OpenSpec.ofChange quadFindsSpec)

/-- ITS FALSE NEIGHBOUR: 'it returns false'. Refute it at one input. -/
def quadFindsWrong : ChangeSpec := { name := "quadFinds", fn := fun _ => fun
  | [d1, d2, d3] => { results := [.lit (.bool false)], args := [d1, d2, d3] }
  | _ => none }
def QuadFindsWrongFalsely : Prop := quadFindsRow.holds Try.pinned (OpenSpec.ofChange quadFindsWrong)

/-- 'vedettelaw8.QuadFull': WHATEVER THE INPUT: true; the input reads as it did. -/
def quadFullSpec : ChangeSpec := { name := "quadFull", fn := fun _ => fun
  | [d1, d2] => { results := [.lit (.bool true)], args := [d1, d2] }
  | _ => none }
def quadFullRow : OpenClaim := { program := "ytplfaoobmdgiaaa", sum := "db568368cc65b89a15639fb8c5d10c236e229713cfb850ba91dec8e0dfd23a0d", func := "vedette/vedettelaw8.QuadFull", spec := "quadFull", unfollowed := true, recurses := true, apart := false }
def QuadFullSaid : Prop := quadFullRow.holds Try.pinned (OpenSpec.ofChange quadFullSpec)

/-- ITS FALSE NEIGHBOUR: 'it returns false'. Refute it at one input. -/
def quadFullWrong : ChangeSpec := { name := "quadFull", fn := fun _ => fun
  | [d1, d2] => { results := [.lit (.bool false)], args := [d1, d2] }
  | _ => none }
def QuadFullWrongFalsely : Prop := quadFullRow.holds Try.pinned (OpenSpec.ofChange quadFullWrong)

/-- 'vedettelaw8.QuadMerges': WHATEVER THE INPUT: true; the input reads as it did. -/
def quadMergesSpec : ChangeSpec := { name := "quadMerges", fn := fun _ => fun
  | [d1, d2, d3] => { results := [.lit (.bool true)], args := [d1, d2, d3] }
  | _ => none }
def quadMergesRow : OpenClaim := { program := "ytplfaoobmdgiaaa", sum := "db568368cc65b89a15639fb8c5d10c236e229713cfb850ba91dec8e0dfd23a0d", func := "vedette/vedettelaw8.QuadMerges", spec := "quadMerges", unfollowed := true, recurses := true, apart := false }
def QuadMergesSaid : Prop := quadMergesRow.holds Try.pinned (OpenSpec.ofChange quadMergesSpec)

/-- ITS FALSE NEIGHBOUR: 'it returns false'. Refute it at one input. -/
def quadMergesWrong : ChangeSpec := { name := "quadMerges", fn := fun _ => fun
  | [d1, d2, d3] => { results := [.lit (.bool false)], args := [d1, d2, d3] }
  | _ => none }
def QuadMergesWrongFalsely : Prop := quadMergesRow.holds Try.pinned (OpenSpec.ofChange quadMergesWrong)

/-- 'vedettelaw9.TablePlays': WHATEVER THE INPUT: true; the input reads as it did. -/
def tablePlaysSpec : ChangeSpec := { name := "tablePlays", fn := fun _ => fun
  | [d] => { results := [.lit (.bool true)], args := [d] }
  | _ => none }
def tablePlaysRow : OpenClaim := { program := "ytplfaoobmdgiaaa", sum := "db568368cc65b89a15639fb8c5d10c236e229713cfb850ba91dec8e0dfd23a0d", func := "vedette/vedettelaw9.TablePlays", spec := "tablePlays", inPlace := ["maps.clone"], unfollowed := true, recurses := true, apart := false }
def TablePlaysSaid : Prop := tablePlaysRow.holds Try.pinned (OpenSpec.ofChange tablePlaysSpec)

/-- ITS FALSE NEIGHBOUR: 'it returns false'. Refute it at one input. -/
def tablePlaysWrong : ChangeSpec := { name := "tablePlays", fn := fun _ => fun
  | [d] => { results := [.lit (.bool false)], args := [d] }
  | _ => none }
def TablePlaysWrongFalsely : Prop := tablePlaysRow.holds Try.pinned (OpenSpec.ofChange tablePlaysWrong)

/-- 'vedettelaw9.TableCells': WHATEVER THE INPUT: true; the input reads as it did. -/
def tableCellsSpec : ChangeSpec := { name := "tableCells", fn := fun _ => fun
  | [d] => { results := [.lit (.bool true)], args := [d] }
  | _ => none }
def tableCellsRow : OpenClaim := { program := "ytplfaoobmdgiaaa", sum := "db568368cc65b89a15639fb8c5d10c236e229713cfb850ba91dec8e0dfd23a0d", func := "vedette/vedettelaw9.TableCells", spec := "tableCells", inPlace := ["maps.clone"], unfollowed := true, recurses := true, apart := false }
def TableCellsSaid : Prop := tableCellsRow.holds Try.pinned (OpenSpec.ofChange tableCellsSpec)

/-- ITS FALSE NEIGHBOUR: 'it returns false'. Refute it at one input. -/
def tableCellsWrong : ChangeSpec := { name := "tableCells", fn := fun _ => fun
  | [d] => { results := [.lit (.bool false)], args := [d] }
  | _ => none }
def TableCellsWrongFalsely : Prop := tableCellsRow.holds Try.pinned (OpenSpec.ofChange tableCellsWrong)

/-- 'vedettelaw9.TableMoves': WHATEVER THE INPUT: true; the input reads as it did. -/
def tableMovesSpec : ChangeSpec := { name := "tableMoves", fn := fun _ => fun
  | [d1, d2] => { results := [.lit (.bool true)], args := [d1, d2] }
  | _ => none }
def tableMovesRow : OpenClaim := { program := "ytplfaoobmdgiaaa", sum := "db568368cc65b89a15639fb8c5d10c236e229713cfb850ba91dec8e0dfd23a0d", func := "vedette/vedettelaw9.TableMoves", spec := "tableMoves", inPlace := ["maps.clone"], unfollowed := true, recurses := true, apart := false }
def TableMovesSaid : Prop := tableMovesRow.holds Try.pinned (OpenSpec.ofChange tableMovesSpec)

/-- ITS FALSE NEIGHBOUR: 'it returns false'. Refute it at one input. -/
def tableMovesWrong : ChangeSpec := { name := "tableMoves", fn := fun _ => fun
  | [d1, d2] => { results := [.lit (.bool false)], args := [d1, d2] }
  | _ => none }
def TableMovesWrongFalsely : Prop := tableMovesRow.holds Try.pinned (OpenSpec.ofChange tableMovesWrong)

/-- 'vedettelaw9.TableFull': WHATEVER THE INPUT: true; the input reads as it did. -/
def tableFullSpec : ChangeSpec := { name := "tableFull", fn := fun _ => fun
  | [d] => { results := [.lit (.bool true)], args := [d] }
  | _ => none }
def tableFullRow : OpenClaim := { program := "ytplfaoobmdgiaaa", sum := "db568368cc65b89a15639fb8c5d10c236e229713cfb850ba91dec8e0dfd23a0d", func := "vedette/vedettelaw9.TableFull", spec := "tableFull", inPlace := ["maps.clone"], unfollowed := true, recurses := true, apart := false }
def TableFullSaid : Prop := tableFullRow.holds Try.pinned (OpenSpec.ofChange tableFullSpec)

/-- ITS FALSE NEIGHBOUR: 'it returns false'. Refute it at one input. -/
def tableFullWrong : ChangeSpec := { name := "tableFull", fn := fun _ => fun
  | [d] => { results := [.lit (.bool false)], args := [d] }
  | _ => none }
def TableFullWrongFalsely : Prop := tableFullRow.holds Try.pinned (OpenSpec.ofChange tableFullWrong)

/- THE SECOND FORM. 'bulk': how many values and letters a reading holds, each counted each time it is reached (what is shared counts as often as it is met; a slice's spare places count too). A statement '..UptoSaid' is the law's where the arguments, and the package variables that the reading takes, are together of bulk at most 1048576: NARROWER than '..Said'. Prove '..Said' where nothing that the law and all that it calls make is longer than what came in: it says more and counts as full. Else prove '..UptoSaid'. A law counts once. -/
mutual
def uptoBulk {H : Type} : DataW H → Nat
  | .lit (.string bytes) => bytes.length + 1
  | .lit _ => 1
  | .nil => 1
  | .ptr d => uptoBulk d + 1
  | .slice elems spare => uptoBulkAll elems + uptoBulkAll spare + 1
  | .agg parts => uptoBulkAll parts + 1
  | .iface _ d => uptoBulk d + 1
  | .map entries => uptoBulkEntries entries + 1
  | .held _ => 1
def uptoBulkAll {H : Type} : List (DataW H) → Nat
  | [] => 0
  | d :: r => uptoBulk d + uptoBulkAll r
def uptoBulkEntries {H : Type} : List (Lit × DataW H) → Nat
  | [] => 0
  | x :: r => uptoBulkEntry x + uptoBulkEntries r
def uptoBulkEntry {H : Type} : Lit × DataW H → Nat
  | (.string bytes, d) => bytes.length + uptoBulk d + 1
  | (_, d) => uptoBulk d + 1
 end
def uptoSmall : (H : Type) → List (DataW H) → Bool := fun _ ds => decide (uptoBulkAll ds ≤ 1048576)
def OpenSpec.upto (s : _root_.Go.ChangeSpec) : _root_.Go.OpenSpec := { _root_.Go.OpenSpec.ofChange s with cond := some uptoSmall }

/-- 'vedettelaw8.QuadPlays', WHERE WHAT IT READS IS OF BULK AT MOST 1048576: true; the input reads as it did. -/
def quadPlaysUptoRow : OpenClaim := { program := "ytplfaoobmdgiaaa", sum := "db568368cc65b89a15639fb8c5d10c236e229713cfb850ba91dec8e0dfd23a0d", func := "vedette/vedettelaw8.QuadPlays", spec := "quadPlays", unfollowed := true, recurses := true, apart := false, narrowed := true }
def QuadPlaysUptoSaid : Prop := quadPlaysUptoRow.holds Try.pinned (OpenSpec.upto quadPlaysSpec)

/-- 'vedettelaw8.QuadFinds', WHERE WHAT IT READS IS OF BULK AT MOST 1048576: true; the input reads as it did. -/
def quadFindsUptoRow : OpenClaim := { program := "ytplfaoobmdgiaaa", sum := "db568368cc65b89a15639fb8c5d10c236e229713cfb850ba91dec8e0dfd23a0d", func := "vedette/vedettelaw8.QuadFinds", spec := "quadFinds", unfollowed := true, recurses := true, apart := false, narrowed := true }
def QuadFindsUptoSaid : Prop := quadFindsUptoRow.holds Try.pinned (OpenSpec.upto quadFindsSpec)

/-- 'vedettelaw8.QuadFull', WHERE WHAT IT READS IS OF BULK AT MOST 1048576: true; the input reads as it did. -/
def quadFullUptoRow : OpenClaim := { program := "ytplfaoobmdgiaaa", sum := "db568368cc65b89a15639fb8c5d10c236e229713cfb850ba91dec8e0dfd23a0d", func := "vedette/vedettelaw8.QuadFull", spec := "quadFull", unfollowed := true, recurses := true, apart := false, narrowed := true }
def QuadFullUptoSaid : Prop := quadFullUptoRow.holds Try.pinned (OpenSpec.upto quadFullSpec)

/-- 'vedettelaw8.QuadMerges', WHERE WHAT IT READS IS OF BULK AT MOST 1048576: true; the input reads as it did. -/
def quadMergesUptoRow : OpenClaim := { program := "ytplfaoobmdgiaaa", sum := "db568368cc65b89a15639fb8c5d10c236e229713cfb850ba91dec8e0dfd23a0d", func := "vedette/vedettelaw8.QuadMerges", spec := "quadMerges", unfollowed := true, recurses := true, apart := false, narrowed := true }
def QuadMergesUptoSaid : Prop := quadMergesUptoRow.holds Try.pinned (OpenSpec.upto quadMergesSpec)

/-- 'vedettelaw9.TablePlays', WHERE WHAT IT READS IS OF BULK AT MOST 1048576: true; the input reads as it did. -/
def tablePlaysUptoRow : OpenClaim := { program := "ytplfaoobmdgiaaa", sum := "db568368cc65b89a15639fb8c5d10c236e229713cfb850ba91dec8e0dfd23a0d", func := "vedette/vedettelaw9.TablePlays", spec := "tablePlays", inPlace := ["maps.clone"], unfollowed := true, recurses := true, apart := false, narrowed := true }
def TablePlaysUptoSaid : Prop := tablePlaysUptoRow.holds Try.pinned (OpenSpec.upto tablePlaysSpec)

/-- 'vedettelaw9.TableCells', WHERE WHAT IT READS IS OF BULK AT MOST 1048576: true; the input reads as it did. -/
def tableCellsUptoRow : OpenClaim := { program := "ytplfaoobmdgiaaa", sum := "db568368cc65b89a15639fb8c5d10c236e229713cfb850ba91dec8e0dfd23a0d", func := "vedette/vedettelaw9.TableCells", spec := "tableCells", inPlace := ["maps.clone"], unfollowed := true, recurses := true, apart := false, narrowed := true }
def TableCellsUptoSaid : Prop := tableCellsUptoRow.holds Try.pinned (OpenSpec.upto tableCellsSpec)

/-- 'vedettelaw9.TableMoves', WHERE WHAT IT READS IS OF BULK AT MOST 1048576: true; the input reads as it did. -/
def tableMovesUptoRow : OpenClaim := { program := "ytplfaoobmdgiaaa", sum := "db568368cc65b89a15639fb8c5d10c236e229713cfb850ba91dec8e0dfd23a0d", func := "vedette/vedettelaw9.TableMoves", spec := "tableMoves", inPlace := ["maps.clone"], unfollowed := true, recurses := true, apart := false, narrowed := true }
def TableMovesUptoSaid : Prop := tableMovesUptoRow.holds Try.pinned (OpenSpec.upto tableMovesSpec)

/-- 'vedettelaw9.TableFull', WHERE WHAT IT READS IS OF BULK AT MOST 1048576: true; the input reads as it did. -/
def tableFullUptoRow : OpenClaim := { program := "ytplfaoobmdgiaaa", sum := "db568368cc65b89a15639fb8c5d10c236e229713cfb850ba91dec8e0dfd23a0d", func := "vedette/vedettelaw9.TableFull", spec := "tableFull", inPlace := ["maps.clone"], unfollowed := true, recurses := true, apart := false, narrowed := true }
def TableFullUptoSaid : Prop := tableFullUptoRow.holds Try.pinned (OpenSpec.upto tableFullSpec)

end Rows
end Go.Proofs.Ytplfaoobmdgiaaa
