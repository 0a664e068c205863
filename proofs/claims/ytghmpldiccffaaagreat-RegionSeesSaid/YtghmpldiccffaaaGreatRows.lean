/-
  No cell of these rows narrows 'for every input' (looked for: loops, veiled, ifaces, maps, wideKeys, modest, calm, conditions, laid).
  DERIVED. THE GIVEN ROWS OF THIS SEAT. 5 by the template 'for every input the law returns true; each argument reads behind the call as it read before'; 0 by the template 'total and deterministic' (their statements: YtghmpldiccffaaaGreatTotals.lean).
  GIVEN WITH THE SEED: the statements are not yours to turn. If you find one false, say at which input.
  Laid BY PROGRAM, IN A SANDBOX (cutbox-rows.mjs): the forced cells as the released guide's own fill.sh prints them over the translation 8c3de9dc4595889b… (all of the seat's roots in one cut). By AI agents, Wed Nov 11 2026. No macro, syntax, notation, axiom, sorry.
-/
import Derived.Test.YtghmpldiccffaaaGreatChecked
import GoSem.Claim
import GoSem.ClaimJoined
import GoSem.ClaimMapViews
import Derived.JoinedTies
import Derived.KernelRfl
namespace Go.Proofs.YtghmpldiccffaaaGreat
/- THE CELL 'sum', in the pinned program and in every row, IS THE sha256 OF THE DUMP (.gsa) THAT YtghmpldiccffaaaGreatProg.lean LOADS. Nothing in Lean hashes anything: it is a label: what it is worth is what the hold of that sum in a sandbox is worth. -/
noncomputable def Tryz.pinned : Pinned := { name := "ytghmpldiccffaaagreat", sum := "8c3de9dc4595889bd26ffe98edb281207ce56a2e318f779767c1d1a80f364ef1", checked := Tryz.checked }
namespace Rows
def none {H : Type} : Left H := { results := [], args := [] }

/-- 'vedettelaw18.RegionWorld': WHATEVER THE INPUT: true; the input reads as it did. -/
def regionWorldSpec : ChangeSpec := { name := "regionWorld", fn := fun _ => fun
  | [d1, d2] => { results := [.lit (.bool true)], args := [d1, d2] }
  | _ => none }
def regionWorldRow : OpenClaim := { program := "ytghmpldiccffaaagreat", sum := "8c3de9dc4595889bd26ffe98edb281207ce56a2e318f779767c1d1a80f364ef1", func := "vedette/vedettelaw18.RegionWorld", spec := "regionWorld", unfollowed := true, recurses := true, apart := false }
def RegionWorldSaid : Prop := regionWorldRow.holds Tryz.pinned (OpenSpec.ofChange regionWorldSpec)

/-- ITS FALSE NEIGHBOUR: 'it returns false'. Refute it at one input. -/
def regionWorldWrong : ChangeSpec := { name := "regionWorld", fn := fun _ => fun
  | [d1, d2] => { results := [.lit (.bool false)], args := [d1, d2] }
  | _ => none }
def RegionWorldWrongFalsely : Prop := regionWorldRow.holds Tryz.pinned (OpenSpec.ofChange regionWorldWrong)

/-- 'vedettelaw18.RegionNumbers': WHATEVER THE INPUT: true; the input reads as it did. -/
def regionNumbersSpec : ChangeSpec := { name := "regionNumbers", fn := fun _ => fun
  | [d1, d2, d3] => { results := [.lit (.bool true)], args := [d1, d2, d3] }
  | _ => none }
def regionNumbersRow : OpenClaim := { program := "ytghmpldiccffaaagreat", sum := "8c3de9dc4595889bd26ffe98edb281207ce56a2e318f779767c1d1a80f364ef1", func := "vedette/vedettelaw18.RegionNumbers", spec := "regionNumbers", unfollowed := true, recurses := true, apart := false }
def RegionNumbersSaid : Prop := regionNumbersRow.holds Tryz.pinned (OpenSpec.ofChange regionNumbersSpec)

/-- ITS FALSE NEIGHBOUR: 'it returns false'. Refute it at one input. -/
def regionNumbersWrong : ChangeSpec := { name := "regionNumbers", fn := fun _ => fun
  | [d1, d2, d3] => { results := [.lit (.bool false)], args := [d1, d2, d3] }
  | _ => none }
def RegionNumbersWrongFalsely : Prop := regionNumbersRow.holds Tryz.pinned (OpenSpec.ofChange regionNumbersWrong)

/-- 'vedettelaw18.RegionSees': WHATEVER THE INPUT: true; the input reads as it did. -/
def regionSeesSpec : ChangeSpec := { name := "regionSees", fn := fun _ => fun
  | [d1, d2] => { results := [.lit (.bool true)], args := [d1, d2] }
  | _ => none }
def regionSeesRow : OpenClaim := { program := "ytghmpldiccffaaagreat", sum := "8c3de9dc4595889bd26ffe98edb281207ce56a2e318f779767c1d1a80f364ef1", func := "vedette/vedettelaw18.RegionSees", spec := "regionSees", unfollowed := true, recurses := true, apart := false }
def RegionSeesSaid : Prop := regionSeesRow.holds Tryz.pinned (OpenSpec.ofChange regionSeesSpec)

/-- ITS FALSE NEIGHBOUR: 'it returns false'. Refute it at one input. -/
def regionSeesWrong : ChangeSpec := { name := "regionSees", fn := fun _ => fun
  | [d1, d2] => { results := [.lit (.bool false)], args := [d1, d2] }
  | _ => none }
def RegionSeesWrongFalsely : Prop := regionSeesRow.holds Tryz.pinned (OpenSpec.ofChange regionSeesWrong)

/-- 'vedettelaw18.RegionCross': WHATEVER THE INPUT: true; the input reads as it did. -/
def regionCrossSpec : ChangeSpec := { name := "regionCross", fn := fun _ => fun
  | [d1, d2, d3] => { results := [.lit (.bool true)], args := [d1, d2, d3] }
  | _ => none }
def regionCrossRow : OpenClaim := { program := "ytghmpldiccffaaagreat", sum := "8c3de9dc4595889bd26ffe98edb281207ce56a2e318f779767c1d1a80f364ef1", func := "vedette/vedettelaw18.RegionCross", spec := "regionCross", unfollowed := true, recurses := true, apart := false }
def RegionCrossSaid : Prop := regionCrossRow.holds Tryz.pinned (OpenSpec.ofChange regionCrossSpec)

/-- ITS FALSE NEIGHBOUR: 'it returns false'. Refute it at one input. -/
def regionCrossWrong : ChangeSpec := { name := "regionCross", fn := fun _ => fun
  | [d1, d2, d3] => { results := [.lit (.bool false)], args := [d1, d2, d3] }
  | _ => none }
def RegionCrossWrongFalsely : Prop := regionCrossRow.holds Tryz.pinned (OpenSpec.ofChange regionCrossWrong)

/-- 'vedettelaw18.RegionCopies': WHATEVER THE INPUT: true; the input reads as it did. -/
def regionCopiesSpec : ChangeSpec := { name := "regionCopies", fn := fun _ => fun
  | [d1, d2] => { results := [.lit (.bool true)], args := [d1, d2] }
  | _ => none }
def regionCopiesRow : OpenClaim := { program := "ytghmpldiccffaaagreat", sum := "8c3de9dc4595889bd26ffe98edb281207ce56a2e318f779767c1d1a80f364ef1", func := "vedette/vedettelaw18.RegionCopies", spec := "regionCopies", unfollowed := true, recurses := true, apart := false }
def RegionCopiesSaid : Prop := regionCopiesRow.holds Tryz.pinned (OpenSpec.ofChange regionCopiesSpec)

/-- ITS FALSE NEIGHBOUR: 'it returns false'. Refute it at one input. -/
def regionCopiesWrong : ChangeSpec := { name := "regionCopies", fn := fun _ => fun
  | [d1, d2] => { results := [.lit (.bool false)], args := [d1, d2] }
  | _ => none }
def RegionCopiesWrongFalsely : Prop := regionCopiesRow.holds Tryz.pinned (OpenSpec.ofChange regionCopiesWrong)

/- THE SECOND FORM. 'bulk': how many values and letters a reading holds, each counted each time it is reached (what is shared counts as often as it is met; a slice's spare places count too). A statement '..UptoSaid' is the law's where the arguments, and the package variables that the reading takes, are together of bulk at most 1048576: NARROWER than '..Said'. Prove '..Said' where nothing that the law and all that it calls make is longer than what came in: it says more and counts as full. Else prove '..UptoSaid'. A law counts once. -/
mutual
def uptoBulk {H : Type} : DataW H → Nat
  | .lit (.string bytes) => bytes.length + 1
  | .lit _ => 1
  | .nil => 1
  | .ptr d => uptoBulk d + 1
  | .slice elems spare => uptoBulkAll elems + uptoBulkAll spare + 1
  | .agg parts => uptoBulkAll parts + 1
  | .iface _ d => uptoBulk d + 1
  | .map entries => uptoBulkEntries entries + 1
  | .held _ => 1
def uptoBulkAll {H : Type} : List (DataW H) → Nat
  | [] => 0
  | d :: r => uptoBulk d + uptoBulkAll r
def uptoBulkEntries {H : Type} : List (Lit × DataW H) → Nat
  | [] => 0
  | x :: r => uptoBulkEntry x + uptoBulkEntries r
def uptoBulkEntry {H : Type} : Lit × DataW H → Nat
  | (.string bytes, d) => bytes.length + uptoBulk d + 1
  | (_, d) => uptoBulk d + 1
 end
def uptoSmall : (H : Type) → List (DataW H) → Bool := fun _ ds => decide (uptoBulkAll ds ≤ 1048576)
def OpenSpec.upto (s : _root_.Go.ChangeSpec) : _root_.Go.OpenSpec := { _root_.Go.OpenSpec.ofChange s with cond := some uptoSmall }

/-- 'vedettelaw18.RegionWorld', WHERE WHAT IT READS IS OF BULK AT MOST 1048576: true; the input reads as it did. -/
def regionWorldUptoRow : OpenClaim := { program := "ytghmpldiccffaaagreat", sum := "8c3de9dc4595889bd26ffe98edb281207ce56a2e318f779767c1d1a80f364ef1", func := "vedette/vedettelaw18.RegionWorld", spec := "regionWorld", unfollowed := true, recurses := true, apart := false, narrowed := true }
def RegionWorldUptoSaid : Prop := regionWorldUptoRow.holds Tryz.pinned (OpenSpec.upto regionWorldSpec)

/-- 'vedettelaw18.RegionNumbers', WHERE WHAT IT READS IS OF BULK AT MOST 1048576: true; the input reads as it did. -/
def regionNumbersUptoRow : OpenClaim := { program := "ytghmpldiccffaaagreat", sum := "8c3de9dc4595889bd26ffe98edb281207ce56a2e318f779767c1d1a80f364ef1", func := "vedette/vedettelaw18.RegionNumbers", spec := "regionNumbers", unfollowed := true, recurses := true, apart := false, narrowed := true }
def RegionNumbersUptoSaid : Prop := regionNumbersUptoRow.holds Tryz.pinned (OpenSpec.upto regionNumbersSpec)

/-- 'vedettelaw18.RegionSees', WHERE WHAT IT READS IS OF BULK AT MOST 1048576: true; the input reads as it did. -/
def regionSeesUptoRow : OpenClaim := { program := "ytghmpldiccffaaagreat", sum := "8c3de9dc4595889bd26ffe98edb281207ce56a2e318f779767c1d1a80f364ef1", func := "vedette/vedettelaw18.RegionSees", spec := "regionSees", unfollowed := true, recurses := true, apart := false, narrowed := true }
def RegionSeesUptoSaid : Prop := regionSeesUptoRow.holds Tryz.pinned (OpenSpec.upto regionSeesSpec)

/-- 'vedettelaw18.RegionCross', WHERE WHAT IT READS IS OF BULK AT MOST 1048576: true; the input reads as it did. -/
def regionCrossUptoRow : OpenClaim := { program := "ytghmpldiccffaaagreat", sum := "8c3de9dc4595889bd26ffe98edb281207ce56a2e318f779767c1d1a80f364ef1", func := "vedette/vedettelaw18.RegionCross", spec := "regionCross", unfollowed := true, recurses := true, apart := false, narrowed := true }
def RegionCrossUptoSaid : Prop := regionCrossUptoRow.holds Tryz.pinned (OpenSpec.upto regionCrossSpec)

/-- 'vedettelaw18.RegionCopies', WHERE WHAT IT READS IS OF BULK AT MOST 1048576: true; the input reads as it did. -/
def regionCopiesUptoRow : OpenClaim := { program := "ytghmpldiccffaaagreat", sum := "8c3de9dc4595889bd26ffe98edb281207ce56a2e318f779767c1d1a80f364ef1", func := "vedette/vedettelaw18.RegionCopies", spec := "regionCopies", unfollowed := true, recurses := true, apart := false, narrowed := true }
def RegionCopiesUptoSaid : Prop := regionCopiesUptoRow.holds Tryz.pinned (OpenSpec.upto regionCopiesSpec)

end Rows
end Go.Proofs.YtghmpldiccffaaaGreat
