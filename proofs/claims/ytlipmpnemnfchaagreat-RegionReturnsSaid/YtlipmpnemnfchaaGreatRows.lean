/-
  No cell of these rows narrows 'for every input' (looked for: loops, veiled, ifaces, maps, wideKeys, modest, calm, conditions, laid).
  DERIVED. THE GIVEN ROWS OF THIS SEAT. 7 by the template 'for every input the law returns true; each argument reads behind the call as it read before'; 0 by the template 'total and deterministic' (their statements: YtlipmpnemnfchaaGreatTotals.lean).
  GIVEN WITH THE SEED: the statements are not yours to turn. If you find one false, say at which input.
  Laid BY PROGRAM, IN A SANDBOX (cutbox-rows.mjs): the forced cells as the released guide's own fill.sh prints them over the translation 1afc734b3a960493… (all of the seat's roots in one cut). By AI agents, Wed Nov 11 2026. No macro, syntax, notation, axiom, sorry.
-/
import Derived.Test.YtlipmpnemnfchaaGreatChecked
import GoSem.Claim
import GoSem.ClaimJoined
import GoSem.ClaimMapViews
import Derived.JoinedTies
import Derived.KernelRfl
namespace Go.Proofs.YtlipmpnemnfchaaGreat
/- THE CELL 'sum', in the pinned program and in every row, IS THE sha256 OF THE DUMP (.gsa) THAT YtlipmpnemnfchaaGreatProg.lean LOADS. Nothing in Lean hashes anything: it is a label: what it is worth is what the hold of that sum in a sandbox is worth. -/
noncomputable def Tryz.pinned : Pinned := { name := "ytlipmpnemnfchaagreat", sum := "1afc734b3a960493525ec85ed798f92f91e7fbd4919baed2f77b1637eec4c817", checked := Tryz.checked }
namespace Rows
def none {H : Type} : Left H := { results := [], args := [] }

/-- 'vedettelaw26.JudgeBeats': WHATEVER THE INPUT: true; the input reads as it did. -/
def judgeBeatsSpec : ChangeSpec := { name := "judgeBeats", fn := fun _ => fun
  | [d1, d2] => { results := [.lit (.bool true)], args := [d1, d2] }
  | _ => none }
def judgeBeatsRow : OpenClaim := { program := "ytlipmpnemnfchaagreat", sum := "1afc734b3a960493525ec85ed798f92f91e7fbd4919baed2f77b1637eec4c817", func := "vedette/vedettelaw26.JudgeBeats", spec := "judgeBeats", inPlace := ["slices.overlaps[vedette/api.Thing]"], unfollowed := true, recurses := true, plainKeys := false, apart := false }
def JudgeBeatsSaid : Prop := judgeBeatsRow.holds Tryz.pinned (OpenSpec.ofChange judgeBeatsSpec)

/-- ITS FALSE NEIGHBOUR: 'it returns false'. Refute it at one input. -/
def judgeBeatsWrong : ChangeSpec := { name := "judgeBeats", fn := fun _ => fun
  | [d1, d2] => { results := [.lit (.bool false)], args := [d1, d2] }
  | _ => none }
def JudgeBeatsWrongFalsely : Prop := judgeBeatsRow.holds Tryz.pinned (OpenSpec.ofChange judgeBeatsWrong)

/-- 'vedettelaw27.AuditFinds': WHATEVER THE INPUT: true; the input reads as it did. -/
def auditFindsSpec : ChangeSpec := { name := "auditFinds", fn := fun _ => fun
  | [d1, d2] => { results := [.lit (.bool true)], args := [d1, d2] }
  | _ => none }
def auditFindsRow : OpenClaim := { program := "ytlipmpnemnfchaagreat", sum := "1afc734b3a960493525ec85ed798f92f91e7fbd4919baed2f77b1637eec4c817", func := "vedette/vedettelaw27.AuditFinds", spec := "auditFinds", unfollowed := true, recurses := true, plainKeys := false, apart := false }
def AuditFindsSaid : Prop := auditFindsRow.holds Tryz.pinned (OpenSpec.ofChange auditFindsSpec)

/-- ITS FALSE NEIGHBOUR: 'it returns false'. Refute it at one input. -/
def auditFindsWrong : ChangeSpec := { name := "auditFinds", fn := fun _ => fun
  | [d1, d2] => { results := [.lit (.bool false)], args := [d1, d2] }
  | _ => none }
def AuditFindsWrongFalsely : Prop := auditFindsRow.holds Tryz.pinned (OpenSpec.ofChange auditFindsWrong)

/-- 'vedettelaw18.RegionOpen': WHATEVER THE INPUT: true; the input reads as it did. -/
def regionOpenSpec : ChangeSpec := { name := "regionOpen", fn := fun _ => fun
  | [d] => { results := [.lit (.bool true)], args := [d] }
  | _ => none }
def regionOpenRow : OpenClaim := { program := "ytlipmpnemnfchaagreat", sum := "1afc734b3a960493525ec85ed798f92f91e7fbd4919baed2f77b1637eec4c817", func := "vedette/vedettelaw18.RegionOpen", spec := "regionOpen", unfollowed := true, recurses := true, plainKeys := false, apart := false }
def RegionOpenSaid : Prop := regionOpenRow.holds Tryz.pinned (OpenSpec.ofChange regionOpenSpec)

/-- ITS FALSE NEIGHBOUR: 'it returns false'. Refute it at one input. -/
def regionOpenWrong : ChangeSpec := { name := "regionOpen", fn := fun _ => fun
  | [d] => { results := [.lit (.bool false)], args := [d] }
  | _ => none }
def RegionOpenWrongFalsely : Prop := regionOpenRow.holds Tryz.pinned (OpenSpec.ofChange regionOpenWrong)

/-- 'vedettelaw18.RegionHands': WHATEVER THE INPUT: true; the input reads as it did. -/
def regionHandsSpec : ChangeSpec := { name := "regionHands", fn := fun _ => fun
  | [d1, d2] => { results := [.lit (.bool true)], args := [d1, d2] }
  | _ => none }
def regionHandsRow : OpenClaim := { program := "ytlipmpnemnfchaagreat", sum := "1afc734b3a960493525ec85ed798f92f91e7fbd4919baed2f77b1637eec4c817", func := "vedette/vedettelaw18.RegionHands", spec := "regionHands", unfollowed := true, recurses := true, plainKeys := false, apart := false }
def RegionHandsSaid : Prop := regionHandsRow.holds Tryz.pinned (OpenSpec.ofChange regionHandsSpec)

/-- ITS FALSE NEIGHBOUR: 'it returns false'. Refute it at one input. -/
def regionHandsWrong : ChangeSpec := { name := "regionHands", fn := fun _ => fun
  | [d1, d2] => { results := [.lit (.bool false)], args := [d1, d2] }
  | _ => none }
def RegionHandsWrongFalsely : Prop := regionHandsRow.holds Tryz.pinned (OpenSpec.ofChange regionHandsWrong)

/-- 'vedettelaw18.RegionWrong': WHATEVER THE INPUT: true; the input reads as it did. -/
def regionWrongSpec : ChangeSpec := { name := "regionWrong", fn := fun _ => fun
  | [d1, d2] => { results := [.lit (.bool true)], args := [d1, d2] }
  | _ => none }
def regionWrongRow : OpenClaim := { program := "ytlipmpnemnfchaagreat", sum := "1afc734b3a960493525ec85ed798f92f91e7fbd4919baed2f77b1637eec4c817", func := "vedette/vedettelaw18.RegionWrong", spec := "regionWrong", unfollowed := true, recurses := true, plainKeys := false, apart := false }
def RegionWrongSaid : Prop := regionWrongRow.holds Tryz.pinned (OpenSpec.ofChange regionWrongSpec)

/-- ITS FALSE NEIGHBOUR: 'it returns false'. Refute it at one input. -/
def regionWrongWrong : ChangeSpec := { name := "regionWrong", fn := fun _ => fun
  | [d1, d2] => { results := [.lit (.bool false)], args := [d1, d2] }
  | _ => none }
def RegionWrongWrongFalsely : Prop := regionWrongRow.holds Tryz.pinned (OpenSpec.ofChange regionWrongWrong)

/-- 'vedettelaw18.RegionCross': WHATEVER THE INPUT: true; the input reads as it did. -/
def regionCrossSpec : ChangeSpec := { name := "regionCross", fn := fun _ => fun
  | [d1, d2, d3] => { results := [.lit (.bool true)], args := [d1, d2, d3] }
  | _ => none }
def regionCrossRow : OpenClaim := { program := "ytlipmpnemnfchaagreat", sum := "1afc734b3a960493525ec85ed798f92f91e7fbd4919baed2f77b1637eec4c817", func := "vedette/vedettelaw18.RegionCross", spec := "regionCross", unfollowed := true, recurses := true, plainKeys := false, apart := false }
def RegionCrossSaid : Prop := regionCrossRow.holds Tryz.pinned (OpenSpec.ofChange regionCrossSpec)

/-- ITS FALSE NEIGHBOUR: 'it returns false'. Refute it at one input. -/
def regionCrossWrong : ChangeSpec := { name := "regionCross", fn := fun _ => fun
  | [d1, d2, d3] => { results := [.lit (.bool false)], args := [d1, d2, d3] }
  | _ => none }
def RegionCrossWrongFalsely : Prop := regionCrossRow.holds Tryz.pinned (OpenSpec.ofChange regionCrossWrong)

/-- 'vedettelaw18.RegionReturns': WHATEVER THE INPUT: true; the input reads as it did. -/
def regionReturnsSpec : ChangeSpec := { name := "regionReturns", fn := fun _ => fun
  | [d1, d2, d3] => { results := [.lit (.bool true)], args := [d1, d2, d3] }
  | _ => none }
def regionReturnsRow : OpenClaim := { program := "ytlipmpnemnfchaagreat", sum := "1afc734b3a960493525ec85ed798f92f91e7fbd4919baed2f77b1637eec4c817", func := "vedette/vedettelaw18.RegionReturns", spec := "regionReturns", unfollowed := true, recurses := true, plainKeys := false, apart := false }
def RegionReturnsSaid : Prop := regionReturnsRow.holds Tryz.pinned (OpenSpec.ofChange regionReturnsSpec)

/-- ITS FALSE NEIGHBOUR: 'it returns false'. Refute it at one input. -/
def regionReturnsWrong : ChangeSpec := { name := "regionReturns", fn := fun _ => fun
  | [d1, d2, d3] => { results := [.lit (.bool false)], args := [d1, d2, d3] }
  | _ => none }
def RegionReturnsWrongFalsely : Prop := regionReturnsRow.holds Tryz.pinned (OpenSpec.ofChange regionReturnsWrong)

/- THE SECOND FORM. 'bulk': how many values and letters a reading holds, each counted each time it is reached (what is shared counts as often as it is met; a slice's spare places count too). A statement '..UptoSaid' is the law's where the arguments, and the package variables that the reading takes, are together of bulk at most 1048576: NARROWER than '..Said'. Prove '..Said' where nothing that the law and all that it calls make is longer than what came in: it says more and counts as full. Else prove '..UptoSaid'. A law counts once. -/
mutual
def uptoBulk {H : Type} : DataW H → Nat
  | .lit (.string bytes) => bytes.length + 1
  | .lit _ => 1
  | .nil => 1
  | .ptr d => uptoBulk d + 1
  | .slice elems spare => uptoBulkAll elems + uptoBulkAll spare + 1
  | .agg parts => uptoBulkAll parts + 1
  | .iface _ d => uptoBulk d + 1
  | .map entries => uptoBulkEntries entries + 1
  | .held _ => 1
def uptoBulkAll {H : Type} : List (DataW H) → Nat
  | [] => 0
  | d :: r => uptoBulk d + uptoBulkAll r
def uptoBulkEntries {H : Type} : List (Lit × DataW H) → Nat
  | [] => 0
  | x :: r => uptoBulkEntry x + uptoBulkEntries r
def uptoBulkEntry {H : Type} : Lit × DataW H → Nat
  | (.string bytes, d) => bytes.length + uptoBulk d + 1
  | (_, d) => uptoBulk d + 1
 end
def uptoSmall : (H : Type) → List (DataW H) → Bool := fun _ ds => decide (uptoBulkAll ds ≤ 1048576)
def OpenSpec.upto (s : _root_.Go.ChangeSpec) : _root_.Go.OpenSpec := { _root_.Go.OpenSpec.ofChange s with cond := some uptoSmall }

/-- 'vedettelaw26.JudgeBeats', WHERE WHAT IT READS IS OF BULK AT MOST 1048576: true; the input reads as it did. -/
def judgeBeatsUptoRow : OpenClaim := { program := "ytlipmpnemnfchaagreat", sum := "1afc734b3a960493525ec85ed798f92f91e7fbd4919baed2f77b1637eec4c817", func := "vedette/vedettelaw26.JudgeBeats", spec := "judgeBeats", inPlace := ["slices.overlaps[vedette/api.Thing]"], unfollowed := true, recurses := true, plainKeys := false, apart := false, narrowed := true }
def JudgeBeatsUptoSaid : Prop := judgeBeatsUptoRow.holds Tryz.pinned (OpenSpec.upto judgeBeatsSpec)

/-- 'vedettelaw27.AuditFinds', WHERE WHAT IT READS IS OF BULK AT MOST 1048576: true; the input reads as it did. -/
def auditFindsUptoRow : OpenClaim := { program := "ytlipmpnemnfchaagreat", sum := "1afc734b3a960493525ec85ed798f92f91e7fbd4919baed2f77b1637eec4c817", func := "vedette/vedettelaw27.AuditFinds", spec := "auditFinds", unfollowed := true, recurses := true, plainKeys := false, apart := false, narrowed := true }
def AuditFindsUptoSaid : Prop := auditFindsUptoRow.holds Tryz.pinned (OpenSpec.upto auditFindsSpec)

/-- 'vedettelaw18.RegionOpen', WHERE WHAT IT READS IS OF BULK AT MOST 1048576: true; the input reads as it did. -/
def regionOpenUptoRow : OpenClaim := { program := "ytlipmpnemnfchaagreat", sum := "1afc734b3a960493525ec85ed798f92f91e7fbd4919baed2f77b1637eec4c817", func := "vedette/vedettelaw18.RegionOpen", spec := "regionOpen", unfollowed := true, recurses := true, plainKeys := false, apart := false, narrowed := true }
def RegionOpenUptoSaid : Prop := regionOpenUptoRow.holds Tryz.pinned (OpenSpec.upto regionOpenSpec)

/-- 'vedettelaw18.RegionHands', WHERE WHAT IT READS IS OF BULK AT MOST 1048576: true; the input reads as it did. -/
def regionHandsUptoRow : OpenClaim := { program := "ytlipmpnemnfchaagreat", sum := "1afc734b3a960493525ec85ed798f92f91e7fbd4919baed2f77b1637eec4c817", func := "vedette/vedettelaw18.RegionHands", spec := "regionHands", unfollowed := true, recurses := true, plainKeys := false, apart := false, narrowed := true }
def RegionHandsUptoSaid : Prop := regionHandsUptoRow.holds Tryz.pinned (OpenSpec.upto regionHandsSpec)

/-- 'vedettelaw18.RegionWrong', WHERE WHAT IT READS IS OF BULK AT MOST 1048576: true; the input reads as it did. -/
def regionWrongUptoRow : OpenClaim := { program := "ytlipmpnemnfchaagreat", sum := "1afc734b3a960493525ec85ed798f92f91e7fbd4919baed2f77b1637eec4c817", func := "vedette/vedettelaw18.RegionWrong", spec := "regionWrong", unfollowed := true, recurses := true, plainKeys := false, apart := false, narrowed := true }
def RegionWrongUptoSaid : Prop := regionWrongUptoRow.holds Tryz.pinned (OpenSpec.upto regionWrongSpec)

/-- 'vedettelaw18.RegionCross', WHERE WHAT IT READS IS OF BULK AT MOST 1048576: true; the input reads as it did. -/
def regionCrossUptoRow : OpenClaim := { program := "ytlipmpnemnfchaagreat", sum := "1afc734b3a960493525ec85ed798f92f91e7fbd4919baed2f77b1637eec4c817", func := "vedette/vedettelaw18.RegionCross", spec := "regionCross", unfollowed := true, recurses := true, plainKeys := false, apart := false, narrowed := true }
def RegionCrossUptoSaid : Prop := regionCrossUptoRow.holds Tryz.pinned (OpenSpec.upto regionCrossSpec)

/-- 'vedettelaw18.RegionReturns', WHERE WHAT IT READS IS OF BULK AT MOST 1048576: true; the input reads as it did. -/
def regionReturnsUptoRow : OpenClaim := { program := "ytlipmpnemnfchaagreat", sum := "1afc734b3a960493525ec85ed798f92f91e7fbd4919baed2f77b1637eec4c817", func := "vedette/vedettelaw18.RegionReturns", spec := "regionReturns", unfollowed := true, recurses := true, plainKeys := false, apart := false, narrowed := true }
def RegionReturnsUptoSaid : Prop := regionReturnsUptoRow.holds Tryz.pinned (OpenSpec.upto regionReturnsSpec)

end Rows
end Go.Proofs.YtlipmpnemnfchaaGreat
