/-
  No cell of these rows narrows 'for every input' (looked for: loops, veiled, ifaces, maps, wideKeys, modest, calm, conditions, laid).
  DERIVED. THE GIVEN ROWS OF THIS SEAT. 5 by the template 'for every input the law returns true; each argument reads behind the call as it read before'; 0 by the template 'total and deterministic' (their statements: YtmdidmoffcinjaaGreatTotals.lean).
  GIVEN WITH THE SEED: the statements are not yours to turn. If you find one false, say at which input.
  Laid BY PROGRAM, IN A SANDBOX (cutbox-rows.mjs): the forced cells as the released guide's own fill.sh prints them over the translation d0eee92051095435… (all of the seat's roots in one cut). By AI agents, Wed Nov 11 2026. No macro, syntax, notation, axiom, sorry.
-/
import Derived.Test.YtmdidmoffcinjaaGreatChecked
import GoSem.Claim
import GoSem.ClaimJoined
import GoSem.ClaimMapViews
import Derived.JoinedTies
import Derived.KernelRfl
namespace Go.Proofs.YtmdidmoffcinjaaGreat
/- THE CELL 'sum', in the pinned program and in every row, IS THE sha256 OF THE DUMP (.gsa) THAT YtmdidmoffcinjaaGreatProg.lean LOADS. Nothing in Lean hashes anything: it is a label: what it is worth is what the hold of that sum in a sandbox is worth. -/
noncomputable def Tryz.pinned : Pinned := { name := "ytmdidmoffcinjaagreat", sum := "d0eee92051095435538eaa326aaa183fbc25a0392a1d4254d11eb87f6522d28c", checked := Tryz.checked }
namespace Rows
def none {H : Type} : Left H := { results := [], args := [] }

/-- 'vedettelaw26.JudgeViews': WHATEVER THE INPUT: true; the input reads as it did. -/
def judgeViewsSpec : ChangeSpec := { name := "judgeViews", fn := fun _ => fun
  | [d1, d2] => { results := [.lit (.bool true)], args := [d1, d2] }
  | _ => none }
def judgeViewsRow : OpenClaim := { program := "ytmdidmoffcinjaagreat", sum := "d0eee92051095435538eaa326aaa183fbc25a0392a1d4254d11eb87f6522d28c", func := "vedette/vedettelaw26.JudgeViews", spec := "judgeViews", inPlace := ["slices.overlaps[vedette/api.Thing]"], unfollowed := true, recurses := true, plainKeys := false, apart := false }
def JudgeViewsSaid : Prop := judgeViewsRow.holds Tryz.pinned (OpenSpec.ofChange judgeViewsSpec)

/-- ITS FALSE NEIGHBOUR: 'it returns false'. Refute it at one input. -/
def judgeViewsWrong : ChangeSpec := { name := "judgeViews", fn := fun _ => fun
  | [d1, d2] => { results := [.lit (.bool false)], args := [d1, d2] }
  | _ => none }
def JudgeViewsWrongFalsely : Prop := judgeViewsRow.holds Tryz.pinned (OpenSpec.ofChange judgeViewsWrong)

/-- 'vedettelaw26.JudgeBeats': WHATEVER THE INPUT: true; the input reads as it did. -/
def judgeBeatsSpec : ChangeSpec := { name := "judgeBeats", fn := fun _ => fun
  | [d1, d2] => { results := [.lit (.bool true)], args := [d1, d2] }
  | _ => none }
def judgeBeatsRow : OpenClaim := { program := "ytmdidmoffcinjaagreat", sum := "d0eee92051095435538eaa326aaa183fbc25a0392a1d4254d11eb87f6522d28c", func := "vedette/vedettelaw26.JudgeBeats", spec := "judgeBeats", inPlace := ["slices.overlaps[vedette/api.Thing]"], unfollowed := true, recurses := true, plainKeys := false, apart := false }
def JudgeBeatsSaid : Prop := judgeBeatsRow.holds Tryz.pinned (OpenSpec.ofChange judgeBeatsSpec)

/-- ITS FALSE NEIGHBOUR: 'it returns false'. Refute it at one input. -/
def judgeBeatsWrong : ChangeSpec := { name := "judgeBeats", fn := fun _ => fun
  | [d1, d2] => { results := [.lit (.bool false)], args := [d1, d2] }
  | _ => none }
def JudgeBeatsWrongFalsely : Prop := judgeBeatsRow.holds Tryz.pinned (OpenSpec.ofChange judgeBeatsWrong)

/-- 'vedettelaw27.AuditHolds': WHATEVER THE INPUT: true; the input reads as it did. -/
def auditHoldsSpec : ChangeSpec := { name := "auditHolds", fn := fun _ => fun
  | [d1, d2] => { results := [.lit (.bool true)], args := [d1, d2] }
  | _ => none }
def auditHoldsRow : OpenClaim := { program := "ytmdidmoffcinjaagreat", sum := "d0eee92051095435538eaa326aaa183fbc25a0392a1d4254d11eb87f6522d28c", func := "vedette/vedettelaw27.AuditHolds", spec := "auditHolds", unfollowed := true, recurses := true, plainKeys := false, apart := false }
def AuditHoldsSaid : Prop := auditHoldsRow.holds Tryz.pinned (OpenSpec.ofChange auditHoldsSpec)

/-- ITS FALSE NEIGHBOUR: 'it returns false'. Refute it at one input. -/
def auditHoldsWrong : ChangeSpec := { name := "auditHolds", fn := fun _ => fun
  | [d1, d2] => { results := [.lit (.bool false)], args := [d1, d2] }
  | _ => none }
def AuditHoldsWrongFalsely : Prop := auditHoldsRow.holds Tryz.pinned (OpenSpec.ofChange auditHoldsWrong)

/-- 'vedettelaw26.JudgeOrders': WHATEVER THE INPUT: true; the input reads as it did. -/
def judgeOrdersSpec : ChangeSpec := { name := "judgeOrders", fn := fun _ => fun
  | [d1, d2] => { results := [.lit (.bool true)], args := [d1, d2] }
  | _ => none }
def judgeOrdersRow : OpenClaim := { program := "ytmdidmoffcinjaagreat", sum := "d0eee92051095435538eaa326aaa183fbc25a0392a1d4254d11eb87f6522d28c", func := "vedette/vedettelaw26.JudgeOrders", spec := "judgeOrders", inPlace := ["slices.overlaps[vedette/api.Thing]"], unfollowed := true, recurses := true, plainKeys := false, apart := false }
def JudgeOrdersSaid : Prop := judgeOrdersRow.holds Tryz.pinned (OpenSpec.ofChange judgeOrdersSpec)

/-- ITS FALSE NEIGHBOUR: 'it returns false'. Refute it at one input. -/
def judgeOrdersWrong : ChangeSpec := { name := "judgeOrders", fn := fun _ => fun
  | [d1, d2] => { results := [.lit (.bool false)], args := [d1, d2] }
  | _ => none }
def JudgeOrdersWrongFalsely : Prop := judgeOrdersRow.holds Tryz.pinned (OpenSpec.ofChange judgeOrdersWrong)

/-- 'vedettelaw26.JudgeTells': WHATEVER THE INPUT: true; the input reads as it did. -/
def judgeTellsSpec : ChangeSpec := { name := "judgeTells", fn := fun _ => fun
  | [d1, d2, d3, d4, d5, d6] => { results := [.lit (.bool true)], args := [d1, d2, d3, d4, d5, d6] }
  | _ => none }
def judgeTellsRow : OpenClaim := { program := "ytmdidmoffcinjaagreat", sum := "d0eee92051095435538eaa326aaa183fbc25a0392a1d4254d11eb87f6522d28c", func := "vedette/vedettelaw26.JudgeTells", spec := "judgeTells", inPlace := ["slices.overlaps[vedette/api.Thing]"], unfollowed := true, recurses := true, plainKeys := false, apart := false }
def JudgeTellsSaid : Prop := judgeTellsRow.holds Tryz.pinned (OpenSpec.ofChange judgeTellsSpec)

/-- ITS FALSE NEIGHBOUR: 'it returns false'. Refute it at one input. -/
def judgeTellsWrong : ChangeSpec := { name := "judgeTells", fn := fun _ => fun
  | [d1, d2, d3, d4, d5, d6] => { results := [.lit (.bool false)], args := [d1, d2, d3, d4, d5, d6] }
  | _ => none }
def JudgeTellsWrongFalsely : Prop := judgeTellsRow.holds Tryz.pinned (OpenSpec.ofChange judgeTellsWrong)

/- THE SECOND FORM. 'bulk': how many values and letters a reading holds, each counted each time it is reached (what is shared counts as often as it is met; a slice's spare places count too). A statement '..UptoSaid' is the law's where the arguments, and the package variables that the reading takes, are together of bulk at most 1048576: NARROWER than '..Said'. Prove '..Said' where nothing that the law and all that it calls make is longer than what came in: it says more and counts as full. Else prove '..UptoSaid'. A law counts once. -/
mutual
def uptoBulk {H : Type} : DataW H → Nat
  | .lit (.string bytes) => bytes.length + 1
  | .lit _ => 1
  | .nil => 1
  | .ptr d => uptoBulk d + 1
  | .slice elems spare => uptoBulkAll elems + uptoBulkAll spare + 1
  | .agg parts => uptoBulkAll parts + 1
  | .iface _ d => uptoBulk d + 1
  | .map entries => uptoBulkEntries entries + 1
  | .held _ => 1
def uptoBulkAll {H : Type} : List (DataW H) → Nat
  | [] => 0
  | d :: r => uptoBulk d + uptoBulkAll r
def uptoBulkEntries {H : Type} : List (Lit × DataW H) → Nat
  | [] => 0
  | x :: r => uptoBulkEntry x + uptoBulkEntries r
def uptoBulkEntry {H : Type} : Lit × DataW H → Nat
  | (.string bytes, d) => bytes.length + uptoBulk d + 1
  | (_, d) => uptoBulk d + 1
 end
def uptoSmall : (H : Type) → List (DataW H) → Bool := fun _ ds => decide (uptoBulkAll ds ≤ 1048576)
def OpenSpec.upto (s : _root_.Go.ChangeSpec) : _root_.Go.OpenSpec := { _root_.Go.OpenSpec.ofChange s with cond := some uptoSmall }

/-- 'vedettelaw26.JudgeViews', WHERE WHAT IT READS IS OF BULK AT MOST 1048576: true; the input reads as it did. -/
def judgeViewsUptoRow : OpenClaim := { program := "ytmdidmoffcinjaagreat", sum := "d0eee92051095435538eaa326aaa183fbc25a0392a1d4254d11eb87f6522d28c", func := "vedette/vedettelaw26.JudgeViews", spec := "judgeViews", inPlace := ["slices.overlaps[vedette/api.Thing]"], unfollowed := true, recurses := true, plainKeys := false, apart := false, narrowed := true }
def JudgeViewsUptoSaid : Prop := judgeViewsUptoRow.holds Tryz.pinned (OpenSpec.upto judgeViewsSpec)

/-- 'vedettelaw26.JudgeBeats', WHERE WHAT IT READS IS OF BULK AT MOST 1048576: true; the input reads as it did. -/
def judgeBeatsUptoRow : OpenClaim := { program := "ytmdidmoffcinjaagreat", sum := "d0eee92051095435538eaa326aaa183fbc25a0392a1d4254d11eb87f6522d28c", func := "vedette/vedettelaw26.JudgeBeats", spec := "judgeBeats", inPlace := ["slices.overlaps[vedette/api.Thing]"], unfollowed := true, recurses := true, plainKeys := false, apart := false, narrowed := true }
def JudgeBeatsUptoSaid : Prop := judgeBeatsUptoRow.holds Tryz.pinned (OpenSpec.upto judgeBeatsSpec)

/-- 'vedettelaw27.AuditHolds', WHERE WHAT IT READS IS OF BULK AT MOST 1048576: true; the input reads as it did. -/
def auditHoldsUptoRow : OpenClaim := { program := "ytmdidmoffcinjaagreat", sum := "d0eee92051095435538eaa326aaa183fbc25a0392a1d4254d11eb87f6522d28c", func := "vedette/vedettelaw27.AuditHolds", spec := "auditHolds", unfollowed := true, recurses := true, plainKeys := false, apart := false, narrowed := true }
def AuditHoldsUptoSaid : Prop := auditHoldsUptoRow.holds Tryz.pinned (OpenSpec.upto auditHoldsSpec)

/-- 'vedettelaw26.JudgeOrders', WHERE WHAT IT READS IS OF BULK AT MOST 1048576: true; the input reads as it did. -/
def judgeOrdersUptoRow : OpenClaim := { program := "ytmdidmoffcinjaagreat", sum := "d0eee92051095435538eaa326aaa183fbc25a0392a1d4254d11eb87f6522d28c", func := "vedette/vedettelaw26.JudgeOrders", spec := "judgeOrders", inPlace := ["slices.overlaps[vedette/api.Thing]"], unfollowed := true, recurses := true, plainKeys := false, apart := false, narrowed := true }
def JudgeOrdersUptoSaid : Prop := judgeOrdersUptoRow.holds Tryz.pinned (OpenSpec.upto judgeOrdersSpec)

/-- 'vedettelaw26.JudgeTells', WHERE WHAT IT READS IS OF BULK AT MOST 1048576: true; the input reads as it did. -/
def judgeTellsUptoRow : OpenClaim := { program := "ytmdidmoffcinjaagreat", sum := "d0eee92051095435538eaa326aaa183fbc25a0392a1d4254d11eb87f6522d28c", func := "vedette/vedettelaw26.JudgeTells", spec := "judgeTells", inPlace := ["slices.overlaps[vedette/api.Thing]"], unfollowed := true, recurses := true, plainKeys := false, apart := false, narrowed := true }
def JudgeTellsUptoSaid : Prop := judgeTellsUptoRow.holds Tryz.pinned (OpenSpec.upto judgeTellsSpec)

end Rows
end Go.Proofs.YtmdidmoffcinjaaGreat
