/- Points and rectangles as they come in. -/
import Derived.Test.YtnncbfpkeikfaaaDA
import Derived.Test.YtnncbfpkeikfaaaVwRead
namespace Go.Proofs
open Go Go.Vw Go.Vw.Ev
set_option linter.unusedVariables false
theorem ag_rc {xs : List AS} (h : LeavesV [Leaf.int .i64, Leaf.int .i64, Leaf.int .i64, Leaf.int .i64] xs) : ∃ r : Rc, xs = rcC r := by
  match xs, h with
  | [x0, x1, x2, x3], ⟨h0, h1, h2, h3, _⟩ =>
    cases x0 <;> first | exact h0.elim | skip
    cases x1 <;> first | exact h1.elim | skip
    cases x2 <;> first | exact h2.elim | skip
    cases x3 <;> first | exact h3.elim | skip
    obtain ⟨rfl, _⟩ := h0; obtain ⟨rfl, _⟩ := h1; obtain ⟨rfl, _⟩ := h2; obtain ⟨rfl, _⟩ := h3
    exact ⟨⟨_, _, _, _⟩, rfl⟩
theorem ag_pt {xs : List AS} (h : LeavesV [Leaf.int .i64, Leaf.int .i64] xs) : ∃ r : Pt, xs = ptC r := by
  match xs, h with
  | [x0, x1], ⟨h0, h1, _⟩ =>
    cases x0 <;> first | exact h0.elim | skip
    cases x1 <;> first | exact h1.elim | skip
    obtain ⟨rfl, _⟩ := h0; obtain ⟨rfl, _⟩ := h1
    exact ⟨⟨_, _⟩, rfl⟩
end Go.Proofs
