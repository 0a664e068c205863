/- Rows of things that come in. -/
import Derived.Test.YtnncbfpkeikfaaaDT
import Derived.Test.YtnncbfpkeikfaaaVwRead3
namespace Go.Proofs
open Go Go.Vw Go.Vw.Ev
set_option linter.unusedVariables false
theorem sl_th : ∀ (n : Nat) (cs : List AS), LeavesV (List.replicate n [Leaf.int .i64, Leaf.int .i64, Leaf.int .i64, Leaf.int .i64, Leaf.str, Leaf.int .i64, Leaf.str, Leaf.int .i64, Leaf.str, Leaf.int .i64, Leaf.str]).flatten cs → ∃ l : List Th, cs = thsC l ∧ l.length = n
  | 0, [], _ => ⟨[], rfl, rfl⟩
  | 0, _ :: _, h => h.elim
  | n + 1, cs, h => by
    rw [List.replicate_succ, List.flatten_cons] at h
    obtain ⟨x0, cs, rfl, h0, t0⟩ := leaf_cons h
    obtain ⟨x1, cs, rfl, h1, t1⟩ := leaf_cons t0
    obtain ⟨x2, cs, rfl, h2, t2⟩ := leaf_cons t1
    obtain ⟨x3, cs, rfl, h3, t3⟩ := leaf_cons t2
    obtain ⟨x4, cs, rfl, h4, t4⟩ := leaf_cons t3
    obtain ⟨x5, cs, rfl, h5, t5⟩ := leaf_cons t4
    obtain ⟨x6, cs, rfl, h6, t6⟩ := leaf_cons t5
    obtain ⟨x7, cs, rfl, h7, t7⟩ := leaf_cons t6
    obtain ⟨x8, cs, rfl, h8, t8⟩ := leaf_cons t7
    obtain ⟨x9, cs, rfl, h9, t9⟩ := leaf_cons t8
    obtain ⟨x10, cs, rfl, h10, t10⟩ := leaf_cons t9
    obtain ⟨_, rfl⟩ := leaf_int h0
    obtain ⟨_, rfl⟩ := leaf_int h1
    obtain ⟨_, rfl⟩ := leaf_int h2
    obtain ⟨_, rfl⟩ := leaf_int h3
    obtain ⟨_, rfl⟩ := leaf_str h4
    obtain ⟨_, rfl⟩ := leaf_int h5
    obtain ⟨_, rfl⟩ := leaf_str h6
    obtain ⟨_, rfl⟩ := leaf_int h7
    obtain ⟨_, rfl⟩ := leaf_str h8
    obtain ⟨_, rfl⟩ := leaf_int h9
    obtain ⟨_, rfl⟩ := leaf_str h10
    obtain ⟨l, rfl, hl⟩ := sl_th n cs t10
    exact ⟨⟨_, ⟨_, _⟩, ⟨_, _⟩, ⟨_, _⟩, ⟨_, _⟩, ⟨_, _⟩⟩ :: l, rfl, by simp [hl]⟩
end Go.Proofs
