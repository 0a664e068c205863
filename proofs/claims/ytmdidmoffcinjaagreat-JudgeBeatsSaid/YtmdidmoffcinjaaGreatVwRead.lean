/- What comes in, as the evaluator's data: slices of numbers, texts, bools and what is made of these. -/
import Derived.Test.YtmdidmoffcinjaaGreatVwUse
import Derived.Deep.Slices
namespace Go.Vw.Ev
open Go Go.Vw Go.ChangeShapes Go.WideShapes Go.RowKit

def LeafV : Leaf → AS → Prop
  | .int k, .int k' n => k' = k ∧ (Lit.int k n).wf = true
  | .str, .str s => (∀ x ∈ s, x < 256) ∧ s.length ≤ maxLen
  | .bool, .bool _ => True
  | _, _ => False
def LeavesV : List Leaf → List AS → Prop
  | [], [] => True
  | l :: ls, x :: xs => LeafV l x ∧ LeavesV ls xs
  | _, _ => False
theorem LeavesV.append : ∀ {ls ls' : List Leaf} {xs xs' : List AS}, LeavesV ls xs → LeavesV ls' xs' → LeavesV (ls ++ ls') (xs ++ xs')
  | [], _, [], _, _, h' => h'
  | [], _, _ :: _, _, h, _ => h.elim
  | _ :: _, _, [], _, h, _ => h.elim
  | _ :: _, _, _ :: _, _, h, h' => ⟨h.1, LeavesV.append h.2 h'⟩
theorem LeavesV.length : ∀ {ls : List Leaf} {xs : List AS}, LeavesV ls xs → xs.length = ls.length
  | [], [], _ => rfl
  | [], _ :: _, h => h.elim
  | _ :: _, [], h => h.elim
  | _ :: _, _ :: _, h => by simp [LeavesV.length h.2]

section
variable {H : Type} {enc : TypeId × Value → H} {P : Program} {w : World} {base : Nat} {sp : Nat → Bool} {held : Bool} (φ : Phi)

/-- A slice that came in, by a name. -/
structure SlArg (W : World) (ls : List Leaf) (v : Value) (x : Pn) (p : AP) (n : Nat) (c : ACap) (as : List AS) (r : Rec) : Prop where
  rs : ∀ φ : Phi, φ x = some r → RS φ (.slice p n c ls.length) v
  len : as.length = n * ls.length
  leaf : LeavesV (List.replicate n ls).flatten as
  at_ : n ≠ 0 → p = .at x 0
  blk : n ≠ 0 → r.b < W.heap.size ∧ ∃ (c' : Array Value) (e : TypeId) (fr : Nat × Nat), W.heap[r.b]? = some (.cells c' e fr) ∧ ∃ l, c'.toList = r.pre ++ (l ++ r.suf) ∧ RSL φ as l ∧ r.pre.length + l.length ≤ r.sz

theorem PExt.none (φ : Phi) : PExt φ0 φ := fun _ _ h => by cases h
end
end Go.Vw.Ev
