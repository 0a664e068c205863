/- Rows of whole numbers that come in. -/
import Derived.Test.YtnncbfpkeikfaaaDX
import Derived.Test.YtnncbfpkeikfaaaVwRead2
import Derived.OpenShut
namespace Go.Proofs
open Go Go.Vw Go.Vw.Ev
set_option linter.unusedVariables false
set_option linter.unusedSimpArgs false

def InI (H : AH) (p : AP) (n : Nat) (k : IntKind) (xs : List Int) : Prop := xs.length = n ∧ (n ≠ 0 → ∃ g, p = .at g 0 ∧ H.has g ∧ H.get g = some (.fix (xs.map (AS.int k))))
theorem InI.le {H H' : AH} {p : AP} {n : Nat} {k : IntKind} {xs : List Int} (h : InI H p n k xs) (l : Le H H') : InI H' p n k xs :=
  ⟨h.1, fun hn => (h.2 hn).imp fun g hg => ⟨hg.1, l.has g hg.2.1, (l.get g hg.2.1).trans hg.2.2⟩⟩
theorem InI.read {H : AH} {p : AP} {n : Nat} {k : IntKind} {xs : List Int} (h : InI H p n k xs) {i : Nat} (hi : i < n) {K : Int → Bool} (hk : K (xs[i]'(by rw [h.1]; exact hi)) = true) :
    nilK p (fun g o => idxK (i : Int) n fun m => fN (Nat.add o (Nat.mul m 1)) fun o => rowK H g fun cs => ldI cs o k K) = true := by
  obtain ⟨g, rfl, hg, hrow⟩ := h.2 (by omega)
  simp only [nilK_at, fN_eq, Nat.add_eq, Nat.mul_eq, Nat.zero_add, Nat.mul_one]
  have hl : i < xs.length := by rw [h.1]; exact hi
  refine idxK_w (by omega) (by omega) (rowK_wf hrow (ldI_w (n := xs[i]) ?_ hk))
  rw [Int.toNat_natCast, List.getElem?_map, List.getElem?_eq_getElem hl]
  rfl
theorem sl_int (k : IntKind) : ∀ (n : Nat) (cs : List AS), LeavesV (List.replicate n [Leaf.int k]).flatten cs → ∃ l : List Int, cs = l.map (AS.int k) ∧ l.length = n ∧ ∀ x ∈ l, (Lit.int k x).wf = true
  | 0, [], _ => ⟨[], rfl, rfl, fun x h => (by cases h)⟩
  | 0, _ :: _, h => h.elim
  | n + 1, [], h => h.elim
  | n + 1, x :: r, h => by
    obtain ⟨h1, h4⟩ := h
    cases x <;> first | exact h1.elim | skip
    obtain ⟨l, rfl, hl, hw⟩ := sl_int k n r h4
    obtain ⟨rfl, hx⟩ := h1
    refine ⟨_ :: l, rfl, by simp [hl], fun y hy => ?_⟩
    rcases List.mem_cons.1 hy with rfl | hy
    · exact hx
    · exact hw y hy
theorem sl_u8 (n : Nat) (cs : List AS) (h : LeavesV (List.replicate n [Leaf.int .u8]).flatten cs) : ∃ l : List Int, cs = l.map (AS.int .u8) ∧ l.length = n ∧ ∀ x ∈ l, 0 ≤ x ∧ x ≤ 255 := by
  obtain ⟨l, h1, h2, h3⟩ := sl_int .u8 n cs h
  exact ⟨l, h1, h2, fun x hx => Go.bounds_u8 (h3 x hx)⟩
theorem sl_i16 (n : Nat) (cs : List AS) (h : LeavesV (List.replicate n [Leaf.int .i16]).flatten cs) : ∃ l : List Int, cs = l.map (AS.int .i16) ∧ l.length = n ∧ ∀ x ∈ l, -32768 ≤ x ∧ x ≤ 32767 := by
  obtain ⟨l, h1, h2, h3⟩ := sl_int .i16 n cs h
  exact ⟨l, h1, h2, fun x hx => Go.bounds_i16 (h3 x hx)⟩
/-- A thing with numbers alone in its fields. -/
def tN (id : Int) (p : Pt) (ns : Nat → Int) : Th := ⟨id, p, ⟨ns 0, []⟩, ⟨ns 1, []⟩, ⟨ns 2, []⟩, ⟨ns 3, []⟩⟩
def updN (ns : Nat → Int) (k : Nat) (v : Int) : Nat → Int := fun j => if j = k then v else ns j
def wC (ns : Nat → Int) : List AS := [.int .i64 (ns 0), .str [], .int .i64 (ns 1), .str [], .int .i64 (ns 2), .str [], .int .i64 (ns 3), .str []]
theorem setF_N (id : Int) (p : Pt) (ns : Nat → Int) (v : Int) : ∀ k : Nat, k < 4 → setF (tN id p ns) (k : Nat) ⟨v, []⟩ = tN id p (updN ns k v) := lt4 rfl rfl rfl rfl
theorem wC_set (ns : Nat → Int) (v : Int) : ∀ k : Nat, k < 4 → (wC ns).set (k * 2) (.int .i64 v) = wC (updN ns k v) := lt4 rfl rfl rfl rfl
theorem aSet_1 (k : Int) (a b : Th) : aSet [(k, a)] k b = [(k, b)] := by simp [aSet]
theorem aGet_1 (k : Int) (a : Th) : aGet [(k, a)] k = some a := by simp [aGet]
theorem thOf_1 (k : Int) (a : Th) : thOf [(k, a)] k = a := by unfold thOf; rw [aGet_1]; rfl
theorem isF_N (v : Int) : IsF ⟨v, []⟩ = true := by simp [IsF]
end Go.Proofs
