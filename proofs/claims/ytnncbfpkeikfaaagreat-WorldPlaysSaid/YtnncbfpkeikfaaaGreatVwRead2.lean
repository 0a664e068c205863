/- Two slices that come in. -/
import Derived.Test.YtnncbfpkeikfaaaGreatVwRead
namespace Go.Vw.Ev
open Go Go.Vw Go.ChangeShapes Go.WideShapes Go.RowKit
section
variable {H : Type}
theorem args_two {W : World} {ls1 ls2 : List Leaf} {v1 v2 : Value} {p1 p2 : AP} {n1 n2 : Nat} {c1 c2 : ACap} {as1 as2 : List AS} {r1 r2 : Rec} (hs1 : SlArg φ0 W ls1 v1 .o p1 n1 c1 as1 r1) (hs2 : SlArg φ0 W ls2 v2 (.z .o) p2 n2 c2 as2 r2) :
    ∃ φ H, RH φ H (fun _ => none) (oldH W) ∧ View W (oldH W) W ∧ RS φ (.slice p1 n1 c1 ls1.length) v1 ∧ RS φ (.slice p2 n2 c2 ls2.length) v2 ∧ (n1 ≠ 0 → p1 = .at .o 0 ∧ H.t.get .o = some (.fix as1)) ∧
      (n2 ≠ 0 → p2 = .at (.z .o) 0 ∧ H.t.get (.z .o) = some (.fix as2)) ∧ Pn.val .o < H.nx.val ∧ Pn.val (.z .o) < H.nx.val := by
  let φ : Phi := fun a => match a with | .o => some r1 | .z .o => some r2 | _ => none
  let H : AH := ⟨.nd (if n1 = 0 then none else some (.fix as1)) (.nd (if n2 = 0 then none else some (.fix as2)) .lf .lf) .lf, .i .o⟩
  have hnd : ∀ (a : Pn) b, H.t.get a = some b → (a = .o ∧ (if n1 = 0 then none else some (AB.fix as1)) = some b) ∨ (a = .z .o ∧ (if n2 = 0 then none else some (AB.fix as2)) = some b) := by
    intro a b h
    cases a with
    | o => exact .inl ⟨rfl, h⟩
    | z q =>
      cases q with
      | o => exact .inr ⟨rfl, h⟩
      | z q => rw [show H.t.get (.z (.z q)) = Tr.get .lf q from rfl, Tr.get_lf] at h; cases h
      | i q => rw [show H.t.get (.z (.i q)) = Tr.get .lf q from rfl, Tr.get_lf] at h; cases h
    | i q => rw [show H.t.get (.i q) = Tr.get .lf q from rfl, Tr.get_lf] at h; cases h
  obtain ⟨h1, h2⟩ := args_mk (W := W) (φ := φ) (H := H) (fun a b hg => by
    rcases hnd a b hg with ⟨rfl, h⟩ | ⟨rfl, h⟩
    · by_cases hn : n1 = 0
      · rw [if_pos hn] at h; cases h
      · rw [if_neg hn] at h; cases h
        exact ⟨ls1, v1, p1, n1, c1, as1, r1, rfl, rfl, hn, hs1⟩
    · by_cases hn : n2 = 0
      · rw [if_pos hn] at h; cases h
      · rw [if_neg hn] at h; cases h
        exact ⟨ls2, v2, p2, n2, c2, as2, r2, rfl, rfl, hn, hs2⟩) (fun a ha => by
    have ha : 3 ≤ a.val := ha
    cases a with
    | o => simp [Pn.val] at ha
    | z q => cases q with
      | o => simp [Pn.val] at ha
      | z q => rfl
      | i q => rfl
    | i q => rfl)
  refine ⟨φ, H, h1, h2, hs1.rs φ rfl, hs2.rs φ rfl, fun hn => ⟨hs1.at_ hn, ?_⟩, fun hn => ⟨hs2.at_ hn, ?_⟩, by show 1 < 3; decide, by show 2 < 3; decide⟩
  · show (if n1 = 0 then none else some (AB.fix as1)) = _
    rw [if_neg hn]
  · show (if n2 = 0 then none else some (AB.fix as2)) = _
    rw [if_neg hn]
end
end Go.Vw.Ev
