/- How long a slice that comes in may be. -/
import Derived.Test.YtmdidmoffcinjaaGreatVwRead
namespace Go.Vw.Ev
open Go Go.Vw Go.ChangeShapes Go.WideShapes Go.RowKit
section
variable {H : Type} {enc : TypeId × Value → H} {P : Program}
theorem slice_max {t e : TypeId} {W : World} (ht : P.underlying t = some (.slice e)) {v : Value} {dd : DataW H} {ps : List MemPlace} (h : DataW.Trod enc P W 0 (fun _ => true) true t v dd ps) {φ : Phi} {p : AP} {n z : Nat} {c : ACap}
  (hr : RS φ (.slice p n c z) v) : n ≤ 9223372036854775807 := by
 simp only [RS] at hr
 obtain ⟨a, c', rfl, _⟩ := hr
 obtain ⟨fuel, hf⟩ := h
 have hc : (Value.slice a n c').cells.toList = [.slice a n c'] := rfl
 rw [hc] at hf
 rcases Deep.open_slice ht hf with ⟨h1, _⟩ | ⟨a', len, cap, m, k, D, Pl, h1, _, h2, h3, _⟩
 ·injection h1 with h1 _
  injection h1 with _ h1 _
  omega
 ·injection h1 with h1 _
  injection h1 with _ h1 _
  have h3 : cap ≤ 2 ^ 63 - 1 := h3
  omega
end
end Go.Vw.Ev
