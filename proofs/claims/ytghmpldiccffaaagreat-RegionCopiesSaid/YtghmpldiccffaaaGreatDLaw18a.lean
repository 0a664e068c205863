/- RegionNumbers: the walk. -/
import Derived.Test.YtghmpldiccffaaaGreatDG
import Derived.Test.YtghmpldiccffaaaGreatDX
import Derived.KernelRfl
import Derived.Test.YtghmpldiccffaaaGreatBlaw18
namespace Go.Proofs
open Go Go.Vw Go.Vw.Ev
set_option linter.unusedVariables false
set_option linter.unusedSimpArgs false

/-- Rows of bools that come in. -/
def InB (H : AH) (p : AP) (n : Nat) (bs : List Bool) : Prop := bs.length = n ∧ (n ≠ 0 → ∃ g, p = .at g 0 ∧ H.has g ∧ H.get g = some (.fix (bs.map .bool)))
theorem InB.le {H H' : AH} {p : AP} {n : Nat} {bs : List Bool} (h : InB H p n bs) (k : Le H H') : InB H' p n bs :=
  ⟨h.1, fun hn => (h.2 hn).imp fun g hg => ⟨hg.1, k.has g hg.2.1, (k.get g hg.2.1).trans hg.2.2⟩⟩
/-- What stands ahead of a round. -/
structure NS (me k : Int) (p : Pt) (i live : Nat) (s : RgSt) : Prop where
  id : s.id = me
  given : s.given = i
  t0 : 0 ≤ s.took
  t1 : s.took ≤ 2 * i
  ow : s.ow = owInit k
  h1 : s.hands = []
  h2 : s.last.hands = []
  ol : s.order.length ≤ 2 * i
  len : s.th.length = live
  pt : ∀ j t, aGet s.th j = some t → t.pt = p
  lt : ∀ j ∈ aKeys s.th, j < 4 * i
  li : live ≤ i
theorem NS.sm {me k : Int} {p : Pt} {i live : Nat} {s : RgSt} (h : NS me k p i live s) (hi : i ≤ 10) : Sm s :=
  ⟨by have := h.len; have := h.li; omega, by have := h.given; omega, by have := h.given; omega, by rw [h.h1]; decide, by rw [h.h2]; decide, by have := h.ol; omega, h.t0⟩
theorem owInit_at {k : Int} {c : Nat} (hc : c < 16) : owAt (owInit k) c = (Int.tmod c k, 0) := by
  unfold owAt owInit
  rw [if_pos (isC_iff.2 ⟨by omega, by omega⟩), Int.toNat_natCast]
  simp [hc]
theorem NS.no {me k : Int} {p : Pt} {i live : Nat} {s : RgSt} (h : NS me k p i live s) (hm : 0 ≤ me) : 4 * (i : Int) + me ∉ aKeys s.th := fun hj => by have := h.lt _ hj; omega
theorem NS.num {me k : Int} {p : Pt} {i live : Nat} {s : RgSt} (h : NS me k p i live s) (hi : i ≤ 10) (hm : 0 ≤ me ∧ me ≤ 3) : putN s = 4 * i + me := by
  unfold putN numE
  rw [h.id, h.given]
  omega
theorem NS.put {me k : Int} {p : Pt} {i live : Nat} {s : RgSt} (h : NS me k p i live s) (hi : i < 10) (hm : 0 ≤ me ∧ me ≤ 3) (he : takeE s (putC p) = 0) :
    takeI s (putC p) = 4 * i + me ∧ NS me k p (i + 1) (live + 1) (takeS s (putC p)) ∧ (takeS s (putC p)).took ≤ 2 * i + 1 ∧ (takeS s (putC p)).order.length ≤ 2 * i + 1 ∧ (takeS s (putC p)).th = aSet s.th (4 * i + me) (putT (putC p) (4 * i + me)) := by
  have hn := h.num (by omega) hm
  have hno := h.no hm.1
  have hd : doesE s (putC p) = 0 := by
    unfold takeE at he
    split at he
    · cases he
    · split at he
      · cases he
      · exact he
  have eI : doesI s (putC p) = 4 * i + me := by unfold doesI; rw [if_neg (fun e => e hd), if_pos (show (putC p).kind = 1 from rfl), hn]
  have eS : takeS s (putC p) = upS { s with th := aSet s.th (4 * i + me) (putT (putC p) (4 * i + me)), given := s.given + 1 } (4 * i + me) (putC p) := by
    unfold takeS
    rw [if_neg (fun e => e he), eI]
    unfold doesS
    rw [if_neg (fun e => e hd), if_pos (show (putC p).kind = 1 from rfl), hn]
  rw [eS]
  have h1 := h.t1
  have h2 := h.ol
  have hk : aKeys (aSet s.th (4 * i + me) (putT (putC p) (4 * i + me))) = aKeys s.th ++ [4 * (i : Int) + me] := aKeys_set_new _ _ hno
  refine ⟨by unfold takeI; rw [if_neg (fun e => e he), eI], ⟨h.id, ?_, ?_, ?_, h.ow, h.h1, h.h2, ?_, ?_, ?_, ?_, by have := h.li; omega⟩, ?_, ?_, rfl⟩
  · show s.given + 1 = _; have := h.given; omega
  · show 0 ≤ s.took + 1; have := h.t0; omega
  · show s.took + 1 ≤ _; omega
  · show (s.order ++ [_]).length ≤ _; rw [List.length_append, List.length_singleton]; omega
  · have := congrArg List.length hk
    simp only [aKeys, List.length_map, List.length_append, List.length_singleton] at this
    have := h.len
    show (aSet s.th (4 * i + me) (putT (putC p) (4 * i + me))).length = _
    omega
  · intro j t hj
    by_cases e : j = 4 * (i : Int) + me
    · subst e
      have hj : aGet (aSet s.th (4 * i + me) (putT (putC p) (4 * i + me))) (4 * i + me) = some t := hj
      rw [aGet_set_same] at hj
      cases hj; rfl
    · have hj : aGet (aSet s.th (4 * i + me) (putT (putC p) (4 * i + me))) j = some t := hj
      rw [aGet_set_ne _ _ e] at hj
      exact h.pt j t hj
  · intro j hj
    change j ∈ aKeys (aSet s.th (4 * i + me) (putT (putC p) (4 * i + me))) at hj
    rw [hk] at hj
    rcases List.mem_append.1 hj with hj | hj
    · have := h.lt j hj; omega
    · rw [List.mem_singleton] at hj; omega
  · show s.took + 1 ≤ _; omega
  · show (s.order ++ [_]).length ≤ _; rw [List.length_append, List.length_singleton]; omega
theorem NS.drop {me k : Int} {p : Pt} {i live : Nat} {s : RgSt} {L : List (Int × Th)} (h : NS me k p (i + 1) (live + 1) s) (hi : i < 10) (hm : 0 ≤ me ∧ me ≤ 3) (hl : live ≤ i) (ht : s.took ≤ 2 * i + 1) (ho : s.order.length ≤ 2 * i + 1)
    (hth : s.th = aSet L (4 * i + me) (putT (putC p) (4 * i + me))) (hno : 4 * (i : Int) + me ∉ aKeys L) (hlt : ∀ j ∈ aKeys L, j < 4 * i) :
    takeE s (dropC (4 * i + me)) = 0 ∧ NS me k p (i + 1) live (takeS s (dropC (4 * i + me))) := by
  have hsome : (aGet s.th (4 * i + me)).isSome = true := by rw [hth, aGet_set_same]; rfl
  have hck : checkE s.th (dropC (4 * i + me)) = 0 := by rw [check_drop (by omega) (by omega), if_pos hsome]
  have hd : doesE s (dropC (4 * i + me)) = 0 := by
    unfold doesE
    rw [if_neg (fun e => absurd (show (4 : Int) = 1 from e.1) (by decide)), if_neg (fun e => absurd (show (4 : Int) = 1 from e.1) (by decide)), if_neg (fun e => absurd (show (4 : Int) = 2 from e.2.1) (by decide)), hck, if_neg (by decide), if_neg (fun e => absurd (show (4 : Int) = 1 from e.1) (by decide))]
  have he : takeE s (dropC (4 * i + me)) = 0 := by
    unfold takeE
    rw [if_neg (by rw [isCm_drop _ (by omega) (by omega)]; decide), if_neg (by omega), hd]
  have eS : takeS s (dropC (4 * i + me)) = upS { s with th := aDel s.th (4 * i + me) } (4 * i + me) (dropC (4 * i + me)) := by
    unfold takeS
    rw [if_neg (fun e => e he)]
    have eI : doesI s (dropC (4 * i + me)) = 4 * i + me := by unfold doesI; rw [if_neg (fun e => e hd), if_neg (show ¬ (dropC (4 * i + me)).kind = 1 from fun e => absurd (show (4 : Int) = 1 from e) (by decide))]; rfl
    rw [eI]
    unfold doesS
    rw [if_neg (fun e => e hd), if_neg (show ¬ (dropC (4 * i + me)).kind = 1 from fun e => absurd (show (4 : Int) = 1 from e) (by decide))]
    rfl
  refine ⟨he, ?_⟩
  rw [eS]
  have hk : aKeys (aDel s.th (4 * i + me)) = aKeys L := by
    rw [aKeys_del, hth, aKeys_set_new _ _ hno, List.filter_append]
    have e1 : (aKeys L).filter (fun j => decide (j ≠ 4 * (i : Int) + me)) = aKeys L := List.filter_eq_self.2 fun j hj => decide_eq_true fun e => hno (e ▸ hj)
    rw [e1]; simp
  have hlen : (aDel s.th (4 * i + me)).length = L.length := by
    have := congrArg List.length hk
    simpa [aKeys] using this
  have hL : L.length = live := by
    have h1 := h.len
    have h2 := congrArg List.length (aKeys_set_new L (putT (putC p) (4 * i + me)) hno)
    simp only [aKeys, List.length_map, List.length_append, List.length_singleton] at h2
    rw [hth] at h1
    omega
  refine ⟨h.id, h.given, ?_, ?_, h.ow, h.h1, h.h2, ?_, ?_, ?_, ?_, by omega⟩
  · show 0 ≤ s.took + 1; have := h.t0; omega
  · show s.took + 1 ≤ _; omega
  · show (s.order ++ [_]).length ≤ _; rw [List.length_append, List.length_singleton]; omega
  · show (aDel s.th (4 * i + me)).length = _; omega
  · intro j t hj
    have hj : aGet (aDel s.th (4 * i + me)) j = some t := hj
    by_cases e : j = 4 * (i : Int) + me
    · subst e; rw [aGet_del_same] at hj; cases hj
    · rw [aGet_del_ne _ e] at hj; exact h.pt j t hj
  · intro j hj
    change j ∈ aKeys (aDel s.th (4 * i + me)) at hj
    rw [hk] at hj
    have := hlt j hj; omega
end Go.Proofs
