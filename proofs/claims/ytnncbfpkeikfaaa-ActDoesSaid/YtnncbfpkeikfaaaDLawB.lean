/- Many things at one place. -/
import Derived.Test.YtnncbfpkeikfaaaDX
namespace Go.Proofs
open Go Go.Vw Go.Vw.Ev
set_option linter.unusedVariables false
set_option linter.unusedSimpArgs false

theorem wrapu8 {n : Int} (h0 : 0 ≤ n) (h1 : n ≤ 255) : IntKind.wrap .u8 n = n := by
  obtain ⟨m, rfl⟩ := Int.eq_ofNat_of_zero_le h0
  have key : ∀ i : Fin 256, IntKind.wrap .u8 (i.val : Nat) = (i.val : Nat) := by decide +kernel
  exact key ⟨m, by omega⟩
theorem cellOf_b {p : Pt} (h : On p = true) : 0 ≤ cellOf p ∧ cellOf p < 16 := by
  have := on_b h
  exact cellAt_b (by omega) (by omega) (by omega) (by omega)
theorem cellT_count {L : List (Int × Th)} {p : Pt} (h : On p = true) : (cellT L (ofC p)).length = ((aKeys L).filter fun k => RIn (cellR (cellOf p)) (thOf L k).pt).length := by
  have hb := cellOf_b h
  have e : ofC p = cellOf p := by unfold ofC; rw [if_pos h]
  unfold cellT
  rw [e, if_pos (by unfold isC; rw [decide_eq_true hb.1, decide_eq_true hb.2]; rfl)]
  unfold inT
  rw [srtI_len]
/-- So many things at one place, numbered from 0 on. -/
structure AllAt (L : List (Int × Th)) (p : Pt) (m : Nat) : Prop where
  len : L.length = m
  keys : ∀ k, k ∈ aKeys L ↔ 0 ≤ k ∧ k < m
  pt : ∀ k ∈ aKeys L, (thOf L k).pt = p
theorem AllAt.count {L : List (Int × Th)} {p q : Pt} {m : Nat} (h : AllAt L p m) (hp : On p = true) (hq : On q = true) : ((aKeys L).filter fun k => RIn (cellR (cellOf q)) (thOf L k).pt).length = if cellOf p = cellOf q then m else 0 := by
  have hb := cellOf_b hq
  split
  · rename_i e
    rw [List.filter_eq_self.2 fun k hk => by rw [h.pt k hk]; exact (cell_in hb.1 hb.2 p).2 ⟨hp, e⟩]
    have := h.len
    simpa [aKeys] using this
  · rename_i e
    rw [List.filter_eq_nil_iff.2 fun k hk hr => by rw [h.pt k hk] at hr; exact e ((cell_in hb.1 hb.2 p).1 hr).2]
    rfl
theorem AllAt.add {L : List (Int × Th)} {p : Pt} {m : Nat} (h : AllAt L p m) : AllAt (aSet L (m : Int) (putT (putC p) m)) p (m + 1) := by
  have hn : (m : Int) ∉ aKeys L := fun hk => by have := (h.keys _).1 hk; omega
  refine ⟨?_, fun k => ?_, fun k hk => ?_⟩
  · have := congrArg List.length (aKeys_set_new L (putT (putC p) m) hn)
    have h2 := h.len
    simp only [aKeys, List.length_map, List.length_append, List.length_cons, List.length_nil] at this
    omega
  · rw [aKeys_set_new _ _ hn, List.mem_append, List.mem_singleton, h.keys]
    omega
  · unfold thOf
    by_cases e : k = (m : Int)
    · subst e; rw [aGet_set_same]; rfl
    · rw [aGet_set_ne _ _ e]
      rw [aKeys_set_new _ _ hn, List.mem_append, List.mem_singleton] at hk
      exact h.pt k (hk.resolve_right e)
theorem AllAt.count_add {L : List (Int × Th)} {p q : Pt} {m : Nat} {k : Int} {T : Th} (h : AllAt L p m) (hk : k ∉ aKeys L) (hp : On p = true) (hq : On q = true) (hT : cellOf T.pt ≠ cellOf q) :
    ((aKeys (aSet L k T)).filter fun j => RIn (cellR (cellOf q)) (thOf (aSet L k T) j).pt).length = if cellOf p = cellOf q then m else 0 := by
  rw [← h.count hp hq, aKeys_set_new _ _ hk, List.filter_append, List.length_append]
  have hb := cellOf_b hq
  have e1 : ([k].filter fun j => RIn (cellR (cellOf q)) (thOf (aSet L k T) j).pt) = [] := List.filter_eq_nil_iff.2 fun j hj hr => by
    rw [List.mem_singleton.1 hj] at hr
    unfold thOf at hr
    rw [aGet_set_same] at hr
    exact hT ((cell_in hb.1 hb.2 _).1 hr).2
  rw [e1, List.length_nil, Nat.add_zero]
  congr 1
  refine List.filter_congr fun j hj => ?_
  have hne : j ≠ k := fun e => hk (e ▸ hj)
  unfold thOf
  rw [aGet_set_ne L T hne]
theorem len_old {L : List (Int × Th)} {k : Int} {T : Th} (h : k ∈ aKeys L) : (aSet L k T).length = L.length := by
  have := congrArg List.length (aKeys_set_old L T h)
  simpa [aKeys] using this
theorem aGet_isSome {L : List (Int × Th)} {k : Int} : (aGet L k).isSome = true ↔ k ∈ aKeys L := mem_get.symm
theorem not_some {L : List (Int × Th)} {k : Int} (h : k ∉ aKeys L) : (aGet L k).isSome = false := by
  cases e : (aGet L k).isSome with
  | false => rfl
  | true => exact absurd (aGet_isSome.1 e) h
end Go.Proofs
