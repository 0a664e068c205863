/- The evaluator's operations without effect. -/
import Derived.Test.YtmdidmoffcinjaaGreatVwEvP
import Derived.Laws.Strings
namespace Go.Vw.Ev
open Go Go.Vw
section
variable {φ : Phi} {P : Program}
theorem leavesA_ok : ∀ {ls : List Leaf} {xs : List AS} {l : List Value}, leavesA ls xs = true → RSL φ xs l → leavesOk ls l = true
 | [], [], l, _, hr => by simp only [RSL] at hr; subst hr; rfl
 | x :: ls, v :: vs, l, h, hr => by
  simp only [leavesA] at h
  simp only [RSL] at hr
  obtain ⟨w, ws, rfl, h2, h3⟩ := hr
  split at h
  ·rename_i hl
   simp only [leavesOk, Bool.and_eq_true]
   refine ⟨?_, leavesA_ok h h3⟩
   cases x <;> cases v <;> simp only [leafA, Bool.false_eq_true] at hl <;> simp only [RS] at h2
   ·subst h2
    simp [Leaf.is, ikEq_iff.1 hl]
   ·obtain ⟨b, rfl, _⟩ := h2; rfl
   ·subst h2; rfl
  ·exact absurd h (by decide)
 | [], _ :: _, _, h, _ => by simp [leavesA] at h
 | _ :: _, [], _, h, _ => by simp [leavesA] at h
theorem sEq_str {s t : List Nat} {a b : ByteArray} (ha : a.data.toList.map UInt8.toNat = s) (hb : b.data.toList.map UInt8.toNat = t) : sEq s t = (a.toList == b.toList) := by
 by_cases h : a = b
 ·have : s = t := by rw [← ha, ← hb, h]
  rw [sEq_iff.2 this, h]
  simp
 ·have h1 : sEq s t = false := by
   cases hx : sEq s t
   ·rfl
   ·exact absurd (bytes_inj (ha.trans ((sEq_iff.1 hx).trans hb.symm))) h
  have h2 : (a.toList == b.toList) = false := by
   cases hx : a.toList == b.toList
   ·rfl
   ·have he : a.toList = b.toList := by simpa using hx
    rw [ByteArray.toList_eq, ByteArray.toList_eq] at he
    exact absurd (bytes_inj (by rw [he])) h
  rw [h1, h2]
theorem cellsEqA_eq : ∀ {ls : List Leaf} {xs ys : List AS} {l m : List Value}, leavesA ls xs = true → leavesA ls ys = true → RSL φ xs l → RSL φ ys m → cellsEqA xs ys = cellsEq l m
 | [], [], [], l, m, _, _, hl, hm => by simp only [RSL] at hl hm; subst hl; subst hm; rfl
 | k :: ls, x :: xs, y :: ys, l, m, hx, hy, hl, hm => by
  simp only [leavesA] at hx hy
  simp only [RSL] at hl hm
  obtain ⟨v, vs, rfl, h2, h3⟩ := hl
  obtain ⟨w, ws, rfl, h2', h3'⟩ := hm
  split at hx
  ·rename_i hkx
   split at hy
   ·rename_i hky
    have ih := cellsEqA_eq hx hy h3 h3'
    have hc : cellEqA x y = cellEq v w := by
     cases k <;> cases x <;> simp only [leafA, Bool.false_eq_true] at hkx <;> cases y <;> simp only [leafA, Bool.false_eq_true] at hky <;> simp only [RS] at h2 h2'
     ·subst h2; subst h2'
      exact iEq_beq _ _
     ·obtain ⟨a, rfl, ha⟩ := h2
      obtain ⟨b, rfl, hb⟩ := h2'
      exact sEq_str ha hb
     ·subst h2; subst h2'
      rfl
    simp only [cellsEqA, cellsEq, hc, ih]
    cases cellEq v w <;> rfl
   ·exact absurd hy (by decide)
  ·exact absurd hx (by decide)
 | [], _ :: _, _, _, _, h, _, _, _ => by simp [leavesA] at h
 | _ :: _, [], _, _, _, h, _, _, _ => by simp [leavesA] at h
 | [], [], _ :: _, _, _, _, h, _, _ => by simp [leavesA] at h
 | _ :: _, _ :: _, [], _, _, _, h, _, _ => by simp [leavesA] at h
theorem RV_int (k : IntKind) (n : Int) : RV φ (.s (.int k n)) (.int k n) := by simp only [RV, RS]
theorem RV_bool (b : Bool) : RV φ (.s (.bool b)) (.bool b) := by simp only [RV, RS]
theorem binN_ex {op : BinOp} {b : Bool} {K : AV → Bool} (h : binN op b K = true) : ∃ c, K (.s (.bool c)) = true ∧ ((op = .eql ∧ c = b) ∨ (op = .neq ∧ c = !b)) := by
 unfold binN at h
 split at h
 ·rw [fB_eq] at h; exact ⟨_, h, .inl ⟨rfl, rfl⟩⟩
 ·rw [fB_eq] at h; exact ⟨_, h, .inr ⟨rfl, rfl⟩⟩
 ·exact absurd h (by decide)
theorem binA_ex {op : BinOp} {t : TypeId} {x y : AV} {X Y : Value} (hx : RV φ x X) (hy : RV φ y Y) {K : AV → Bool} (h : binA P op t x y K = true) :
  ∃ v V, K v = true ∧ RV φ v V ∧ ∀ K' : Value → Prop, K' V → pBin P op t X Y K' := by
 unfold binA at h
 split at h
 ·rename_i k a k' b
  simp only [RV, RS] at hx hy
  subst hx; subst hy
  unfold binI at h
  split at h
  ·obtain ⟨hb, h⟩ := okK_ex h
   rw [wrapK_eq] at h
   exact ⟨_, _, h, RV_int _ _, fun K' hK => ⟨iLe_iff.1 hb, hK⟩⟩
  ·obtain ⟨hb, h⟩ := okK_ex h
   rw [fI_eq] at h
   exact ⟨_, _, h, RV_int _ _, fun K' hK => ⟨iLe_iff.1 hb, hK⟩⟩
  ·rename_i hn1 hn2
   obtain ⟨hk, h'⟩ := okK_ex h
   have := ikEq_iff.1 hk
   subst this
   clear h
   have h := h'
   clear h'
   ·skip
    split at h
    ·rw [wrapK_eq, iAdd_] at h; exact ⟨_, _, h, RV_int _ _, fun K' hK => by simpa [pBin] using hK⟩
    ·rw [wrapK_eq, iSub_] at h; exact ⟨_, _, h, RV_int _ _, fun K' hK => by simpa [pBin] using hK⟩
    ·rw [wrapK_eq, iMul_] at h; exact ⟨_, _, h, RV_int _ _, fun K' hK => by simpa [pBin] using hK⟩
    ·obtain ⟨hb, h⟩ := okK_ex h
     have hb : b ≠ 0 := fun e => by rw [e] at hb; exact absurd hb (by decide)
     rw [wrapK_eq] at h; exact ⟨_, _, h, RV_int _ _, fun K' hK => by simpa [pBin, hb] using hK⟩
    ·obtain ⟨hb, h⟩ := okK_ex h
     have hb : b ≠ 0 := fun e => by rw [e] at hb; exact absurd hb (by decide)
     rw [fI_eq] at h; exact ⟨_, _, h, RV_int _ _, fun K' hK => by simpa [pBin, hb] using hK⟩
    ·rw [wrapK_eq] at h; exact ⟨_, _, h, RV_int _ _, fun K' hK => by simpa [pBin] using hK⟩
    ·rw [wrapK_eq] at h; exact ⟨_, _, h, RV_int _ _, fun K' hK => by simpa [pBin] using hK⟩
    ·rw [wrapK_eq] at h; exact ⟨_, _, h, RV_int _ _, fun K' hK => by simpa [pBin] using hK⟩
    ·rw [wrapK_eq] at h; exact ⟨_, _, h, RV_int _ _, fun K' hK => by simpa [pBin] using hK⟩
    ·rw [fB_eq, iEq_beq] at h; exact ⟨_, _, h, RV_bool _, fun K' hK => by simpa [pBin] using hK⟩
    ·rw [fB_eq, iEq_beq] at h; exact ⟨_, _, h, RV_bool _, fun K' hK => by simpa [pBin, bne] using hK⟩
    ·rw [fB_eq, iLt_dec] at h; exact ⟨_, _, h, RV_bool _, fun K' hK => by simpa [pBin] using hK⟩
    ·rw [fB_eq, iLe_dec] at h; exact ⟨_, _, h, RV_bool _, fun K' hK => by simpa [pBin] using hK⟩
    ·rw [fB_eq, iLt_dec] at h; exact ⟨_, _, h, RV_bool _, fun K' hK => by simpa [pBin] using hK⟩
    ·rw [fB_eq, iLe_dec] at h; exact ⟨_, _, h, RV_bool _, fun K' hK => by simpa [pBin] using hK⟩
    ·exact absurd h (by decide)
 ·rename_i s s'
  simp only [RV, RS] at hx hy
  obtain ⟨a, rfl, ha⟩ := hx
  obtain ⟨b, rfl, hb⟩ := hy
  unfold binStr at h
  split at h
  ·rw [fL_eq, ap_eq] at h
   obtain ⟨hle, h⟩ := okK_ex h
   have hle : ln (s ++ s') ≤ 9223372036854775807 := by simpa using hle
   rw [ln_eq, List.length_append, ← ha, ← hb, List.length_map, List.length_map] at hle
   refine ⟨_, .string (a ++ b), h, ?_, fun K' hK => ⟨by simpa using hle, hK⟩⟩
   simp only [RV, RS]
   exact ⟨_, rfl, by simp [← ha, ← hb]⟩
  ·rw [fB_eq, sEq_str ha hb] at h; exact ⟨_, _, h, RV_bool _, fun K' hK => by simpa [pBin] using hK⟩
  ·rw [fB_eq, sEq_str ha hb] at h; exact ⟨_, _, h, RV_bool _, fun K' hK => by simpa [pBin] using hK⟩
  ·exact absurd h (by decide)
 ·rename_i a b
  simp only [RV, RS] at hx hy
  subst hx; subst hy
  split at h
  ·rename_i hu
   obtain ⟨c, hc, hop⟩ := binN_ex h
   refine ⟨_, .bool c, hc, RV_bool _, fun K' hK => ?_⟩
   rcases hop with ⟨rfl, rfl⟩ | ⟨rfl, rfl⟩ <;> simp only [pBin, hu] <;> cases a <;> cases b <;> simpa [bEq] using hK
  ·exact absurd h (by decide)
 ·rename_i a
  simp only [RV, RS] at hx hy
  obtain ⟨a', rfl, ha⟩ := hx
  obtain ⟨b', rfl, hb⟩ := hy
  have hb : b' = none := hb
  subst hb
  have hn : isNilP a = a'.isNone := by
   cases a with
   | nil => have : a' = none := ha; subst this; rfl
   | «at» x o => obtain ⟨r, _, h2⟩ := ha; subst h2; rfl
   | edge => exact ha.elim
  split at h
  ·rename_i hu
   obtain ⟨c, hc, hop⟩ := binN_ex h
   refine ⟨_, .bool c, hc, RV_bool _, fun K' hK => ?_⟩
   rcases hop with ⟨rfl, rfl⟩ | ⟨rfl, rfl⟩ <;> simp only [pBin, hu] <;> simpa [hn] using hK
  ·exact absurd h (by decide)
 ·rename_i a _ _ _ _ _ _
  simp only [RV, RS] at hx hy
  obtain ⟨a', n', rfl, _, _, ha⟩ := hx
  obtain ⟨b', m', rfl, _, _, hb⟩ := hy
  have hb : b' = none := hb.1
  subst hb
  have hn : isNilP a = a'.isNone := by
   cases a with
   | nil => have : a' = none := ha.1; subst this; rfl
   | «at» x o => obtain ⟨r, _, h2, _⟩ := ha; subst h2; rfl
   | edge x o => obtain ⟨_, r, o', _, h2, _⟩ := ha; subst h2; rfl
  split at h
  ·rename_i hu
   obtain ⟨c, hc, hop⟩ := binN_ex h
   refine ⟨_, .bool c, hc, RV_bool _, fun K' hK => ?_⟩
   rcases hop with ⟨rfl, rfl⟩ | ⟨rfl, rfl⟩ <;> simp only [pBin, hu] <;> simpa [hn] using hK
  ·exact absurd h (by decide)
 ·rename_i a
  simp only [RV, RS] at hx hy
  subst hy
  have hn : ∃ a', X = .map a' ∧ a.isNone = a'.isNone := by
   cases a with
   | none => exact ⟨none, hx, rfl⟩
   | some x => obtain ⟨r, _, h2⟩ := hx; exact ⟨_, h2, rfl⟩
  obtain ⟨a', rfl, hn⟩ := hn
  split at h
  ·rename_i hu
   obtain ⟨c, hc, hop⟩ := binN_ex h
   refine ⟨_, .bool c, hc, RV_bool _, fun K' hK => ?_⟩
   rcases hop with ⟨rfl, rfl⟩ | ⟨rfl, rfl⟩ <;> simp only [pBin, hu] <;> simpa [hn] using hK
  ·exact absurd h (by decide)
 ·rename_i xs ys
  simp only [RV] at hx hy
  obtain ⟨l, rfl, hl⟩ := hx
  obtain ⟨m, rfl, hm⟩ := hy
  split at h
  ·exact absurd h (by decide)
  ·rename_i hg
   split at h
   ·exact absurd h (by decide)
   ·rename_i ls hls
    obtain ⟨hlv, h⟩ := okK_ex h
    simp only [Bool.and_eq_true] at hlv
    obtain ⟨c, hc, hop⟩ := binN_ex h
    refine ⟨_, .bool c, hc, RV_bool _, fun K' hK => ?_⟩
    have h1 := leavesA_ok hlv.1 hl
    have h2 := leavesA_ok hlv.2 hm
    have h3 := cellsEqA_eq hlv.1 hlv.2 hl hm
    rcases hop with ⟨rfl, rfl⟩ | ⟨rfl, rfl⟩ <;> simp only [pBin, hg, hls, h1, h2] <;> simpa [h3] using hK
 ·exact absurd h (by decide)
end
end Go.Vw.Ev
