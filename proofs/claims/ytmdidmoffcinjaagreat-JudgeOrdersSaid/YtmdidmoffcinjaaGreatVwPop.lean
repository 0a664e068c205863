import Derived.Test.YtmdidmoffcinjaaGreatVwPure
namespace Go.Vw
open Go Go.RowKit
section
variable {P : Program}
theorem arr_map (a : Array Operand) (f : Operand → Value) : a.map f = (a.toList.map f).toArray := by rw [← List.map_toArray, Array.toArray_toList]
theorem run_v (s : Sem Value) (v : Value) (w : World) (h : s.run P w = .ok v w) :
  (do pure (Next.value (← s)) : Sem Next).run P w = .ok (.value v) w := by simp [h]
theorem pBin_sound {op : BinOp} {t : TypeId} {a b : Operand} {x y : Value} {K : Value → Prop} (h : pBin P op t x y K) :
  ∃ v, (∀ w, ((do eqGuard op t a b x y; binOp op t x y : Sem Value)).run P w = .ok v w) ∧ K v := by
 unfold pBin at h
 split at h
 ·-- ints
  rename_i k n k' m
  have g : ∀ w, (eqGuard op t a b (.int k n) (.int k' m)).run P w = .ok () w := fun w => eqGuard_none op t a b _ _ (by simp) (by simp) w
  split at h
  ·exact ⟨_, fun w => by simp only [Sem.run_bind, g, Result.andThen_ok, binOp, Op.shift, if_neg (Int.not_lt.2 h.1)]; rfl, h.2⟩
  ·exact ⟨_, fun w => by simp only [Sem.run_bind, g, Result.andThen_ok, binOp, Op.shift, if_neg (Int.not_lt.2 h.1)]; rfl, h.2⟩
  ·rename_i op' h1 h2
   split at h
   ·exact h.elim
   ·rename_i hk
    have hk' : k = k' := by simpa using hk
    subst hk'
    split at h
    all_goals first
     | exact h.elim
     | exact ⟨_, fun w => by simp only [Sem.run_bind, g, Result.andThen_ok, binOp, ne_eq, not_true_eq_false, if_false]; rfl, h⟩
     | exact ⟨_, fun w => by simp only [Sem.run_bind, g, Result.andThen_ok, binOp, ne_eq, not_true_eq_false, if_false, Op.intDiv, if_neg h.1]; rfl, h.2⟩
 ·-- strings
  rename_i s u
  have g : ∀ w, (eqGuard op t a b (.string s) (.string u)).run P w = .ok () w := fun w => eqGuard_none op t a b _ _ (by simp) (by simp) w
  split at h
  ·obtain ⟨h1, h2⟩ := h
   refine ⟨_, fun w => ?_, h2⟩
   have hm : IntKind.i64.max = 9223372036854775807 := by decide
   have : ¬ ((s.size + u.size : Nat) : Int) > IntKind.i64.max := by rw [hm]; omega
   simp only [Sem.run_bind, g, Result.andThen_ok, binOp, Op.stringOp, if_neg this, Sem.run_pure]
  ·exact ⟨_, fun w => by simp only [Sem.run_bind, g, Result.andThen_ok, binOp, Op.stringOp]; rfl, h⟩
  ·exact ⟨_, fun w => by simp only [Sem.run_bind, g, Result.andThen_ok, binOp, Op.stringOp]; rfl, h⟩
  ·exact h.elim
 ·-- bools
  rename_i s u
  have g : ∀ w, (eqGuard op t a b (.bool s) (.bool u)).run P w = .ok () w := fun w => eqGuard_none op t a b _ _ (by simp) (by simp) w
  split at h
  ·rename_i ht
   have e1 : ∀ w, (Op.equal t (.bool s) (.bool u)).run P w = .ok (s == u) w := fun w => run_equalIn_bool' w 9999 t s u ht
   split at h
   ·exact ⟨_, fun w => by simp only [Sem.run_bind, g, Result.andThen_ok, binOp, e1, Sem.run_pure], h⟩
   ·exact ⟨_, fun w => by simp only [Sem.run_bind, g, Result.andThen_ok, binOp, e1, Sem.run_pure], h⟩
   ·exact h.elim
  ·exact h.elim
 ·-- pointers
  rename_i p
  have g : ∀ w, (eqGuard op t a b (.pointer p) (.pointer none)).run P w = .ok () w := fun w => eqGuard_none op t a b _ _ (by simp) (by simp) w
  split at h
  ·rename_i e ht
   have e1 : ∀ w, (Op.equal t (.pointer p) (.pointer none)).run P w = .ok p.isNone w := by
    intro w
    show (Op.equalIn (9999 + 1) t _ _).run P w = _
    generalize 9999 = D
    unfold Op.equalIn
    simp only [Sem.run_bind, run_underlying_of ht, Result.andThen_ok]
    cases p <;> rfl
   split at h
   ·exact ⟨_, fun w => by simp only [Sem.run_bind, g, Result.andThen_ok, binOp, e1, Sem.run_pure], h⟩
   ·exact ⟨_, fun w => by simp only [Sem.run_bind, g, Result.andThen_ok, binOp, e1, Sem.run_pure], h⟩
   ·exact h.elim
  ·exact h.elim
 ·-- slices
  rename_i p n c n' c'
  have g : ∀ w, (eqGuard op t a b (.slice p n c) (.slice none n' c')).run P w = .ok () w := fun w => eqGuard_none op t a b _ _ (by simp) (by simp) w
  split at h
  ·rename_i e ht
   have e1 : ∀ w, (Op.equal t (.slice p n c) (.slice none n' c')).run P w = .ok p.isNone w := by
    intro w
    show (Op.equalIn (9999 + 1) t _ _).run P w = _
    generalize 9999 = D
    unfold Op.equalIn
    simp only [Sem.run_bind, run_underlying_of ht, Result.andThen_ok]
    cases p <;> rfl
   split at h
   ·exact ⟨_, fun w => by simp only [Sem.run_bind, g, Result.andThen_ok, binOp, e1, Sem.run_pure], h⟩
   ·exact ⟨_, fun w => by simp only [Sem.run_bind, g, Result.andThen_ok, binOp, e1, Sem.run_pure], h⟩
   ·exact h.elim
  ·exact h.elim
 ·-- maps
  rename_i p
  have g : ∀ w, (eqGuard op t a b (.map p) (.map none)).run P w = .ok () w := fun w => eqGuard_none op t a b _ _ (by simp) (by simp) w
  split at h
  ·rename_i k e ht
   have e1 : ∀ w, (Op.equal t (.map p) (.map none)).run P w = .ok p.isNone w := by
    intro w
    show (Op.equalIn (9999 + 1) t _ _).run P w = _
    generalize 9999 = D
    unfold Op.equalIn
    simp only [Sem.run_bind, run_underlying_of ht, Result.andThen_ok]
    cases p <;> rfl
   split at h
   ·exact ⟨_, fun w => by simp only [Sem.run_bind, g, Result.andThen_ok, binOp, e1, Sem.run_pure], h⟩
   ·exact ⟨_, fun w => by simp only [Sem.run_bind, g, Result.andThen_ok, binOp, e1, Sem.run_pure], h⟩
   ·exact h.elim
  ·exact h.elim
 ·-- aggregates
  rename_i xs ys
  split at h
  ·exact h.elim
  ·rename_i hg'
   simp only [Bool.or_eq_false_iff, Bool.not_eq_false'] at hg'
   obtain ⟨hg, hagg⟩ := hg'
   have g : ∀ w, (eqGuard op t a b (.agg xs) (.agg ys)).run P w = .ok () w := eqGuard_agg op t a b xs ys hg
   split at h
   ·exact h.elim
   ·rename_i ls hls
    have main : ∀ (hx : leavesOk ls xs.toList = true) (hy : leavesOk ls ys.toList = true), isAggD (P.underlying t) = true → ∀ w, (Op.equal t (.agg xs) (.agg ys)).run P w = .ok (cellsEq xs.toList ys.toList) w := by
     intro hx hy hd w
     simpa using equal_leaves hls hx hy hd w
    split at h
    ·obtain ⟨hx, hy, hk⟩ := h
     exact ⟨_, fun w => by simp only [Sem.run_bind, g, Result.andThen_ok, binOp, main hx hy hagg, Sem.run_pure], hk⟩
    ·obtain ⟨hx, hy, hk⟩ := h
     exact ⟨_, fun w => by simp only [Sem.run_bind, g, Result.andThen_ok, binOp, main hx hy hagg, Sem.run_pure], hk⟩
    ·exact h.elim
 ·exact h.elim
end
end Go.Vw
