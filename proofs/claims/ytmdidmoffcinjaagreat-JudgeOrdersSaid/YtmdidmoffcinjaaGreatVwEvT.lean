/- An operation without effect. -/
import Derived.Test.YtmdidmoffcinjaaGreatVwEvS
namespace Go.Vw.Ev
open Go Go.Vw
section
variable {φ : Phi} {P : Program}
theorem rowOld (l : List Value) : Hp.row? (fun _ => some (.old l)) 0 = some ([] ++ l) := rfl
theorem pEv_ex {ρA : AEnv} {ρ : Env} (hr : EnvR φ ρA ρ) {H : AH} (hH : ∀ a cs r, (H.t.get a = some (.row cs) ∨ H.t.get a = some (.fix cs)) → φ a = some r → r.pre.length + cs.length ≤ r.sz) {op : Op} {K : AV → Bool} (h : pEv P H ρA op K = true) :
  ∃ v V, K v = true ∧ RV φ v V ∧ ∀ K' : Value → Prop, K' V → pOp P ρ op K' := by
 unfold pEv at h
 split at h
 ·obtain ⟨v, h, hv⟩ := evA_ex hr h
  exact ⟨v, _, h, hv, fun K' hK => hK⟩
 ·obtain ⟨v, h, hv⟩ := evA_ex hr h
  exact ⟨v, _, h, hv, fun K' hK => hK⟩
 ·obtain ⟨v, h, hv⟩ := evA_ex hr h
  obtain ⟨b, h, hb⟩ := asB_ex h hv
  cases b
  ·obtain ⟨w, h, hw⟩ := evA_ex hr h
   exact ⟨w, _, h, hw, fun K' hK => by simp only [pOp, hb]; exact hK⟩
  ·obtain ⟨w, h, hw⟩ := evA_ex hr h
   exact ⟨w, _, h, hw, fun K' hK => by simp only [pOp, hb]; exact hK⟩
 ·obtain ⟨v, h, hv⟩ := evA_ex hr h
  obtain ⟨p, a, h, ha, hp⟩ := asP_ex h hv
  obtain ⟨x, o, r, rfl, h, hx, rfl⟩ := nilK_ex h hp
  exact ⟨_, _, h, by simp only [RV, RS, RP]; exact ⟨_, rfl, r, hx, rfl⟩, fun K' hK => by simp only [pOp, ha, nilCk]; exact hK⟩
 ·obtain ⟨v, h, hv⟩ := evA_ex hr h
  obtain ⟨w, h, hw⟩ := evA_ex hr h
  obtain ⟨u, U, h, hu, hK⟩ := binA_ex hv hw h
  exact ⟨u, U, h, hu, hK⟩
 ·obtain ⟨v, h, hv⟩ := evA_ex hr h
  split at h
  ·obtain ⟨b, h, hb⟩ := asB_ex h hv
   rw [fB_eq] at h
   exact ⟨_, _, h, RV_bool _, fun K' hK => by simp only [pOp, hb]; exact hK⟩
  ·obtain ⟨k, n, h, hb⟩ := asI_ex h hv
   rw [wrapK_eq] at h
   exact ⟨_, _, h, RV_int _ _, fun K' hK => by simp only [pOp, hb]; exact hK⟩
  ·exact absurd h (by decide)
 ·split at h
  ·rename_i h1 h2
   obtain ⟨v, h, hv⟩ := evA_ex hr h
   obtain ⟨k, n, h, hb⟩ := asI_ex h hv
   rw [wrapK_eq] at h
   exact ⟨_, _, h, RV_int _ _, fun K' hK => by simp only [pOp, hb, h1, h2]; exact hK⟩
  ·exact absurd h (by decide)
 ·split at h
  ·rename_i h1
   split at h
   ·rename_i h2
    split at h
    ·rename_i h3
     split at h
     ·exact absurd h (by decide)
     ·rename_i h4
      obtain ⟨v, h, hv⟩ := evA_ex hr h
      obtain ⟨p, a, h, ha, hp⟩ := asP_ex h hv
      obtain ⟨x, o, r, rfl, h, hx, rfl⟩ := nilK_ex h hp
      rw [fN_eq] at h
      exact ⟨_, _, h, by simp only [RV, RS, RP]; exact ⟨_, rfl, r, hx, rfl⟩, fun K' hK => by simp only [pOp, ha, nilCk, h1, h2, h3, h4, Nat.add_assoc]; exact hK⟩
    ·exact absurd h (by decide)
   ·exact absurd h (by decide)
  ·exact absurd h (by decide)
 ·split at h
  ·rename_i h1
   split at h
   ·rename_i i h2
    obtain ⟨v, h, hv⟩ := evA_ex hr h
    obtain ⟨w, h, hw⟩ := evA_ex hr h
    obtain ⟨p, a, h, ha, hp⟩ := asP_ex h hv
    obtain ⟨k, j, h, hj⟩ := asI_ex h hw
    obtain ⟨x, o, r, rfl, h, hx, rfl⟩ := nilK_ex h hp
    obtain ⟨m, rfl, hlt, h⟩ := idxK_ex h
    rw [fN_eq] at h
    refine ⟨_, _, h, by simp only [RV, RS, RP]; exact ⟨_, rfl, r, hx, rfl⟩, fun K' hK => ?_⟩
    simp only [pOp, ha, hj, nilCk, h1, h2, intOfV]
    refine ⟨by simp, by simpa using hlt, ?_⟩
    simpa [Nat.add_assoc] using hK
   ·exact absurd h (by decide)
  ·rename_i h1
   split at h
   ·rename_i i h2
    obtain ⟨v, h, hv⟩ := evA_ex hr h
    obtain ⟨w, h, hw⟩ := evA_ex hr h
    obtain ⟨p, n, c, z, a, c', h, ha, hc, hnc, hs, _⟩ := asSl_ex h hv
    obtain ⟨k, j, h, hj⟩ := asI_ex h hw
    cases p
    case «at» x o =>
     obtain ⟨r, hx, rfl, hsz⟩ := hs
     obtain ⟨m, rfl, hlt, h⟩ := idxK_ex h
     rw [fN_eq] at h
     refine ⟨_, _, h, by simp only [RV, RS, RP]; exact ⟨_, rfl, r, hx, rfl⟩, fun K' hK => ?_⟩
     simp only [pOp, ha, hj, nilCk, h1, h2, intOfV]
     refine ⟨by simp, by simpa using hlt, ?_⟩
     simpa [Nat.add_assoc] using hK
    case nil => exact Bool.noConfusion h
    case edge x o => exact Bool.noConfusion h
   ·exact absurd h (by decide)
  ·exact absurd h (by decide)
 ·split at h
  ·rename_i h1
   split at h
   ·rename_i i h2
    obtain ⟨v, h, hv⟩ := evA_ex hr h
    obtain ⟨w, h, hw⟩ := evA_ex hr h
    obtain ⟨cs, l, h, hl, hrl⟩ := asG_ex h hv
    obtain ⟨k, j, h, hj⟩ := asI_ex h hw
    obtain ⟨m, rfl, hlt, h⟩ := idxK_ex h
    rw [fN_eq] at h
    obtain ⟨u, U, h, hu, d', hd', hK⟩ := ldA_ex h hrl
    refine ⟨u, U, h, hu, fun K' hK' => ?_⟩
    simp only [pOp, hl, hj, h1, h2, intOfV, partOf, hd']
    refine ⟨by simp, by simpa using hlt, ?_⟩
    have := hK (fun _ => some (.old l.toList)) 0 [] ⟨[], by rw [List.append_nil]; exact rowOld _⟩ K' hK'
    rw [hd'] at this
    simpa using this
   ·exact absurd h (by decide)
  ·rename_i h1
   obtain ⟨v, h, hv⟩ := evA_ex hr h
   obtain ⟨w, h, hw⟩ := evA_ex hr h
   obtain ⟨s, b, h, hl, hrl⟩ := asStr_ex h hv
   obtain ⟨k, j, h, hj⟩ := asI_ex h hw
   obtain ⟨m, hjm, h'⟩ := natK_ex h
   subst hjm
   clear h
   split at h'
   ·rename_i c hc
    rw [fN_eq] at h'
    rw [nth_eq, ← hrl, List.getElem?_map] at hc
    cases hb : b.data.toList[m]? with
    | none => rw [hb] at hc; simp at hc
    | some u =>
     rw [hb] at hc
     simp only [Option.map_some, Option.some.injEq] at hc
     subst hc
     refine ⟨_, _, h', RV_int _ _, fun K' hK => ?_⟩
     simp only [pOp, hl, hj, h1, intOfV]
     exact ⟨by simp, u, by simpa using hb, hK⟩
   ·exact absurd h' (by decide)
  ·exact absurd h (by decide)
 ·split at h
  ·rename_i h1
   split at h
   ·rename_i fl h2
    split at h
    ·rename_i i h3
     obtain ⟨v, h, hv⟩ := evA_ex hr h
     obtain ⟨cs, l, h, hl, hrl⟩ := asG_ex h hv
     obtain ⟨u, U, h, hu, d', hd', hK⟩ := ldA_ex h hrl
     refine ⟨u, U, h, hu, fun K' hK' => ?_⟩
     simp only [pOp, hl, h1, h2, h3, partOf, hd']
     have := hK (fun _ => some (.old l.toList)) 0 [] ⟨[], by rw [List.append_nil]; exact rowOld _⟩ K' hK'
     rw [hd'] at this
     simpa using this
    ·exact absurd h (by decide)
   ·exact absurd h (by decide)
  ·exact absurd h (by decide)
 ·split at h
  ·rename_i h1 h2 h3
   split at h
   ·rename_i szs h4
    split at h
    ·rename_i h5
     obtain ⟨psA, h, hp⟩ := partsA_ex hr h
     obtain ⟨z', hz', hzz⟩ := zcA_ok (φ := φ) h3
     rw [h2] at hz'
     cases hz'
     obtain ⟨cs, l, h, hl, hs⟩ := segsA_ex hp h hzz
     rw [fL_eq] at h
     refine ⟨_, .agg l.toArray, h, by simp only [RV]; exact ⟨_, rfl, by simpa using hl⟩, fun K' hK => ?_⟩
     simp only [pOp, h1, h2, h4, h5]
     exact hs _ hK
    ·exact absurd h (by decide)
   ·exact absurd h (by decide)
  ·rename_i h1 h2 h3
   split at h
   ·rename_i ie h4
    split at h
    ·rename_i h5
     obtain ⟨psA, h, hp⟩ := partsA_ex hr h
     obtain ⟨z', hz', hzz⟩ := zcA_ok (φ := φ) h3
     rw [h2] at hz'
     cases hz'
     obtain ⟨cs, l, h, hl, hs⟩ := segsA_ex hp h hzz
     rw [fL_eq] at h
     refine ⟨_, .agg l.toArray, h, by simp only [RV]; exact ⟨_, rfl, by simpa using hl⟩, fun K' hK => ?_⟩
     simp only [pOp, h1, h2, h4, h5]
     exact hs _ hK
    ·exact absurd h (by decide)
   ·exact absurd h (by decide)
  ·exact absurd h (by decide)
 ·obtain ⟨v, h, hv⟩ := evA_ex hr h
  obtain ⟨vs, l, h, hl, hrl⟩ := asT_ex h hv
  unfold getL at h
  split at h
  ·rename_i u hu
   rw [nth_eq] at hu
   obtain ⟨w, hw, hrw⟩ := hrl.get hu
   exact ⟨u, w, h, hrw, fun K' hK => by simp only [pOp, hl, hw]; exact hK⟩
  ·exact absurd h (by decide)
 ·split at h
  ·obtain ⟨a, h, ha⟩ := argsA_ex hr h
   obtain ⟨b, h, hb⟩ := argsA_ex hr h
   split at h
   ·rename_i a' b' h1 h2
    refine ⟨_, _, h, ?_, fun K' hK => hK⟩
    simp only [RV, RS]
    exact ⟨_, _, rfl, by simpa using scsA_ok h1 ha, by simpa using scsA_ok h2 hb⟩
   ·exact absurd h (by decide)
  ·exact absurd h (by decide)
 ·split at h
  ·rename_i h1
   split at h
   ·rename_i i h2
    obtain ⟨v, h, hv⟩ := evA_ex hr h
    obtain ⟨p, n, c, z, a, c', h, ha, hc, hnc, hs, _⟩ := asSl_ex h hv
    obtain ⟨hz, h⟩ := okK_ex h
    obtain ⟨l, h, hl⟩ := optA_ex hr h
    obtain ⟨u, h, hu⟩ := optA_ex hr h
    have hs' : RSl φ p n i.size c' a := by
     cases p with
     | nil => exact hs
     | «at» x o =>
      have : z = i.size := by simpa [isNilP] using hz
      rwa [← this]
     | edge x o =>
      have : z = i.size := by simpa [isNilP] using hz
      rwa [← this]
    obtain ⟨p1, n1, c1, z1, W, h, hw, hK⟩ := slcA_ex hc hnc hs' h
    refine ⟨_, W, h, hw, fun K' hK' => ?_⟩
    simp only [pOp, h1, h2, ha, pSliced]
    exact hl _ (hu _ (hK _ hK'))
   ·exact absurd h (by decide)
  ·rename_i n e h1
   split at h
   ·rename_i i h2
    obtain ⟨v, h, hv⟩ := evA_ex hr h
    obtain ⟨p, a, h, ha, hp⟩ := asP_ex h hv
    obtain ⟨x, o, r, rfl, h, hx, rfl⟩ := nilK_ex h hp
    obtain ⟨cs, hcs, h⟩ := rowK_get h
    ·skip
     obtain ⟨hle, h⟩ := okK_ex h
     have hle : o + n * i.size ≤ ln cs := by simpa using hle
     rw [ln_eq] at hle
     have hsz := hH _ _ _ hcs hx
     obtain ⟨l, h, hl⟩ := optA_ex hr h
     obtain ⟨u, h, hu⟩ := optA_ex hr h
     obtain ⟨p1, n1, c1, z1, W, h, hw, hK⟩ := slcA_ex (φ := φ) (p := .at x o) (n := n) (z := i.size) (c := .lit n) (c' := n) (a := some ⟨r.b, r.pre.length + o, none⟩) rfl (Nat.le_refl _) ⟨r, hx, rfl, by omega⟩ h
     refine ⟨_, W, h, hw, fun K' hK' => ?_⟩
     simp only [pOp, h1, h2, ha, nilCk, pSliced]
     exact hl _ (hu _ (hK _ hK'))
   ·exact absurd h (by decide)
  ·rename_i h1
   obtain ⟨v, h, hv⟩ := evA_ex hr h
   obtain ⟨s, b, h, hb, hs⟩ := asStr_ex h hv
   obtain ⟨l, h, hl⟩ := optA_ex hr h
   obtain ⟨u, h, hu⟩ := optA_ex hr h
   obtain ⟨hle, h⟩ := okK_ex h
   simp only [Bool.and_eq_true] at hle
   have h3 : l ≤ u := by simpa using hle.1
   have h4 : u ≤ ln s := by simpa using hle.2
   have hsz : ln s = b.size := by rw [ln_eq, ← hs, List.length_map]; simp
   rw [fN_eq, fL_eq, tk_eq, dr_eq] at h
   refine ⟨_, .string (b.extract l u), h, ?_, fun K' hK => ?_⟩
   ·simp only [RV, RS]
    refine ⟨_, rfl, ?_⟩
    rw [← hs, ByteArray.data_extract, Array.toList_extract, List.extract_eq_take_drop, List.map_take, List.map_drop]
   ·simp only [pOp, h1, hb]
    rw [hsz] at hu
    exact hl _ (hu _ ⟨by omega, by omega, by omega, by simpa using hK⟩)
  ·exact absurd h (by decide)
 ·split at h
  ·rename_i hcal
   split at h
   ·rename_i t x h1 h2
    obtain ⟨v, h, hv⟩ := evA_ex hr h
    split at h
    ·rename_i hu
     obtain ⟨s, b, h, hb, hs⟩ := asStr_ex h hv
     rw [fN_eq] at h
     have hsz : ln s = b.size := by rw [ln_eq, ← hs, List.length_map]; simp
     refine ⟨_, _, h, RV_int _ _, fun K' hK => ?_⟩
     rw [hsz] at hK
     simp only [pOp, hcal, h1, h2, List.map_cons, List.map_nil, hu, hb]
     exact hK
    ·rename_i hu
     obtain ⟨p, n, c, z, a, c', h, ha, _⟩ := asSl_ex h hv
     exact ⟨_, _, h, RV_int _ _, fun K' hK => by simp only [pOp, hcal, h1, h2, List.map_cons, List.map_nil, hu, ha]; exact hK⟩
    ·rename_i hu
     exact ⟨_, _, h, RV_int _ _, fun K' hK => by simp only [pOp, hcal, h1, h2, List.map_cons, List.map_nil, hu]; exact hK⟩
    ·exact absurd h (by decide)
   ·exact absurd h (by decide)
  ·rename_i hcal
   obtain ⟨vs, h, hvs⟩ := argsA_ex hr h
   split at h
   ·rename_i x y
    simp only [RVL] at hvs
    obtain ⟨X, L, hL, hX, Y, L', rfl, hY, rfl⟩ := hvs
    obtain ⟨k, a, h, rfl⟩ := asI_ex h hX
    obtain ⟨k', b, h, rfl⟩ := asI_ex h hY
    rw [fI_eq, mnA_eq] at h
    exact ⟨_, _, h, RV_int _ _, fun K' hK => by simp only [pOp, hcal, hL]; exact hK⟩
   ·rename_i x y z u
    simp only [RVL] at hvs
    obtain ⟨X, L, hL, hX, Y, L', rfl, hY, Z, L'', rfl, hZ, U, L''', rfl, hU, rfl⟩ := hvs
    obtain ⟨k, a, h, rfl⟩ := asI_ex h hX
    obtain ⟨k', b, h, rfl⟩ := asI_ex h hY
    obtain ⟨k'', c, h, rfl⟩ := asI_ex h hZ
    obtain ⟨k''', d, h, rfl⟩ := asI_ex h hU
    rw [fI_eq, mnA_eq, mnA_eq, mnA_eq] at h
    exact ⟨_, _, h, RV_int _ _, fun K' hK => by simp only [pOp, hcal, hL]; exact hK⟩
   ·exact absurd h (by decide)
  ·rename_i hcal
   obtain ⟨vs, h, hvs⟩ := argsA_ex hr h
   split at h
   ·rename_i x y
    simp only [RVL] at hvs
    obtain ⟨X, L, hL, hX, Y, L', rfl, hY, rfl⟩ := hvs
    obtain ⟨k, a, h, rfl⟩ := asI_ex h hX
    obtain ⟨k', b, h, rfl⟩ := asI_ex h hY
    rw [fI_eq, mxA_eq] at h
    exact ⟨_, _, h, RV_int _ _, fun K' hK => by simp only [pOp, hcal, hL]; exact hK⟩
   ·rename_i x y z u
    simp only [RVL] at hvs
    obtain ⟨X, L, hL, hX, Y, L', rfl, hY, Z, L'', rfl, hZ, U, L''', rfl, hU, rfl⟩ := hvs
    obtain ⟨k, a, h, rfl⟩ := asI_ex h hX
    obtain ⟨k', b, h, rfl⟩ := asI_ex h hY
    obtain ⟨k'', c, h, rfl⟩ := asI_ex h hZ
    obtain ⟨k''', d, h, rfl⟩ := asI_ex h hU
    rw [fI_eq, mxA_eq, mxA_eq, mxA_eq] at h
    exact ⟨_, _, h, RV_int _ _, fun K' hK => by simp only [pOp, hcal, hL]; exact hK⟩
   ·exact absurd h (by decide)
  ·exact absurd h (by decide)
 ·exact absurd h (by decide)
end
end Go.Vw.Ev
