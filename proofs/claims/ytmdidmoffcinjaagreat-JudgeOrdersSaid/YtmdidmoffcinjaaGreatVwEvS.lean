/- The evaluator's operations without effect, all of them. -/
import Derived.Test.YtmdidmoffcinjaaGreatVwEvQ
namespace Go.Vw.Ev
open Go Go.Vw
def RPL (φ : Phi) : List (Nat × AV) → List (Nat × Value) → Prop
 | [], l => l = []
 | x :: xs, l => ∃ v vs, l = (x.1, v) :: vs ∧ RV φ x.2 v ∧ RPL φ xs vs
section
variable {φ : Phi} {P : Program}
theorem partsA_ex {ρA : AEnv} {ρ : Env} (hr : EnvR φ ρA ρ) : ∀ {ps : List (Nat × Operand)} {K : List (Nat × AV) → Bool}, partsA ρA ps K = true → ∃ vs, K vs = true ∧ RPL φ vs (parts ρ ps)
 | [], K, h => ⟨[], h, by simp [RPL, parts]⟩
 | (i, x) :: r, K, h => by
  simp only [partsA] at h
  obtain ⟨v, h, hv⟩ := evA_ex hr h
  obtain ⟨vs, h, hvs⟩ := partsA_ex hr h
  exact ⟨_, h, by simp only [RPL, parts, List.map_cons]; exact ⟨_, _, rfl, hv, hvs⟩⟩
theorem argsA_ex {ρA : AEnv} {ρ : Env} (hr : EnvR φ ρA ρ) : ∀ {ps : List Operand} {K : List AV → Bool}, argsA ρA ps K = true → ∃ vs, K vs = true ∧ RVL φ vs (ps.map (evalO ρ))
 | [], K, h => ⟨[], h, by simp [RVL]⟩
 | x :: r, K, h => by
  simp only [argsA] at h
  obtain ⟨v, h, hv⟩ := evA_ex hr h
  obtain ⟨vs, h, hvs⟩ := argsA_ex hr h
  exact ⟨_, h, by simp only [RVL, List.map_cons]; exact ⟨_, _, rfl, hv, hvs⟩⟩
theorem lookA_some {i : Nat} : ∀ {psA : List (Nat × AV)} {ps : List (Nat × Value)} {v : AV}, RPL φ psA ps → lookA i psA = some v → ∃ V, lookP i ps = some V ∧ RV φ v V
 | [], _, _, _, h => by simp [lookA] at h
 | (j, w) :: r, ps, v, hr, h => by
  simp only [RPL] at hr
  obtain ⟨V, vs, rfl, h2, h3⟩ := hr
  simp only [lookA] at h
  simp only [lookP]
  split at h
  ·rename_i hb
   simp only [Option.some.injEq] at h
   subst h
   exact ⟨V, by simp only [hb], h2⟩
  ·rename_i hb
   simp only [hb]
   exact lookA_some h3 h
theorem lookA_none {i : Nat} : ∀ {psA : List (Nat × AV)} {ps : List (Nat × Value)}, RPL φ psA ps → lookA i psA = none → lookP i ps = none
 | [], _, hr, _ => by simp only [RPL] at hr; subst hr; rfl
 | (j, w) :: r, ps, hr, h => by
  simp only [RPL] at hr
  obtain ⟨V, vs, rfl, h2, h3⟩ := hr
  simp only [lookA] at h
  simp only [lookP]
  split at h
  ·simp at h
  ·rename_i hb
   simp only [hb]
   exact lookA_none h3 h
theorem segsA_ex {psA : List (Nat × AV)} {ps : List (Nat × Value)} (hp : RPL φ psA ps) : ∀ {szs : List Nat} {i : Nat} {za : List AS} {z : List Value} {K : List AS → Bool},
  segsA psA i szs za K = true → RSL φ za z → ∃ cs l, K cs = true ∧ RSL φ cs l ∧ ∀ K' : List Value → Prop, K' l → segs ps i szs z K'
 | [], i, za, z, K, h, _ => ⟨[], [], h, by simp [RSL], fun K' hK => hK⟩
 | s :: r, i, za, z, K, h, hz => by
  simp only [segsA, dr_eq, tk_eq] at h
  split at h
  ·rename_i hl
   obtain ⟨cs, l, hk, hcs, hs⟩ := segsA_ex hp h (hz.drop s)
   rw [ap_eq] at hk
   refine ⟨_, z.take s ++ l, hk, (hz.take s).append hcs, fun K' hK => ?_⟩
   simp only [segs, lookA_none hp hl]
   exact hs _ hK
  ·rename_i a hl
   split at h
   ·rename_i hb
    obtain ⟨V, hV, hr⟩ := lookA_some hp hl
    simp only [RV] at hr
    obtain ⟨arr, rfl, hr⟩ := hr
    obtain ⟨cs, l, hk, hcs, hs⟩ := segsA_ex hp h (hz.drop s)
    rw [ap_eq] at hk
    refine ⟨_, arr.toList ++ l, hk, hr.append hcs, fun K' hK => ?_⟩
    simp only [segs, hV]
    refine ⟨?_, hs _ hK⟩
    have := Nat.eq_of_beq_eq_true hb
    rw [ln_eq] at this
    rw [hr.length, this]
   ·exact absurd h (by decide)
  ·rename_i x hl
   split at h
   ·rename_i hb
    obtain ⟨V, hV, hr⟩ := lookA_some hp hl
    simp only [RV] at hr
    have hone := hr.oneCell
    obtain ⟨cs, l, hk, hcs, hs⟩ := segsA_ex hp h (hz.drop s)
    refine ⟨_, V :: l, hk, by simp only [RSL]; exact ⟨V, l, rfl, hr, hcs⟩, fun K' hK => ?_⟩
    simp only [segs, hV]
    cases V <;> first | (simp only [hb]; exact hs _ hK) | (simp [Value.oneCell'] at hone)
   ·exact absurd h (by decide)
  ·exact absurd h (by decide)
theorem optA_ex {ρA : AEnv} {ρ : Env} (hr : EnvR φ ρA ρ) {v : Option Operand} {d : Nat} {K : Nat → Bool} (h : optA ρA v d K = true) :
  ∃ n : Nat, K n = true ∧ ∀ K' : Int → Prop, K' (n : Int) → optInt (v.map (evalO ρ)) (d : Int) K' := by
 unfold optA at h
 split at h
 ·exact ⟨d, h, fun K' hK => hK⟩
 ·rename_i x
  obtain ⟨w, h, hw⟩ := evA_ex hr h
  obtain ⟨k, n, h, hv⟩ := asI_ex h hw
  obtain ⟨m, rfl, h⟩ := natK_ex h
  refine ⟨m, h, fun K' hK => ?_⟩
  simp only [Option.map_some, hv, optInt]
  exact hK
theorem slcA_ex {p : AP} {n z l h : Nat} {c : ACap} {c' : Nat} {a : Option Addr} (hc : RC φ c c') (hn : n ≤ c') (hs : RSl φ p n z c' a) {K : AP → Nat → ACap → Nat → Bool} (hk : slcA p n c z l h K = true) :
  ∃ p1 n1 c1 z1 V, K p1 n1 c1 z1 = true ∧ RV φ (.s (.slice p1 n1 c1 z1)) V ∧ ∀ K' : Value → Prop, K' V → 0 ≤ (l : Int) ∧ (l : Int) ≤ (h : Int) ∧ (h : Int) ≤ (c' : Int) ∧ K' (.slice (slA a c' (l : Int).toNat z) ((h : Int).toNat - (l : Int).toNat) (c' - (l : Int).toNat)) := by
 rw [slcA_eq0] at hk
 unfold slcA0 at hk
 split at hk
 ·exact absurd hk (by decide)
 ·rename_i hb
  simp only [Bool.and_eq_true] at hb
  have h1 : l ≤ h := by simpa using hb.1
  have h2 : h ≤ n := by simpa using hb.2
  have fin : ∀ K' : Value → Prop, K' (.slice (slA a c' l z) (h - l) (c' - l)) → 0 ≤ (l : Int) ∧ (l : Int) ≤ (h : Int) ∧ (h : Int) ≤ (c' : Int) ∧ K' (.slice (slA a c' (l : Int).toNat z) ((h : Int).toNat - (l : Int).toNat) (c' - (l : Int).toNat)) :=
   fun K' hK => ⟨by omega, by omega, by omega, by simpa using hK⟩
  split at hk
  ·obtain ⟨rfl, rfl, rfl⟩ := hs
   have hl0 : l = 0 := by omega
   have hh0 : h = 0 := by omega
   subst hl0; subst hh0
   refine ⟨_, _, _, _, _, hk, ?_, fin⟩
   simp only [RV, RS]
   exact ⟨_, _, rfl, rfl, by simp, by simp [slA], rfl, by simp⟩
  ·exact absurd hk (by decide)
  ·rename_i x o
   obtain ⟨r, hx, ha, hsz⟩ := hs
   rw [fN_eq] at hk
   have shift : c' ≠ l → slA a c' l z = some ⟨r.b, r.pre.length + (o + l * z), none⟩ := by
    intro hne
    have := Nat.add_assoc r.pre.length o (l * z)
    simp [slA, hne, ha, addr_add, this]
   have hmul : l ≤ c' → l * z + (c' - l) * z = c' * z := by
    intro hle
    rw [← Nat.add_mul]
    congr 1
    omega
   split at hk
   ·rename_i cc
    have hc : c' = cc := hc
    subst hc
    split at hk
    ·rename_i hb
     have hcl := Nat.eq_of_beq_eq_true hb
     refine ⟨_, _, _, _, _, hk, ?_, fin⟩
     simp only [RV, RS]
     refine ⟨a, 0, ?_, rfl, by simp, r, hx, ha, by omega⟩
     have : h - l = 0 := by omega
     simp [slA, hcl]
     omega
    ·rename_i hb
     have hne : c' ≠ l := fun e => by rw [e, Nat.beq_refl] at hb; exact Bool.noConfusion hb
     rw [fN_eq, fN_eq] at hk
     refine ⟨_, _, _, _, _, hk, ?_, fin⟩
     simp only [RV, RS]
     have := hmul (by omega)
     exact ⟨_, c' - l, rfl, rfl, by omega, r, hx, shift hne, by omega⟩
   ·rename_i b k
    obtain ⟨r', hb', hc'⟩ := hc
    rw [fN_eq, fN_eq] at hk
    have := hmul (by omega)
    split at hk
    ·rename_i hln
     have hln := Nat.eq_of_beq_eq_true hln
     split at hk
     ·rename_i hl0
      have hl0 := Nat.eq_of_beq_eq_true hl0
      refine ⟨_, _, _, _, _, hk, ?_, fin⟩
      simp only [RV, RS]
      refine ⟨_, _, rfl, ⟨r', hb', by omega⟩, by omega, r, hx, ?_, by rw [hl0]; simpa using hsz⟩
      by_cases hc0 : c' = l
      ·simp [slA, hc0, ha]
      ·rw [shift hc0, hl0]; simp
     ·rename_i hl0
      refine ⟨_, _, _, _, _, hk, ?_, fin⟩
      simp only [RV, RS]
      have hm : h - l = 0 := by omega
      rw [hm]
      by_cases hc0 : c' = l
      ·exact ⟨_, _, rfl, ⟨r', hb', by omega⟩, by omega, rfl, r, r.pre.length + o, hx, by simp [slA, hc0, ha], by omega, fun e => absurd (by omega) e⟩
      ·exact ⟨_, _, rfl, ⟨r', hb', by omega⟩, by omega, rfl, r, r.pre.length + (o + l * z), hx, shift hc0, by omega, fun _ => ⟨rfl, by omega⟩⟩
    ·rename_i hln
     have hne : l ≠ n := fun e => by rw [e, Nat.beq_refl] at hln; exact Bool.noConfusion hln
     refine ⟨_, _, _, _, _, hk, ?_, fin⟩
     simp only [RV, RS]
     exact ⟨_, _, rfl, ⟨r', hb', by omega⟩, by omega, r, hx, shift (by omega), by omega⟩
theorem zcA_ok {t : TypeId} {za : List AS} (h : zcA P t = some za) : ∃ z, zcells P t = some z ∧ RSL φ za z := by
 unfold zcA at h
 split at h
 ·rename_i z hz
  exact ⟨z, hz, ofL_ok h⟩
 ·simp at h
theorem mnA_eq (x y : Int) : mnA x y = mn x y := by
 unfold mnA mn
 rw [iLe_dec]
 by_cases h : y < x
 ·have : ¬ x ≤ y := by omega
  simp [h, this]
 ·have : x ≤ y := by omega
  simp [h, this]
theorem mxA_eq (x y : Int) : mxA x y = mx x y := by
 unfold mxA mx
 rw [iLe_dec]
 by_cases h : y > x
 ·have : ¬ y ≤ x := by omega
  simp [h, this]
 ·have : y ≤ x := by omega
  simp [h, this]
end
end Go.Vw.Ev
