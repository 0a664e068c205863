/- The evaluator is sound: regions, code, functions. -/
import Derived.Test.YtmdidmoffcinjaaGreatVwEvZ
namespace Go.Vw.Ev
open Go Go.Vw Go.RowKit
section
variable {φ : Phi} {P : Program} {w0 : World}
theorem splitV_of {s : Bool} {v : Value} {K : Value → Prop} (h : K v) : splitV s v K := by
 unfold splitV
 split
 ·exact h
 ·split
  ·rename_i b
   cases b <;> exact h
  ·exact h
theorem splitA_ex {s : Bool} {v : AV} {K : AV → Bool} (h : splitA s v K = true) : K v = true := by
 unfold splitA at h
 split at h
 ·exact h
 ·split at h
  ·rename_i b
   cases b <;> exact h
  ·exact h
theorem putA_ex {ρA : AEnv} {ρ : Env} (hr : EnvR φ ρA ρ) {n : Nat} {d : Option Tmp} {v : AV} {V : Value} (hv : RV φ v V) {K : AEnv → Bool} (h : putA n ρA d v K = true) :
  ∃ ρA' ρ', EnvR φ ρA' ρ' ∧ K ρA' = true ∧ ∀ K' : Env → Prop, K' ρ' → put n ρ d V K' := by
 unfold putA at h
 split at h
 ·exact ⟨ρA, ρ, hr, h, fun K' hK => hK⟩
 ·rename_i d
  split at h
  ·rename_i hb
   exact ⟨_, _, hr.put hv d, h, fun K' hK => by simp only [put, hb]; exact hK⟩
  ·exact absurd h (by decide)
theorem guardA_ex {ρA : AEnv} {ρ : Env} (hr : EnvR φ ρA ρ) {all : List Oper} {o : Oper} {skip go : Bool} (h : guardA all ρA o skip go = true) :
  (skip = true ∧ ∀ S G : Prop, S → guarded all ρ o S G) ∨ (go = true ∧ ∀ S G : Prop, G → guarded all ρ o S G) := by
 unfold guardA at h
 split at h
 ·rename_i hg
  exact .inr ⟨h, fun S G hG => by simp only [guarded, hg]; exact hG⟩
 ·rename_i j want hg
  split at h
  ·rename_i hd
   exact .inl ⟨h, fun S G hS => by simp only [guarded, hg, hd]; exact hS⟩
  ·rename_i t hd
   have hrt := hr t
   split at h
   ·rename_i b hb
    rw [hb] at hrt
    simp only [RV, RS] at hrt
    cases b <;> cases want <;> first
     | exact .inr ⟨h, fun S G hG => by simp only [guarded, hg, hd, hrt]; exact hG⟩
     | exact .inl ⟨h, fun S G hS => by simp only [guarded, hg, hd, hrt]; exact hS⟩
   ·rename_i hb
    rw [hb] at hrt
    simp only [RV] at hrt
    exact .inl ⟨h, fun S G hS => by simp only [guarded, hg, hd, hrt, undef]; exact hS⟩
   ·exact absurd h (by decide)
theorem stepA_ex {cl : Cl} (hcl : ClOk P w0 cl) {n : Nat} {all : List Oper} {S Sx : Option Kept} {st sx : Option Hp} {o : Oper} {H : AH} {hF h : Hp} (hh : RH φ H hF h) (ki : KIo φ S st) (kx : KIo φ Sx sx)
  {ρA : AEnv} {ρ : Env} (hr : EnvR φ ρA ρ) {K : AEnv → AH → Bool} (he : stepA P cl n all S Sx o K ρA H = true) (K' : Env → Hp → Prop)
  (hK' : ∀ φ' ρA' ρ' H' h', PExt φ φ' → EnvR φ' ρA' ρ' → RH φ' H' hF h' → K ρA' H' = true → K' ρ' h') : vStep P w0 n all st sx o K' ρ h := by
 unfold stepA at he
 unfold vStep
 rcases guardA_ex hr he with ⟨he, hg⟩ | ⟨he, hg⟩
 ·refine hg _ _ ?_
  obtain ⟨ρA', ρ', hr', hk, hp⟩ := putA_ex hr (V := undef) (by simp only [RV]) he
  exact hp _ (hK' _ _ _ _ _ (PExt.refl φ) hr' hh hk)
 ·refine hg _ _ ?_
  split at he
  ·rename_i hc
   rw [hc]
   obtain ⟨v, V, he, hv, hp⟩ := pEv_ex hr hh.sz he
   obtain ⟨ρA', ρ', hr', hk, hp'⟩ := putA_ex hr hv (splitA_ex he)
   exact hp _ (splitV_of (hp' _ (hK' _ _ _ _ _ (PExt.refl φ) hr' hh hk)))
  ·rename_i hc
   rw [hc]
   obtain ⟨v, V, he, hv, hp⟩ := rEv_ex hh ki hr he
   obtain ⟨ρA', ρ', hr', hk, hp'⟩ := putA_ex hr hv (splitA_ex he)
   exact hp _ (splitV_of (hp' _ (hK' _ _ _ _ _ (PExt.refl φ) hr' hh hk)))
  ·rename_i hc
   rw [hc]
   refine xEv_ex hcl hh kx hr he _ ?_
   intro φ' v V H' h' hx hv hh' hk
   obtain ⟨ρA', ρ', hr', hk, hp'⟩ := putA_ex (hr.mono hx) hv (splitA_ex hk)
   exact splitV_of (hp' _ (hK' _ _ _ _ _ hx hr' hh' hk))
theorem opsA_ex {cl : Cl} (hcl : ClOk P w0 cl) {n : Nat} {all : List Oper} {hF : Hp} {K : AEnv → AH → Bool} : ∀ (l : List Oper) {φ : Phi} {H : AH} {h : Hp} (_ : RH φ H hF h)
  {ρA : AEnv} {ρ : Env} (_ : EnvR φ ρA ρ) (_ : opsA P cl n all K l ρA H = true) (K' : Env → Hp → Prop)
  (_ : ∀ φ' ρA' ρ' H' h', PExt φ φ' → EnvR φ' ρA' ρ' → RH φ' H' hF h' → K ρA' H' = true → K' ρ' h'), vOps P w0 n all K' l ρ h
 | [], _, _, _, hh, _, _, hr, he, _, hK' => hK' _ _ _ _ _ (PExt.refl _) hr hh he
 | o :: l, _, _, _, hh, _, _, hr, he, K', hK' => by
  refine stepA_ex hcl hh (S := none) (Sx := none) (st := none) (sx := none) trivial trivial hr he _ ?_
  intro φ' ρA' ρ' H' h' hx hr' hh' hk
  exact opsA_ex hcl l hh' hr' hk K' fun φ'' _ _ _ _ hx' => hK' _ _ _ _ _ (hx.trans hx')
theorem drawA_ex {cl : Cl} (hcl : ClOk P w0 cl) {n : Nat} {all : List Oper} {kp st : Nat} {S : Kept} {h0 hF : Hp} {K : AEnv → AH → Bool} : ∀ (l : Ordr) {φ : Phi} {H : AH} {h : Hp} (_ : RH φ H hF h)
  (_ : (kp = 0 ∧ st = 0) ∨ KI φ S h0) {ρA : AEnv} {ρ : Env} (_ : EnvR φ ρA ρ) (_ : drawA P cl n all kp st S K l ρA H = true) (K' : Env → Hp → Prop)
  (_ : ∀ φ' ρA' ρ' H' h', PExt φ φ' → EnvR φ' ρA' ρ' → RH φ' H' hF h' → K ρA' H' = true → K' ρ' h'), vDraw P w0 n all kp st h0 K' l ρ h
 | .nil, _, _, _, hh, _, _, _, hr, he, _, hK' => hK' _ _ _ _ _ (PExt.refl _) hr hh he
 | .both x y, φ, _, _, hh, ki, _, _, hr, he, K', hK' => by
  unfold drawA at he
  unfold vDraw
  obtain ⟨h1, h2⟩ := okK_ex he
  exact ⟨drawA_ex hcl x hh ki hr h1 K' hK', drawA_ex hcl y hh ki hr h2 K' hK'⟩
 | .op i l, φ, _, _, hh, ki, _, _, hr, he, K', hK' => by
  unfold drawA at he
  unfold vDraw
  split at he
  ·exact absurd he (by decide)
  ·rename_i o ho
   simp only [ho]
   refine stepA_ex hcl hh ?_ ?_ hr he _ ?_
   ·cases hb : st.testBit i with
    | false => trivial
    | true =>
     rcases ki with ⟨_, rfl⟩ | ki
     ·simp at hb
     ·exact ki
   ·cases hb : kp.testBit i with
    | false => trivial
    | true =>
     rcases ki with ⟨rfl, _⟩ | ki
     ·simp at hb
     ·exact ki
   ·intro φ' ρA' ρ' H' h' hx hr' hh' hk
    exact drawA_ex hcl l hh' (ki.imp id (KI.mono hx)) hr' hk K' fun φ'' _ _ _ _ hx' => hK' _ _ _ _ _ (hx.trans hx')
theorem blkA_ex {ρA : AEnv} {ρ : Env} (hr : EnvR φ ρA ρ) {op : Op} {h : Hp} {K : Pn → Bool} (he : blkA ρA op K = true) :
  ∃ a r, K a = true ∧ φ a = some r ∧ ∀ (hk : Hp) (K' : Value → Prop), hk r.b = h r.b → rOp P none ρ op h K' → rOp P (some hk) ρ op h K' := by
 unfold blkA at he
 split at he
 ·obtain ⟨v, he, hv⟩ := evA_ex hr he
  obtain ⟨p, a, he, ha, hp⟩ := asP_ex he hv
  obtain ⟨x, o, r, rfl, he, hx, rfl⟩ := nilK_ex he hp
  refine ⟨x, r, he, hx, fun hk K' hs h0 => ?_⟩
  unfold rOp at *
  dsimp only at *
  split at h0
  ·rw [ha] at *
   exact ⟨hs, h0⟩
  ·exact h0.elim
 ·obtain ⟨v, he, hv⟩ := evA_ex hr he
  obtain ⟨a, r, he, hx, hm⟩ := asMp_ex he hv
  refine ⟨a, r, he, hx, fun hk K' hs h0 => ?_⟩
  unfold rOp at *
  dsimp only at *
  rw [hm] at *
  split at h0
  ·split at h0
   ·rename_i hm2 _
    simp only [Value.map.injEq] at hm2
    subst hm2
    obtain ⟨b, es, h1, h2, h3⟩ := h0
    cases h1
    exact ⟨_, es, rfl, h2, hs, h3⟩
   ·rename_i hm2 _
    simp only [Value.map.injEq] at hm2
    subst hm2
    obtain ⟨hp, b, es, key, h1, h2, h4, h3⟩ := h0
    cases h1
    exact ⟨hp, _, es, key, rfl, h2, h4, hs, h3⟩
   ·exact h0.elim
  ·exact h0.elim
 ·rename_i c
  split at he
  ·rename_i x h1
   obtain ⟨v, he, hv⟩ := evA_ex hr he
   obtain ⟨a, r, he, hx, hm⟩ := asMp_ex he hv
   refine ⟨a, r, he, hx, fun hk K' hs h0 => ?_⟩
   unfold rOp at *
   dsimp only at *
   rw [h1] at *
   simp only [List.map_cons, List.map_nil, hm] at *
   split at h0
   ·rename_i _ _ _ _ _ h3 h4 h5
    simp only [List.cons.injEq, and_true, Value.map.injEq] at h5
    subst h5
    split at h0
    ·obtain ⟨b, es, h6, h7, h8⟩ := h0
     cases h6
     exact ⟨_, es, rfl, h7, hs, h8⟩
    ·exact h0.elim
   ·exact h0.elim
  ·exact absurd he (by decide)
 ·exact absurd he (by decide)
theorem selA_ex {c : SelectCase} {H : AH} {hF h : Hp} (hh : RH φ H hF h) {ρA : AEnv} {ρ : Env} (hr : EnvR φ ρA ρ) {K : AV → AH → Bool} (he : selA P c ρA H K = true) (K' : Value → Hp → Prop)
  (hK' : ∀ φ' v V H' h', PExt φ φ' → RV φ' v V → RH φ' H' hF h' → K v H' = true → K' V h') : selV P c ρ h K' := by
 have tv : ∀ {n : Int} {b : Bool}, RV φ (.tup [.s (.int .i64 n), .s (.bool b)]) (.tuple #[goInt n, .bool b]) := by
  intro n b
  simp only [RV, RVL, RS, goInt]
  exact ⟨_, rfl, _, _, rfl, rfl, _, _, rfl, rfl, rfl⟩
 have tv3 : ∀ {n : Int} {b : Bool} {x : List AS} {v : Array Value}, RSL φ x v.toList → RV φ (.tup [.s (.int .i64 n), .s (.bool b), .agg x]) (.tuple #[goInt n, .bool b, .agg v]) := by
  intro n b x v hx
  simp only [RV, RVL, RS, goInt]
  exact ⟨_, rfl, _, _, rfl, rfl, _, _, rfl, rfl, _, _, rfl, ⟨v, rfl, hx⟩, rfl⟩
 unfold selA at he
 split at he
 ·rename_i l hz
  split at he
  ·rename_i z hzl
   obtain ⟨v, he, hv⟩ := evA_ex hr he
   obtain ⟨a, r, he, har, hc⟩ := asC_ex he hv
   unfold selV
   simp only [hz, hc]
   split at he
   ·rename_i x hx
    obtain ⟨u, he, hu⟩ := evA_ex hr he
    obtain ⟨cs, ul, he, huv, hul⟩ := asG_ex he hu
    unfold sndK at he
    obtain ⟨cap, xs, l', s, rr, he, hg, hb, hl⟩ := chanK_ex hh har he
    refine ⟨cap, l'.toArray, s, rr, hb, ?_⟩
    simp only [hx, huv]
    have hlen : ln xs = l'.toArray.size := by rw [ln_eq, ← hl.length]; simp
    rw [hlen] at he
    refine ⟨fun hroom => ?_, fun hfull => ?_⟩
    ·rw [show Nat.blt l'.toArray.size cap = true from Nat.blt_eq ▸ hroom] at he
     have he : fL (ap xs [cs]) _ = true := he
     rw [fL_eq, ap_eq, wrK_eq] at he
     refine hK' φ _ _ _ _ (PExt.refl φ) tv (hh.wr har (by rw [hg]; simp) (fun c hc => by rw [hb] at hc; cases hc) ?_) he
     exact ⟨l' ++ [.agg ul], s + 1, rr, by simp, hl.snoc hul⟩
    ·rw [show Nat.blt l'.toArray.size cap = false from by cases hx : Nat.blt l'.toArray.size cap; rfl; exact absurd (Nat.blt_eq ▸ hx : l'.toArray.size < cap) (by omega)] at he
     exact hK' φ _ _ _ _ (PExt.refl φ) tv hh he
   ·rename_i hx
    unfold rcvK at he
    obtain ⟨cap, xs, l', s, rr, he, hg, hb, hl⟩ := chanK_ex hh har he
    refine ⟨cap, l'.toArray, s, rr, hb, ?_⟩
    simp only [hx]
    cases xs with
    | nil =>
     simp only [RGL] at hl
     subst hl
     refine ⟨fun hp => absurd hp (by simp), fun _ => ?_⟩
     exact hK' φ _ _ _ _ (PExt.refl φ) (tv3 (ofL_ok hzl)) hh he
    | cons x xs =>
     simp only [RGL] at hl
     obtain ⟨v, vs, rfl, h2, h3⟩ := hl
     refine ⟨fun _ => ?_, fun he => by simp at he⟩
     have he : wrK H a (some (.chan cap xs)) _ = true := he
     rw [wrK_eq] at he
     refine hK' φ _ _ _ _ (PExt.refl φ) (tv3 h2) (hh.wr har (by rw [hg]; simp) (fun c hc => by rw [hb] at hc; cases hc) ?_) he
     exact ⟨vs, s, rr + 1, by simp, h3⟩
  ·exact absurd he (by decide)
 ·exact absurd he (by decide)
theorem preA_ex {n : Nat} {all : List Oper} {st kp : Nat} {H : AH} {hF h : Hp} (hh : RH φ H hF h) {K : AEnv → Kept → Bool} {K' : Env → Hp → Prop} {rest : Ordr}
  (hrest : ∀ ρA ρ S hk, EnvR φ ρA ρ → K ρA S = true → KI φ S hk → vDraw P w0 n all kp st hk K' rest ρ h) :
  ∀ (l : List Nat) {ρA : AEnv} {ρ : Env} (_ : EnvR φ ρA ρ) {S : Kept} (_ : ∀ x ∈ S, H.t.get x.1 = some x.2) (_ : preA P n all st H K l ρA S = true),
   ∃ S', (∀ x ∈ S, x ∈ S') ∧ (∀ x ∈ S', H.t.get x.1 = some x.2) ∧ ∀ hk, KI φ S' hk → Vw.Ext hk h → vDraw P w0 n all kp st hk K' (Ordr.app l rest) ρ h
 | [], ρA, ρ, hr, S, hS, he => ⟨S, fun _ h => h, hS, fun hk ki _ => hrest ρA ρ S hk hr he ki⟩
 | i :: l, ρA, ρ, hr, S, hS, he => by
  unfold preA at he
  simp only [Ordr.app, vDraw]
  split at he
  ·exact absurd he (by decide)
  ·rename_i o ho
   simp only [ho]
   unfold vStep
   rcases guardA_ex hr he with ⟨he, hg⟩ | ⟨he, hg⟩
   ·obtain ⟨ρA', ρ', hr', hk, hp⟩ := putA_ex hr (V := undef) (by simp only [RV]) he
    obtain ⟨S', h1, h2, h3⟩ := preA_ex hh hrest l hr' hS hk
    exact ⟨S', h1, h2, fun hk ki hx => hg _ _ (hp _ (h3 hk ki hx))⟩
   ·split at he
    ·rename_i hc
     obtain ⟨v, V, he, hv, hp⟩ := pEv_ex hr hh.sz he
     obtain ⟨ρA', ρ', hr', hk, hp'⟩ := putA_ex hr hv (splitA_ex he)
     obtain ⟨S', h1, h2, h3⟩ := preA_ex hh hrest l hr' hS hk
     exact ⟨S', h1, h2, fun hk ki hx => hg _ _ (by rw [hc]; exact hp _ (splitV_of (hp' _ (h3 hk ki hx))))⟩
    ·rename_i hc
     split at he
     ·rename_i hb
      obtain ⟨a, r, he, hra, hone⟩ := blkA_ex (P := P) (h := h) hr he
      unfold getK at he
      split at he
      ·rename_i b hga
       obtain ⟨v, V, he, hv, hp⟩ := rEv_ex (S := none) (st := none) hh trivial hr he
       obtain ⟨ρA', ρ', hr', hk, hp'⟩ := putA_ex hr hv (splitA_ex he)
       have hS2 : ∀ x ∈ (a, b) :: S, H.t.get x.1 = some x.2 := by
        intro x hx
        rcases List.mem_cons.1 hx with rfl | hx
        ·exact hga
        ·exact hS x hx
       obtain ⟨S', h1, h2, h3⟩ := preA_ex hh hrest l hr' hS2 hk
       refine ⟨S', fun x hx => h1 x (List.mem_cons_of_mem _ hx), h2, fun hk ki hx => hg _ _ ?_⟩
       rw [hc]
       simp only [hb]
       obtain ⟨r', k, h4, h5, _⟩ := ki.here (a, b) (h1 _ (List.mem_cons_self ..))
       rw [hra] at h4
       cases h4
       exact hone hk _ (by rw [h5, hx _ _ h5]) (hp _ (splitV_of (hp' _ (h3 hk ki hx))))
      ·exact absurd he (by decide)
     ·rename_i hb
      obtain ⟨v, V, he, hv, hp⟩ := rEv_ex (S := none) (st := none) hh trivial hr he
      obtain ⟨ρA', ρ', hr', hk, hp'⟩ := putA_ex hr hv (splitA_ex he)
      obtain ⟨S', h1, h2, h3⟩ := preA_ex hh hrest l hr' hS hk
      exact ⟨S', h1, h2, fun hk ki hx => hg _ _ (by rw [hc]; simp only [hb]; exact hp _ (splitV_of (hp' _ (h3 hk ki hx))))⟩
    ·exact absurd he (by decide)
def conA (n : Nat) (w0 : World) (hF : Hp) (φ : Phi) (Q : Exit → AEnv → AH → Bool) (e : Exit) (a : Act) (w : World) : Prop :=
 ∃ φ' ρA ρ H h, PExt φ φ' ∧ Q e ρA H = true ∧ EnvR φ' ρA ρ ∧ RH φ' H hF h ∧ Rep n ρ a ∧ View w0 h w
theorem conA.mono {n : Nat} {hF : Hp} {φ φ' : Phi} (hx : PExt φ φ') {Q : Exit → AEnv → AH → Bool} {e : Exit} {a : Act} {w : World} (h : conA n w0 hF φ' Q e a w) : conA n w0 hF φ Q e a w := by
 obtain ⟨φ'', ρA, ρ, H, h, h1, h2⟩ := h
 exact ⟨φ'', ρA, ρ, H, h, hx.trans h1, h2⟩
theorem evC_sound (hmix : P.follows .mixedOrders = true) {cl : Cl} (hcl : ClOk P w0 cl) {ann : Nat → LoopA} {rh : Nat → RegHint} {jn : Option Nat → Option LoopA} {lf n : Nat} {hF : Hp} : ∀ (c : Code) (Q : Exit → AEnv → AH → Bool) (ρA : AEnv) (ρ : Env) (φ : Phi) (H : AH) (h : Hp) (a : Act) (w : World),
  evC P cl ann rh jn lf n c Q ρA H = true → EnvR φ ρA ρ → RH φ H hF h → Rep n ρ a → View w0 h w → wpN P c (conA n w0 hF φ Q) a w := by
 intro c
 induction c with
 | skip => exact fun Q ρA ρ φ H h a w hq hr hh hp hv => toN (wp_skip ⟨φ, ρA, ρ, H, h, PExt.refl φ, hq, hr, hh, hp, hv⟩)
 | label l => exact fun Q ρA ρ φ H h a w hq hr hh hp hv => toN (wp_label ⟨φ, ρA, ρ, H, h, PExt.refl φ, hq, hr, hh, hp, hv⟩)
 | exit id => exact fun Q ρA ρ φ H h a w hq hr hh hp hv => toN (wp_exit ⟨φ, ρA, ρ, H, h, PExt.refl φ, hq, hr, hh, hp, hv⟩)
 | ret => exact fun Q ρA ρ φ H h a w hq hr hh hp hv => toN (wp_ret ⟨φ, ρA, ρ, H, h, PExt.refl φ, hq, hr, hh, hp, hv⟩)
 | goto l => exact fun Q ρA ρ φ H h a w hq => absurd hq (by simp [evC])
 | refuse s => exact fun Q ρA ρ φ H h a w hq => absurd hq (by simp [evC])
 | rangeFunc f p x y => exact fun Q ρA ρ φ H h a w hq => absurd hq (by simp [evC])
 | region id ops draw =>
  intro Q ρA ρ φ H h a w hq hr hh hp hv
  let Q' : Exit → Env → Hp → Prop := fun e ρ' h' => ∃ φ' ρA' H', PExt φ φ' ∧ Q e ρA' H' = true ∧ EnvR φ' ρA' ρ' ∧ RH φ' H' hF h'
  have key : ∀ φ' ρA' ρ' H' h', PExt φ φ' → EnvR φ' ρA' ρ' → RH φ' H' hF h' → Q .normal ρA' H' = true → Q' .normal ρ' h' :=
   fun φ' ρA' ρ' H' h' hx hr' hh' hk => ⟨φ', ρA', H', hx, hk, hr', hh'⟩
  have hvc : vc P w0 (fun _ => { X := Unit, e := Enc.unit, I := fun _ _ => False, mu := fun _ _ => 0 }) rh n (.region id ops draw) Q' ρ h := by
   unfold evC at hq
   unfold vc
   cases draw with
   | false =>
    dsimp only at hq ⊢
    split at hq
    ·rename_i hs
     simp only [hs]
     exact opsA_ex hcl _ hh hr hq _ key
    ·rename_i c d r hs
     simp only [hs]
     refine selA_ex hh hr hq _ fun φ' v V H' h' hx hv hh' hk => ?_
     obtain ⟨ρA', ρ', hr', hk, hp⟩ := putA_ex (hr.mono hx) hv hk
     refine hp _ (opsA_ex hcl _ hh' hr' hk _ fun φ'' ρA'' ρ'' H'' h'' hx' hr'' hh'' hk' => key φ'' ρA'' ρ'' H'' h'' (hx.trans hx') hr'' hh'' hk')
   | true =>
    dsimp only at hq ⊢
    split at hq
    ·rename_i hc
     simp only [hc]
     split at hq
     ·rename_i hz
      simp only [Bool.and_eq_true] at hz
      have h1 := Nat.eq_of_beq_eq_true hz.1
      have h2 := Nat.eq_of_beq_eq_true hz.2
      simp only [h1, h2]
      exact drawA_ex hcl _ hh (.inl ⟨rfl, rfl⟩) hr hq _ key
     ·split at hq
      ·exact absurd hq (by decide)
      ·rename_i hz
       simp only [hz]
       obtain ⟨S, _, hS, hd⟩ := preA_ex (P := P) (w0 := w0) (kp := (rh id).kp) (st := (rh id).st) hh (K' := Q' .normal) (rest := Ordr.drop (rh id).np (rh id).order) (fun ρA ρ S hk hr hq ki => drawA_ex hcl _ hh (.inr ki) hr hq _ key) _ hr (S := []) (by intro x hx; cases hx) hq
       classical
       let hk : Hp := fun b => if ∃ x ∈ S, ∃ r, φ x.1 = some r ∧ r.b = b then h b else none
       have ki : KI φ S hk := by
        refine ⟨?_, ?_⟩
        ·intro x hx
         obtain ⟨r, h1, k, h2, h3⟩ := hh.blk _ _ (hS x hx)
         refine ⟨r, k, h1, ?_, h3⟩
         show (if _ then _ else _) = _
         rw [if_pos ⟨x, hx, r, h1, rfl⟩]
         exact h2
        ·intro b k hb
         have hb : (if ∃ x ∈ S, ∃ r, φ x.1 = some r ∧ r.b = b then h b else none) = some k := hb
         split at hb
         ·rename_i hx
          exact hx
         ·cases hb
       have hext : Vw.Ext hk h := by
        intro b k hb
        have hb : (if ∃ x ∈ S, ∃ r, φ x.1 = some r ∧ r.b = b then h b else none) = some k := hb
        split at hb
        ·exact hb
        ·cases hb
       refine ⟨hk, hext, ?_⟩
       have := hd hk ki hext
       rw [Ordr.app_take_drop] at this
       exact this
    ·exact absurd hq (by decide)
  refine wpN_mono (vc_sound hmix _ Q' ρ h a w hvc hp hv) ?_
  rintro e a' w' ⟨ρ', h', ⟨φ', ρA', H', hx, hk, hr', hh'⟩, hp', hv'⟩
  exact ⟨φ', ρA', ρ', H', h', hx, hk, hr', hh', hp', hv'⟩
 | seq x y ihx ihy =>
  intro Q ρA ρ φ H h a w hq hr hh hp hv
  unfold evC at hq
  split at hq
  ·refine wpN_seq (wpN_mono (ihx _ ρA ρ φ H h a w hq hr hh hp hv) ?_)
   rintro e a' w' ⟨φ', ρA', ρ', H', h', hx, hk, hr', hh', hp', hv'⟩
   cases e with
   | normal => exact wpN_mono (ihy Q ρA' ρ' φ' H' h' a' w' hk hr' hh' hp' hv') fun _ _ _ hc => hc.mono hx
   | _ => exact ⟨φ', ρA', ρ', H', h', hx, hk, hr', hh', hp', hv'⟩
  ·rename_i A _
   unfold joinX at hq
   refine wpN_seq (wpN_mono (ihx _ ρA ρ φ H h a w hq hr hh hp hv) ?_)
   rintro e a' w' ⟨φ', ρA', ρ', H', h', hx, hk, hr', hh', hp', hv'⟩
   cases e with
   | normal =>
    obtain ⟨x, hl, hxx⟩ := A.e.ok ρA' _ hk
    refine wpN_mono (ihy Q (A.e.enc x topE) ρ' φ' H' h' a' w' hl (fun i => ?_) hh' hp' hv') fun _ _ _ hc => hc.mono hx
    rcases hxx topE i with e | e
    ·rw [e]
     simp only [topE, RV]
    ·rw [e]
     exact hr' i
   | _ => exact ⟨φ', ρA', ρ', H', h', hx, hk, hr', hh', hp', hv'⟩
 | cond c x y ihx ihy =>
  intro Q ρA ρ φ H h a w hq hr hh hp hv
  unfold evC at hq
  obtain ⟨v, hq, hvv⟩ := evA_ex hr hq
  obtain ⟨t, hq, ht⟩ := asB_ex hq hvv
  refine wpN_cond (t := t) (by rw [hp.eval]; exact ht) ?_
  cases t
  ·exact ihy Q ρA ρ φ H h a w hq hr hh hp hv
  ·exact ihx Q ρA ρ φ H h a w hq hr hh hp hv
 | block id b ih =>
  intro Q ρA ρ φ H h a w hq hr hh hp hv
  unfold evC at hq
  refine wpN_block (wpN_mono (ih _ ρA ρ φ H h a w hq hr hh hp hv) ?_)
  rintro e a' w' ⟨φ', ρA', ρ', H', h', hx, hk, hr', hh', hp', hv'⟩
  cases e with
  | exit id' =>
   simp only [blockA] at hk
   simp only [Exit.inBlock]
   by_cases hi : id' = id
   ·subst hi
    rw [Nat.beq_refl] at hk
    rw [if_pos rfl]
    exact ⟨φ', ρA', ρ', H', h', hx, hk, hr', hh', hp', hv'⟩
   ·have : Nat.beq id' id = false := by
     cases hx : Nat.beq id' id
     ·rfl
     ·exact absurd (Nat.eq_of_beq_eq_true hx) hi
    rw [this] at hk
    rw [if_neg hi]
    exact ⟨φ', ρA', ρ', H', h', hx, hk, hr', hh', hp', hv'⟩
  | _ => exact ⟨φ', ρA', ρ', H', h', hx, hk, hr', hh', hp', hv'⟩
 | scope b ih =>
  intro Q ρA ρ φ H h a w hq hr hh hp hv
  unfold evC at hq
  refine wpN_scope (wpN_mono (ih _ ρA ρ φ H h a w hq hr hh hp hv) ?_)
  rintro e a' w' ⟨φ', ρA', ρ', H', h', hx, hk, hr', hh', hp', hv'⟩
  cases e with
  | goto l => exact absurd hk (by simp [scopeA])
  | _ => exact ⟨φ', ρA', ρ', H', h', hx, hk, hr', hh', hp', hv'⟩
 | loop b ih =>
  intro Q ρA ρ φ H h a w hq hr hh hp hv
  unfold evC at hq
  split at hq
  ·exact absurd hq (by decide)
  ·rename_i id hid
   obtain ⟨x, hl, hx⟩ := (ann id).e.ok ρA _ hq
   have rel : ∀ {φ : Phi} {x : (ann id).X} {ρA : AEnv} {ρ : Env}, (∀ base i, (ann id).e.enc x base i = base i ∨ (ann id).e.enc x base i = ρA i) → EnvR φ ρA ρ → EnvR φ ((ann id).e.enc x topE) ρ := by
    intro φ x ρA ρ hx hr i
    rcases hx topE i with e | e
    ·rw [e]
     simp only [topE, RV]
    ·rw [e]
     exact hr i
   refine wpN_loop (fun m a w => ∃ φ' ρ H h x, PExt φ φ' ∧ loopX m (fun self x h => evC P cl ann rh jn lf n b (thenA (fun ρ h => (ann id).e.dec ρ fun x => self x h) Q) ((ann id).e.enc x topE) h) x H = true ∧
    EnvR φ' ((ann id).e.enc x topE) ρ ∧ RH φ' H hF h ∧ Rep n ρ a ∧ View w0 h w) (m := lf) ⟨φ, ρ, H, h, x, PExt.refl φ, hl, rel hx hr, hh, hp, hv⟩ ?_
   rintro m a w ⟨φ', ρ, H, h, x, hx, hl, hr, hh, hp, hv⟩
   cases m with
   | zero => exact Bool.noConfusion hl
   | succ m =>
    refine wpN_mono (ih _ _ ρ φ' H h a w hl hr hh hp hv) ?_
    rintro e a' w' ⟨φ'', ρA', ρ', H', h', hx', hk, hr', hh', hp', hv'⟩
    cases e with
    | normal =>
     obtain ⟨x', hl', hxx⟩ := (ann id).e.ok ρA' _ hk
     exact ⟨m, ⟨φ'', ρ', H', h', x', hx.trans hx', hl', rel hxx hr', hh', hp', hv'⟩, Nat.lt_succ_self m⟩
    | _ => exact ⟨φ'', ρA', ρ', H', h', hx.trans hx', hk, hr', hh', hp', hv'⟩
theorem cellA_ex {t : TypeId} {v : AV} {V : Value} (hv : RV φ v V) {H : AH} {hF h : Hp} (hh : RH φ H hF h) {K : AV → Bool} (hk : cellA P t v H K = true) :
  ∃ u U, K u = true ∧ RV φ u U ∧ ∀ K' : Value → Prop, K' U → resOf.resCell P t V h K' := by
 unfold cellA at hk
 split at hk
 ·rename_i i d h1 h2
  obtain ⟨p, a, hk, rfl, hp⟩ := asP_ex hk hv
  obtain ⟨x, o, r, rfl, hk, hx, rfl⟩ := nilK_ex hk hp
  obtain ⟨cs, l, hk, hb, hl⟩ := rowK_ex hh hx hk
  obtain ⟨u, U, hk, hu, d', hd', hK⟩ := ldA_ex hk hl
  refine ⟨u, U, hk, hu, fun K' hK' => ?_⟩
  unfold resOf.resCell
  simp only [h1, h2, nilCk]
  exact hK h r.b r.pre hb K' hK'
 ·exact absurd hk (by decide)
theorem resA_ex {rs : List ResultVar} {ρA : AEnv} {ρ : Env} (hr : EnvR φ ρA ρ) {H : AH} {hF h : Hp} (hh : RH φ H hF h) {K : AV → Bool} (hk : resA P rs ρA H K = true) :
  ∃ u U, K u = true ∧ RV φ u U ∧ ∀ K' : Value → Prop, K' U → resOf P rs ρ h K' := by
 have t1 : ∀ {x : AV} {X : Value}, RV φ x X → ∀ {y : AV} {Y : Value}, RV φ y Y → RV φ (.tup [x, y]) (.tuple #[X, Y]) := by
  intro x X hx y Y hy
  simp only [RV, RVL]
  exact ⟨_, rfl, X, _, rfl, hx, Y, _, rfl, hy, rfl⟩
 have t2 : ∀ {x : AV} {X : Value}, RV φ x X → ∀ {y : AV} {Y : Value}, RV φ y Y → ∀ {z : AV} {Z : Value}, RV φ z Z → RV φ (.tup [x, y, z]) (.tuple #[X, Y, Z]) := by
  intro x X hx y Y hy z Z hz
  simp only [RV, RVL]
  exact ⟨_, rfl, X, _, rfl, hx, Y, _, rfl, hy, Z, _, rfl, hz, rfl⟩
 unfold resA at hk
 split at hk
 ·exact ⟨_, .tuple #[], hk, by simp only [RV, RVL]; exact ⟨#[], rfl, rfl⟩, fun K' hK => hK⟩
 ·exact ⟨_, _, hk, hr _, fun K' hK => hK⟩
 ·obtain ⟨u, U, hk, hu, hK⟩ := cellA_ex (hr _) hh hk
  exact ⟨u, U, hk, hu, fun K' hK' => hK K' hK'⟩
 ·exact ⟨_, _, hk, t1 (hr _) (hr _), fun K' hK => hK⟩
 ·obtain ⟨u, U, hk, hu, hK⟩ := cellA_ex (hr _) hh hk
  exact ⟨_, _, hk, t1 hu (hr _), fun K' hK' => hK _ hK'⟩
 ·obtain ⟨u, U, hk, hu, hK⟩ := cellA_ex (hr _) hh hk
  exact ⟨_, _, hk, t1 (hr _) hu, fun K' hK' => hK _ hK'⟩
 ·obtain ⟨u, U, hk, hu, hK⟩ := cellA_ex (hr _) hh hk
  obtain ⟨v, V, hk, hv, hK2⟩ := cellA_ex (hr _) hh hk
  exact ⟨_, _, hk, t1 hu hv, fun K' hK' => hK _ (hK2 _ hK')⟩
 ·exact ⟨_, _, hk, t2 (hr _) (hr _) (hr _), fun K' hK => hK⟩
 ·obtain ⟨u, U, hk, hu, hK⟩ := cellA_ex (hr _) hh hk
  exact ⟨_, _, hk, t2 hu (hr _) (hr _), fun K' hK' => hK _ hK'⟩
 ·exact absurd hk (by decide)
theorem evFn_sound (hmix : P.follows .mixedOrders = true) {cl : Cl} (hcl : ClOk P w0 cl) {ann : Nat → LoopA} {rh : Nat → RegHint} {jn : Option Nat → Option LoopA} {lf : Nat} {f : FuncId} {fn : Func} (hf : P.funcs[f]? = some fn) {args : List AV} {vals : List Value}
  {φ : Phi} {H : AH} {hF h : Hp} {K : AV → AH → Bool} (hk : evFn P cl ann rh jn lf fn args H K = true) (ha : RVL φ args vals) (hh : RH φ H hF h) :
  Tri P w0 f vals.toArray h (fun r h' => ∃ φ' v H', PExt φ φ' ∧ RV φ' v r ∧ RH φ' H' hF h' ∧ K v H' = true) := by
 intro w hv
 unfold evFn at hk
 split at hk
 ·exact absurd hk (by decide)
 ·rename_i c hb
  obtain ⟨hle, hk⟩ := okK_ex hk
  have hle := Nat.le_of_ble_eq_true hle
  have hlen : vals.length ≤ fn.ntmps := by
   rw [ln_eq] at hle
   have : ∀ {xs : List AV} {vs : List Value}, RVL φ xs vs → vs.length = xs.length := by
    intro xs
    induction xs with
    | nil => intro vs h; simp only [RVL] at h; simp [h]
    | cons x t ih =>
     intro vs h
     simp only [RVL] at h
     obtain ⟨v, vs, rfl, _, h3⟩ := h
     simp [ih h3]
   rw [this ha]
   exact hle
  refine callsN hf hb ?_
  have hrep : Rep fn.ntmps (env0 vals) { tmps := vals.toArray ++ Array.replicate (fn.ntmps - vals.toArray.size) undef, defers := [] } := by
   refine ⟨by simp; omega, fun i => ?_, rfl⟩
   simp only [env0, Array.getD_eq_getD_getElem?, Array.getElem?_append, List.size_toArray, List.getElem?_toArray, List.getD_eq_getElem?_getD]
   by_cases hi : i < vals.length
   ·rw [if_pos hi]
   ·rw [if_neg hi, List.getElem?_eq_none (by omega)]
    by_cases hj : i - vals.length < fn.ntmps - vals.length
    ·simp [hj]
    ·rw [Array.getElem?_eq_none (by simp; omega)]
  have henv : EnvR φ (env0A args) (env0 vals) := by
   intro i
   simp only [env0A, env0, nth_eq, List.getD_eq_getElem?_getD]
   have hgen : ∀ {xs : List AV} {vs : List Value} (i : Nat), RVL φ xs vs → RV φ (match xs[i]? with | some v => v | none => .undef) (vs[i]?.getD undef) := by
    intro xs
    induction xs with
    | nil => intro vs i h; simp only [RVL] at h; simp [h, RV]
    | cons x t ih =>
     intro vs i h
     simp only [RVL] at h
     obtain ⟨v, vs, rfl, h2, h3⟩ := h
     cases i with
     | zero => simpa using h2
     | succ i => simpa using ih i h3
   exact hgen i ha
  refine wpN_mono (evC_sound hmix hcl c _ (env0A args) (env0 vals) φ H h _ w hk henv hh hrep hv) ?_
  rintro e a' w' ⟨φ', ρA', ρ', H', h', hx, hk', hr', hh', hp', hv'⟩
  have fin : resA P fn.results.toList ρA' H' (fun v => K v H') = true → a'.defers = [] ∧ ∃ v, (results fn a'.tmps).run P w' = .ok v w' ∧
    ∃ r h', Ending.returned v = .returned r ∧ (∃ φ' v H', PExt φ φ' ∧ RV φ' v r ∧ RH φ' H' hF h' ∧ K v H' = true) ∧ View w0 h' w' := by
   intro hres
   obtain ⟨u, U, hku, hu, hK⟩ := resA_ex hr' hh' hres
   obtain ⟨v, hv1, hq1⟩ := resOf_run rfl hp' hv' (hK (fun v => v = U) rfl)
   subst hq1
   exact ⟨hp'.defers, v, hv1, v, h', rfl, ⟨φ', u, H', hx, hu, hh', hku⟩, hv'⟩
  cases e with
  | normal => exact fin hk'
  | ret => exact fin hk'
  | exit id => exact Bool.noConfusion hk'
  | goto l => exact Bool.noConfusion hk'
  | panic ch => exact Bool.noConfusion hk'
  | outgrown => exact Bool.noConfusion hk'
theorem ClOk.none : ClOk P w0 (fun _ _ _ _ => false) := fun _ _ _ _ _ _ _ _ h => Bool.noConfusion h
end
end Go.Vw.Ev
