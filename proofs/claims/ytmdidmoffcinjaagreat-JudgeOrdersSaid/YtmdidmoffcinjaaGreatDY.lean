import Derived.Test.YtmdidmoffcinjaaGreatDX
import Derived.Test.YtmdidmoffcinjaaGreatBR
section
namespace Go.Proofs
open Go Go.Vw Go.Vw.Ev
set_option linter.unusedVariables false
set_option linter.unusedSimpArgs false
def ownW (w : Pn) (O : Pn → Prop) : Pn → Prop := fun a => a = w ∨ O a
def WW (H : AH) (w : Pn) (L : List (Int × Th)) (O : Pn → Prop) : Prop := ∃ g Og, H.has w ∧ H.get w = some (.row [.ptr (.at g 0)]) ∧ TT H g L Og ∧ ¬ Og w ∧ O = ownW w Og
theorem WW.fr {F : Pn → Prop} {H H' : AH} {w : Pn} {L : List (Int × Th)} {O : Pn → Prop} (h : WW H w L O) (k : Fr F H H') (hf : apart O F) : WW H' w L O := by
 obtain ⟨g, Og, h1, h2, h3, h4, rfl⟩ := h
 exact ⟨g, Og, k.has _ h1, (k.get _ h1 (hf w (.inl rfl))).trans h2, h3.fr k fun a ha => hf a (.inr ha), h4, rfl⟩
theorem WW.le {H H' : AH} {w : Pn} {L : List (Int × Th)} {O : Pn → Prop} (h : WW H w L O) (k : Le H H') : WW H' w L O := h.fr (k.fr fun _ => False) fun _ _ => id
def CWNew (cl : Cl) : Prop := ∀ H K, (∀ H' w O, Le H H' → WW H' w [] O → (∀ a, O a → ¬ H.has a) → K (.s (.ptr (.at w 0))) H' = true) → cl i_world_New [] H K = true
theorem B_world_New_ {lf : Nat} {cl : Cl} (hnew : CTNew cl) {H : AH} {K : AV → AH → Bool} (hk : ∀ H' w O, Le H H' → WW H' w [] O → (∀ a, O a → ¬ H.has a) → K (.s (.ptr (.at w 0))) H' = true) : B_world_New lf cl H K = true := by
 unfold B_world_New
 refine hnew _ _ fun H1 g O h1 t1 z1 => ?_
 rw [asP_]
 refine new_w fun w H2 h2 hw nw gw => ?_
 refine hk H2 w (ownW w O) (h1.trans h2) ⟨g, O, hw, gw, t1.le h2, fun h => nw (t1.has _ h), rfl⟩ fun a ha => ?_
 rcases ha with rfl | ha
 ·exact fun h => nw (h1.has _ h)
 ·exact z1 a ha
def CWAll (cl : Cl) : Prop := ∀ H w L O K, WW H w L O → L.length < 10000 → (∀ H' p c z, Le H H' → Sl H H' p (allT L).length z (thsC ((allT L).map (thOf L))) 11 → K (.s (.slice p (allT L).length c z)) H' = true) → cl i_world_World_All [.s (.ptr (.at w 0))] H K = true
theorem B_world_World_All_ {lf : Nat} {cl : Cl} (hall : CTAll cl) {H : AH} {w : Pn} {L : List (Int × Th)} {O : Pn → Prop} {K : AV → AH → Bool} (ww : WW H w L O) (hl : L.length < 10000)
  (hk : ∀ H' p c z, Le H H' → Sl H H' p (allT L).length z (thsC ((allT L).map (thOf L))) 11 → K (.s (.slice p (allT L).length c z)) H' = true) : B_world_World_All lf cl (.at w 0) H K = true := by
 obtain ⟨g, Og, h1, h2, h3, h4, rfl⟩ := ww
 unfold B_world_World_All
 simp only [nilK_at, fN_eq, Nat.add_eq, Nat.zero_add]
 refine rowK_w h2 (ldP_w rfl (hall H g L Og _ h3 hl fun H2 p2 c2 z2 h2' sl2 => ?_))
 rw [asSl_]
 exact hk H2 p2 c2 z2 h2' sl2
def room (L : List (Int × Th)) (c : Cm) : Prop := c.kind ≠ 1 ∨ L.length < 200
noncomputable instance (L : List (Int × Th)) (c : Cm) : Decidable (room L c) := inferInstanceAs (Decidable (_ ∨ _))
def wGo (L : List (Int × Th)) (c : Cm) : Prop := checkE L c = 0 ∨ (checkE L c = 16 ∧ room L c)
noncomputable instance (L : List (Int × Th)) (c : Cm) : Decidable (wGo L c) := inferInstanceAs (Decidable (_ ∨ _))
noncomputable def wE (L : List (Int × Th)) (c : Cm) (id : Int) : Int := if wGo L c then (if doneB L c id = true then 0 else 11) else checkE L c
noncomputable def wN (L : List (Int × Th)) (c : Cm) (id : Int) : Int := if wE L c id = 0 then doneN L c id else 0
noncomputable def wL (L : List (Int × Th)) (c : Cm) (id : Int) : List (Int × Th) := if wE L c id = 0 then doneL L c id else L
def CWDo (cl : Cl) : Prop := ∀ H w L O c id K, WW H w L O → L.length < 9000 → (∀ H' O', Fr O H H' → WW H' w (wL L c id) O' → (∀ a, O' a → O a ∨ ¬ H.has a) → K (.tup [.s (.int .i64 (wN L c id)), .s (.int .i64 (wE L c id))]) H' = true) →
 cl i_world_World_Do [.s (.ptr (.at w 0)), .agg (cmC c), .s (.int .i64 id)] H K = true
theorem B_world_World_Do_ {lf : Nat} {cl : Cl} (hcheck : CCheck cl) (hdone : CDone cl) (hlen : CTLen cl) {H : AH} {w : Pn} {L : List (Int × Th)} {O : Pn → Prop} {c : Cm} {id : Int} {K : AV → AH → Bool} (ww : WW H w L O) (hl : L.length < 9000)
  (hk : ∀ H' O', Fr O H H' → WW H' w (wL L c id) O' → (∀ a, O' a → O a ∨ ¬ H.has a) → K (.tup [.s (.int .i64 (wN L c id)), .s (.int .i64 (wE L c id))]) H' = true) : B_world_World_Do lf cl (.at w 0) (cmC c) id H K = true := by
 have ww0 := ww
 obtain ⟨g, Og, hw, gw, tt, nw, rfl⟩ := ww
 unfold B_world_World_Do
 refine new_w fun ga H1 h1 ha1 na ga1 => ?_
 simp only [nilK_at, fN_eq, Nat.add_eq, Nat.zero_add]
 refine rowK_w ((h1.get _ hw).trans gw) (ldP_w rfl (rowK_w ga1 (ldG_we (ys := cmC c) (lb rfl) (lb rfl) rfl (hcheck H1 g L Og c _ (tt.le h1) hl fun H2 h2 => arI_w ?_))))
 have hL2 := h1.trans h2
 have ga2 := (h2.get _ ha1).trans ga1
 have ha2 := h2.has _ ha1
 refine joinX_w (fun x Hx => Le H Hx ∧ x.1 = .at w 0 ∧ x.2.1 = id ∧ x.2.2.1 = .at ga 0 ∧ x.2.2.2.1 = checkE L c ∧ (x.2.2.2.2 = true ↔ room L c) ∧ Hx.has ga ∧ Hx.get ga = some (.row (cmC c))) ?_ ?_
 ·rintro ⟨x1, x2, x3, x4, x5⟩ H3 ⟨hL3, e1, e2, e3, e4, e5, ha3, ga3⟩
  simp only at e1 e2 e3 e4 e5
  subst e1 e2 e3 e4
  simp only [pR_]
  have no : ¬ wGo L c → K (.tup [.s (.int .i64 (Int.ofNat 0)), .s (.int .i64 (checkE L c))]) H3 = true := fun hn => by
   have hne : checkE L c ≠ 0 := fun h => hn (.inl h)
   have e : wE L c x2 = checkE L c := by unfold wE; rw [if_neg hn]
   have := hk H3 _ (hL3.fr _) (by unfold wL; rw [e, if_neg hne]; exact ww0.le hL3) fun a h => .inl h
   unfold wN at this
   rw [e, if_neg hne] at this
   exact this
  refine joinX_w (fun x Hx => Hx = H3 ∧ x.1 = .at w 0 ∧ x.2.1 = x2 ∧ x.2.2 = .at ga 0 ∧ wGo L c) ?_ ?_
  ·rintro ⟨y1, y2, y3⟩ Hy ⟨e0, e1, e2, e3, go⟩
   simp only at e1 e2 e3
   subst e0 e1 e2 e3
   simp only [pR_, nilK_at, fN_eq, Nat.add_eq, Nat.zero_add]
   refine rowK_w ((hL3.get _ hw).trans gw) (ldP_w rfl (rowK_w ga3 (ldG_we (ys := cmC c) (lb rfl) (lb rfl) rfl ?_)))
   refine hdone Hy g L Og c y2 _ (tt.le hL3) hl (pre_of (go.imp (fun h => h) fun h => h.1)) fun H4 O4 f4 t4 o4 => ?_
   rw [tup2_]
   refine arI_w (arB_w ?_)
   have f04 : Fr (ownW w Og) H H4 := (hL3.fr _).trans f4 fun a h => .inl (.inr h)
   have o4' : ∀ a, O4 a → Og a ∨ ¬ H.has a := fun a h => (o4 a h).imp (fun h => h) fun h hh => h (hL3.has _ hh)
   have nw4 : ¬ O4 w := fun h => (o4' w h).elim nw fun h => h hw
   have w4 : WW H4 w (doneL L c y2) (ownW w O4) := ⟨g, O4, f4.has _ (hL3.has _ hw), (f4.get _ (hL3.has _ hw) nw).trans ((hL3.get _ hw).trans gw), t4, nw4, rfl⟩
   have o4'' : ∀ a, ownW w O4 a → ownW w Og a ∨ ¬ H.has a := fun a h => h.elim (fun h => .inl (.inl h)) fun h => (o4' a h).imp .inr fun h => h
   rw [fB_eq]
   refine ifA_w (fun hb => ?_) (fun hb => ?_)
   ·have hb : doneB L c y2 = false := by simpa using hb
    have e : wE L c y2 = 11 := by unfold wE; rw [if_pos go, if_neg (by rw [hb]; decide)]
    have := hk H4 _ f04 (by unfold wL; rw [e, if_neg (by decide), ← doneL_no hb]; exact w4) o4''
    unfold wN at this
    rw [e, if_neg (by decide)] at this
    exact this
   ·have hb : doneB L c y2 = true := by simpa using hb
    have e : wE L c y2 = 0 := by unfold wE; rw [if_pos go, if_pos hb]
    have := hk H4 _ f04 (by unfold wL; rw [if_pos e]; exact w4) o4''
    unfold wN at this
    rw [e, if_pos rfl] at this
    exact this
  ·intro J hJ
   rw [fB_eq, iEq_dec]
   refine ifA_w (fun h0 => ?_) (fun h0 => hJ _ _ ⟨rfl, rfl, rfl, rfl, .inl ?_⟩)
   ·have h0 : checkE L c ≠ 0 := fun h => by rw [decide_eq_true (show checkE L c = Int.ofNat 0 from h)] at h0; cases h0
    rw [fB_eq, iEq_dec]
    refine ifA_w (fun h1 => no fun go => ?_) (fun h1 => ?_)
    ·rcases go with go | go
     ·exact h0 go
     ·rw [decide_eq_true (show checkE L c = Int.ofNat 16 from go.1)] at h1; cases h1
    ·have h16 : checkE L c = 16 := by
      by_cases h : checkE L c = Int.ofNat 16
      ·exact h
      ·rw [decide_eq_false h] at h1; cases h1
     rw [fB_eq]
     refine ifA_w (fun h2 => no fun go => ?_) (fun h2 => hJ _ _ ⟨rfl, rfl, rfl, rfl, .inr ⟨h16, e5.1 (by simpa using h2)⟩⟩)
     rcases go with go | go
     ·exact h0 go
     ·rw [e5.2 go.2] at h2; cases h2
   ·by_cases h : checkE L c = Int.ofNat 0
    ·exact h
    ·rw [decide_eq_false h] at h0; cases h0
 ·intro J hJ
  refine rowK_w ga2 (ldI_w (n := c.kind) rfl ?_)
  rw [fB_eq, iEq_dec]
  refine ifA_w (fun h0 => hJ _ _ ⟨hL2, rfl, rfl, rfl, rfl, ⟨fun _ => .inl fun h => ?_, fun _ => rfl⟩, ha2, ga2⟩) (fun h0 => ?_)
  ·rw [decide_eq_true (show c.kind = Int.ofNat 1 from h)] at h0; cases h0
  ·have k1 : c.kind = 1 := by
    by_cases h : c.kind = Int.ofNat 1
    ·exact h
    ·rw [decide_eq_false h] at h0; cases h0
   refine rowK_w ((hL2.get _ hw).trans gw) (ldP_w rfl (hlen H2 g L Og _ (tt.le hL2) (arI_w ?_)))
   rw [fB_eq]
   have key : iLt ((L.length : Nat) : Int) (Int.ofNat 200) = true ↔ room L c := by
    rw [iLt_dec, decide_eq_true_iff]
    unfold room
    simp only [Int.ofNat_eq_natCast]
    exact ⟨fun h => .inr (by omega), fun h => h.elim (fun h => absurd k1 h) fun h => by omega⟩
   exact hJ _ _ ⟨hL2, rfl, rfl, rfl, rfl, key, ha2, ga2⟩
end Go.Proofs
end
section
namespace Go.Proofs
open Go Go.Vw Go.Vw.Ev
set_option linter.unusedVariables false
set_option linter.unusedSimpArgs false
theorem wdo_put {L : List (Int × Th)} {p : Pt} {id : Int} (h : On p = true) (hl : L.length < 200) (h0 : 0 ≤ id) (h1 : id ≤ 1000000) (hn : (aGet L id).isSome = false) : wE L (putC p) id = 0 ∧ wL L (putC p) id = aSet L id (putT (putC p) id) := by
 have go : wGo L (putC p) := by
  unfold wGo
  rw [check_put h hl]
  by_cases hf : fullT L p = true
  ·exact .inr ⟨if_pos hf, .inr hl⟩
  ·exact .inl (if_neg hf)
 have hc : canPut L id = true := by rw [can_put h0 h1, hn]; rfl
 have e : wE L (putC p) id = 0 := by unfold wE; rw [if_pos go, if_pos (show doneB L (putC p) id = true from hc)]
 exact ⟨e, by unfold wL; rw [if_pos e]; exact if_pos hc⟩
end Go.Proofs
end
