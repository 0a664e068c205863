import Derived.Test.YtnncbfpkeikfaaaGreatDX
import Derived.Test.YtnncbfpkeikfaaaGreatBW
import Derived.Test.YtnncbfpkeikfaaaGreatVwRead2
import Derived.OpenShut
import Derived.Test.YtnncbfpkeikfaaaGreatDT
import Derived.Test.YtnncbfpkeikfaaaGreatBR
import Derived.Test.YtnncbfpkeikfaaaGreatVwClone
section
/- Many things at one place. -/
namespace Go.Proofs
open Go Go.Vw Go.Vw.Ev
set_option linter.unusedVariables false
set_option linter.unusedSimpArgs false

theorem wrapu8 {n : Int} (h0 : 0 ≤ n) (h1 : n ≤ 255) : IntKind.wrap .u8 n = n := by
  obtain ⟨m, rfl⟩ := Int.eq_ofNat_of_zero_le h0
  have key : ∀ i : Fin 256, IntKind.wrap .u8 (i.val : Nat) = (i.val : Nat) := by decide +kernel
  exact key ⟨m, by omega⟩
theorem cellOf_b {p : Pt} (h : On p = true) : 0 ≤ cellOf p ∧ cellOf p < 16 := by
  have := on_b h
  exact cellAt_b (by omega) (by omega) (by omega) (by omega)
theorem cellT_count {L : List (Int × Th)} {p : Pt} (h : On p = true) : (cellT L (ofC p)).length = ((aKeys L).filter fun k => RIn (cellR (cellOf p)) (thOf L k).pt).length := by
  have hb := cellOf_b h
  have e : ofC p = cellOf p := by unfold ofC; rw [if_pos h]
  unfold cellT
  rw [e, if_pos (by unfold isC; rw [decide_eq_true hb.1, decide_eq_true hb.2]; rfl)]
  unfold inT
  rw [srtI_len]
/-- So many things at one place, numbered from 0 on. -/
structure AllAt (L : List (Int × Th)) (p : Pt) (m : Nat) : Prop where
  len : L.length = m
  keys : ∀ k, k ∈ aKeys L ↔ 0 ≤ k ∧ k < m
  pt : ∀ k ∈ aKeys L, (thOf L k).pt = p
theorem AllAt.count {L : List (Int × Th)} {p q : Pt} {m : Nat} (h : AllAt L p m) (hp : On p = true) (hq : On q = true) : ((aKeys L).filter fun k => RIn (cellR (cellOf q)) (thOf L k).pt).length = if cellOf p = cellOf q then m else 0 := by
  have hb := cellOf_b hq
  split
  · rename_i e
    rw [List.filter_eq_self.2 fun k hk => by rw [h.pt k hk]; exact (cell_in hb.1 hb.2 p).2 ⟨hp, e⟩]
    have := h.len
    simpa [aKeys] using this
  · rename_i e
    rw [List.filter_eq_nil_iff.2 fun k hk hr => by rw [h.pt k hk] at hr; exact e ((cell_in hb.1 hb.2 p).1 hr).2]
    rfl
theorem AllAt.add {L : List (Int × Th)} {p : Pt} {m : Nat} (h : AllAt L p m) : AllAt (aSet L (m : Int) (putT (putC p) m)) p (m + 1) := by
  have hn : (m : Int) ∉ aKeys L := fun hk => by have := (h.keys _).1 hk; omega
  refine ⟨?_, fun k => ?_, fun k hk => ?_⟩
  · have := congrArg List.length (aKeys_set_new L (putT (putC p) m) hn)
    have h2 := h.len
    simp only [aKeys, List.length_map, List.length_append, List.length_cons, List.length_nil] at this
    omega
  · rw [aKeys_set_new _ _ hn, List.mem_append, List.mem_singleton, h.keys]
    omega
  · unfold thOf
    by_cases e : k = (m : Int)
    · subst e; rw [aGet_set_same]; rfl
    · rw [aGet_set_ne _ _ e]
      rw [aKeys_set_new _ _ hn, List.mem_append, List.mem_singleton] at hk
      exact h.pt k (hk.resolve_right e)
theorem AllAt.count_add {L : List (Int × Th)} {p q : Pt} {m : Nat} {k : Int} {T : Th} (h : AllAt L p m) (hk : k ∉ aKeys L) (hp : On p = true) (hq : On q = true) (hT : cellOf T.pt ≠ cellOf q) :
    ((aKeys (aSet L k T)).filter fun j => RIn (cellR (cellOf q)) (thOf (aSet L k T) j).pt).length = if cellOf p = cellOf q then m else 0 := by
  rw [← h.count hp hq, aKeys_set_new _ _ hk, List.filter_append, List.length_append]
  have hb := cellOf_b hq
  have e1 : ([k].filter fun j => RIn (cellR (cellOf q)) (thOf (aSet L k T) j).pt) = [] := List.filter_eq_nil_iff.2 fun j hj hr => by
    rw [List.mem_singleton.1 hj] at hr
    unfold thOf at hr
    rw [aGet_set_same] at hr
    exact hT ((cell_in hb.1 hb.2 _).1 hr).2
  rw [e1, List.length_nil, Nat.add_zero]
  congr 1
  refine List.filter_congr fun j hj => ?_
  have hne : j ≠ k := fun e => hk (e ▸ hj)
  unfold thOf
  rw [aGet_set_ne L T hne]
theorem len_old {L : List (Int × Th)} {k : Int} {T : Th} (h : k ∈ aKeys L) : (aSet L k T).length = L.length := by
  have := congrArg List.length (aKeys_set_old L T h)
  simpa [aKeys] using this
theorem aGet_isSome {L : List (Int × Th)} {k : Int} : (aGet L k).isSome = true ↔ k ∈ aKeys L := mem_get.symm
theorem not_some {L : List (Int × Th)} {k : Int} (h : k ∉ aKeys L) : (aGet L k).isSome = false := by
  cases e : (aGet L k).isSome with
  | false => rfl
  | true => exact absurd (aGet_isSome.1 e) h
end Go.Proofs
end
section
/- The world: a table whose cells are never full. -/
namespace Go.Proofs
open Go Go.Vw Go.Vw.Ev
set_option linter.unusedVariables false
set_option linter.unusedSimpArgs false

def ownW (w : Pn) (O : Pn → Prop) : Pn → Prop := fun a => a = w ∨ O a
/-- A world at w. -/
def WW (H : AH) (w : Pn) (L : List (Int × Th)) (O : Pn → Prop) : Prop := ∃ g Og, H.has w ∧ H.get w = some (.row [.ptr (.at g 0)]) ∧ TT H g L Og ∧ ¬ Og w ∧ O = ownW w Og
theorem WW.fr {F : Pn → Prop} {H H' : AH} {w : Pn} {L : List (Int × Th)} {O : Pn → Prop} (h : WW H w L O) (k : Fr F H H') (hf : apart O F) : WW H' w L O := by
  obtain ⟨g, Og, h1, h2, h3, h4, rfl⟩ := h
  exact ⟨g, Og, k.has _ h1, (k.get _ h1 (hf w (.inl rfl))).trans h2, h3.fr k fun a ha => hf a (.inr ha), h4, rfl⟩
theorem WW.le {H H' : AH} {w : Pn} {L : List (Int × Th)} {O : Pn → Prop} (h : WW H w L O) (k : Le H H') : WW H' w L O := h.fr (k.fr fun _ => False) fun _ _ => id
theorem WW.has {H : AH} {w : Pn} {L : List (Int × Th)} {O : Pn → Prop} (h : WW H w L O) (a : Pn) (ha : O a) : H.has a := by
  obtain ⟨g, Og, h1, h2, h3, h4, rfl⟩ := h
  rcases ha with rfl | ha
  · exact h1
  · exact h3.has a ha
def CWNew (cl : Cl) : Prop := ∀ H K, (∀ H' w O, Le H H' → WW H' w [] O → (∀ a, O a → ¬ H.has a) → K (.s (.ptr (.at w 0))) H' = true) → cl i_world_New [] H K = true
theorem B_world_New_ {lf : Nat} {cl : Cl} (hnew : CTNew cl) {H : AH} {K : AV → AH → Bool} (hk : ∀ H' w O, Le H H' → WW H' w [] O → (∀ a, O a → ¬ H.has a) → K (.s (.ptr (.at w 0))) H' = true) : B_world_New lf cl H K = true := by
  unfold B_world_New
  refine hnew _ _ fun H1 g O h1 t1 z1 => ?_
  rw [asP_]
  refine new_w fun w H2 h2 hw nw gw => ?_
  refine hk H2 w (ownW w O) (h1.trans h2) ⟨g, O, hw, gw, t1.le h2, fun h => nw (t1.has _ h), rfl⟩ fun a ha => ?_
  rcases ha with rfl | ha
  · exact fun h => nw (h1.has _ h)
  · exact z1 a ha
def CWLen (cl : Cl) : Prop := ∀ H w L O K, WW H w L O → K (.s (.int .i64 (L.length : Nat))) H = true → cl i_world_World_Len [.s (.ptr (.at w 0))] H K = true
theorem B_world_World_Len_ {lf : Nat} {cl : Cl} (hlen : CTLen cl) {H : AH} {w : Pn} {L : List (Int × Th)} {O : Pn → Prop} {K : AV → AH → Bool} (ww : WW H w L O) (hk : K (.s (.int .i64 (L.length : Nat))) H = true) : B_world_World_Len lf cl (.at w 0) H K = true := by
  obtain ⟨g, Og, h1, h2, h3, h4, rfl⟩ := ww
  unfold B_world_World_Len
  simp only [nilK_at, fN_eq, Nat.add_eq, Nat.zero_add]
  exact rowK_w h2 (ldP_w rfl (hlen H g L Og _ h3 (arI_w hk)))
def CWSee (cl : Cl) : Prop := ∀ H w L O r K, WW H w L O → L.length < 10000 → (∀ H' p c z, Le H H' → Sl H H' p (inT L r).length z (thsC ((inT L r).map (thOf L))) 11 → K (.s (.slice p (inT L r).length c z)) H' = true) → cl i_world_World_See [.s (.ptr (.at w 0)), .agg (rcC r)] H K = true
theorem B_world_World_See_ {lf : Nat} {cl : Cl} (hin : CTIn cl) {H : AH} {w : Pn} {L : List (Int × Th)} {O : Pn → Prop} {r : Rc} {K : AV → AH → Bool} (ww : WW H w L O) (hl : L.length < 10000)
    (hk : ∀ H' p c z, Le H H' → Sl H H' p (inT L r).length z (thsC ((inT L r).map (thOf L))) 11 → K (.s (.slice p (inT L r).length c z)) H' = true) : B_world_World_See lf cl (.at w 0) (rcC r) H K = true := by
  obtain ⟨g, Og, h1, h2, h3, h4, rfl⟩ := ww
  unfold B_world_World_See
  refine new_w fun ga H1 hL1 ha na ga1 => ?_
  simp only [nilK_at, fN_eq, Nat.add_eq, Nat.zero_add]
  refine rowK_w ((hL1.get _ h1).trans h2) (ldP_w rfl (rowK_w ga1 (ldG_we (ys := rcC r) (lb rfl) (lb rfl) rfl ?_)))
  refine hin H1 g L Og r _ (h3.le hL1) hl fun H2 p2 c2 z2 h2' sl2 => ?_
  rw [asSl_]
  exact hk H2 p2 c2 z2 (hL1.trans h2') ⟨sl2.len, sl2.rep.imp (fun h => h) fun ⟨g, h1, h2, h3, h4, h5⟩ => ⟨g, h1, h2, h3, h4, fun h => h5 (hL1.has _ h)⟩⟩
def CWAll (cl : Cl) : Prop := ∀ H w L O K, WW H w L O → L.length < 10000 → (∀ H' p c z, Le H H' → Sl H H' p (allT L).length z (thsC ((allT L).map (thOf L))) 11 → K (.s (.slice p (allT L).length c z)) H' = true) → cl i_world_World_All [.s (.ptr (.at w 0))] H K = true
theorem B_world_World_All_ {lf : Nat} {cl : Cl} (hall : CTAll cl) {H : AH} {w : Pn} {L : List (Int × Th)} {O : Pn → Prop} {K : AV → AH → Bool} (ww : WW H w L O) (hl : L.length < 10000)
    (hk : ∀ H' p c z, Le H H' → Sl H H' p (allT L).length z (thsC ((allT L).map (thOf L))) 11 → K (.s (.slice p (allT L).length c z)) H' = true) : B_world_World_All lf cl (.at w 0) H K = true := by
  obtain ⟨g, Og, h1, h2, h3, h4, rfl⟩ := ww
  unfold B_world_World_All
  simp only [nilK_at, fN_eq, Nat.add_eq, Nat.zero_add]
  refine rowK_w h2 (ldP_w rfl (hall H g L Og _ h3 hl fun H2 p2 c2 z2 h2' sl2 => ?_))
  rw [asSl_]
  exact hk H2 p2 c2 z2 h2' sl2
def room (L : List (Int × Th)) (c : Cm) : Prop := c.kind ≠ 1 ∨ L.length < 200
noncomputable instance (L : List (Int × Th)) (c : Cm) : Decidable (room L c) := inferInstanceAs (Decidable (_ ∨ _))
/-- Whether it is done in the world. -/
def wGo (L : List (Int × Th)) (c : Cm) : Prop := checkE L c = 0 ∨ (checkE L c = 16 ∧ room L c)
noncomputable instance (L : List (Int × Th)) (c : Cm) : Decidable (wGo L c) := inferInstanceAs (Decidable (_ ∨ _))
noncomputable def wE (L : List (Int × Th)) (c : Cm) (id : Int) : Int := if wGo L c then (if doneB L c id = true then 0 else 11) else checkE L c
noncomputable def wN (L : List (Int × Th)) (c : Cm) (id : Int) : Int := if wE L c id = 0 then doneN L c id else 0
noncomputable def wL (L : List (Int × Th)) (c : Cm) (id : Int) : List (Int × Th) := if wE L c id = 0 then doneL L c id else L
def CWDo (cl : Cl) : Prop := ∀ H w L O c id K, WW H w L O → L.length < 9000 → (∀ H' O', Fr O H H' → WW H' w (wL L c id) O' → (∀ a, O' a → O a ∨ ¬ H.has a) → K (.tup [.s (.int .i64 (wN L c id)), .s (.int .i64 (wE L c id))]) H' = true) →
  cl i_world_World_Do [.s (.ptr (.at w 0)), .agg (cmC c), .s (.int .i64 id)] H K = true
theorem B_world_World_Do_ {lf : Nat} {cl : Cl} (hcheck : CCheck cl) (hdone : CDone cl) (hlen : CTLen cl) {H : AH} {w : Pn} {L : List (Int × Th)} {O : Pn → Prop} {c : Cm} {id : Int} {K : AV → AH → Bool} (ww : WW H w L O) (hl : L.length < 9000)
    (hk : ∀ H' O', Fr O H H' → WW H' w (wL L c id) O' → (∀ a, O' a → O a ∨ ¬ H.has a) → K (.tup [.s (.int .i64 (wN L c id)), .s (.int .i64 (wE L c id))]) H' = true) : B_world_World_Do lf cl (.at w 0) (cmC c) id H K = true := by
  have ww0 := ww
  obtain ⟨g, Og, hw, gw, tt, nw, rfl⟩ := ww
  unfold B_world_World_Do
  refine new_w fun ga H1 h1 ha1 na ga1 => ?_
  simp only [nilK_at, fN_eq, Nat.add_eq, Nat.zero_add]
  refine rowK_w ((h1.get _ hw).trans gw) (ldP_w rfl (rowK_w ga1 (ldG_we (ys := cmC c) (lb rfl) (lb rfl) rfl (hcheck H1 g L Og c _ (tt.le h1) hl fun H2 h2 => arI_w ?_))))
  have hL2 := h1.trans h2
  have ga2 := (h2.get _ ha1).trans ga1
  have ha2 := h2.has _ ha1
  refine joinX_w (fun x Hx => Le H Hx ∧ x.1 = .at w 0 ∧ x.2.1 = id ∧ x.2.2.1 = .at ga 0 ∧ x.2.2.2.1 = checkE L c ∧ (x.2.2.2.2 = true ↔ room L c) ∧ Hx.has ga ∧ Hx.get ga = some (.row (cmC c))) ?_ ?_
  · rintro ⟨x1, x2, x3, x4, x5⟩ H3 ⟨hL3, e1, e2, e3, e4, e5, ha3, ga3⟩
    simp only at e1 e2 e3 e4 e5
    subst e1 e2 e3 e4
    simp only [pR_]
    have no : ¬ wGo L c → K (.tup [.s (.int .i64 (Int.ofNat 0)), .s (.int .i64 (checkE L c))]) H3 = true := fun hn => by
      have hne : checkE L c ≠ 0 := fun h => hn (.inl h)
      have e : wE L c x2 = checkE L c := by unfold wE; rw [if_neg hn]
      have := hk H3 _ (hL3.fr _) (by unfold wL; rw [e, if_neg hne]; exact ww0.le hL3) fun a h => .inl h
      unfold wN at this
      rw [e, if_neg hne] at this
      exact this
    refine joinX_w (fun x Hx => Hx = H3 ∧ x.1 = .at w 0 ∧ x.2.1 = x2 ∧ x.2.2 = .at ga 0 ∧ wGo L c) ?_ ?_
    · rintro ⟨y1, y2, y3⟩ Hy ⟨e0, e1, e2, e3, go⟩
      simp only at e1 e2 e3
      subst e0 e1 e2 e3
      simp only [pR_, nilK_at, fN_eq, Nat.add_eq, Nat.zero_add]
      refine rowK_w ((hL3.get _ hw).trans gw) (ldP_w rfl (rowK_w ga3 (ldG_we (ys := cmC c) (lb rfl) (lb rfl) rfl ?_)))
      refine hdone Hy g L Og c y2 _ (tt.le hL3) hl (pre_of (go.imp (fun h => h) fun h => h.1)) fun H4 O4 f4 t4 o4 => ?_
      rw [tup2_]
      refine arI_w (arB_w ?_)
      have f04 : Fr (ownW w Og) H H4 := (hL3.fr _).trans f4 fun a h => .inl (.inr h)
      have o4' : ∀ a, O4 a → Og a ∨ ¬ H.has a := fun a h => (o4 a h).imp (fun h => h) fun h hh => h (hL3.has _ hh)
      have nw4 : ¬ O4 w := fun h => (o4' w h).elim nw fun h => h hw
      have w4 : WW H4 w (doneL L c y2) (ownW w O4) := ⟨g, O4, f4.has _ (hL3.has _ hw), (f4.get _ (hL3.has _ hw) nw).trans ((hL3.get _ hw).trans gw), t4, nw4, rfl⟩
      have o4'' : ∀ a, ownW w O4 a → ownW w Og a ∨ ¬ H.has a := fun a h => h.elim (fun h => .inl (.inl h)) fun h => (o4' a h).imp .inr fun h => h
      rw [fB_eq]
      refine ifA_w (fun hb => ?_) (fun hb => ?_)
      · have hb : doneB L c y2 = false := by simpa using hb
        have e : wE L c y2 = 11 := by unfold wE; rw [if_pos go, if_neg (by rw [hb]; decide)]
        have := hk H4 _ f04 (by unfold wL; rw [e, if_neg (by decide), ← doneL_no hb]; exact w4) o4''
        unfold wN at this
        rw [e, if_neg (by decide)] at this
        exact this
      · have hb : doneB L c y2 = true := by simpa using hb
        have e : wE L c y2 = 0 := by unfold wE; rw [if_pos go, if_pos hb]
        have := hk H4 _ f04 (by unfold wL; rw [if_pos e]; exact w4) o4''
        unfold wN at this
        rw [e, if_pos rfl] at this
        exact this
    · intro J hJ
      rw [fB_eq, iEq_dec]
      refine ifA_w (fun h0 => ?_) (fun h0 => hJ _ _ ⟨rfl, rfl, rfl, rfl, .inl ?_⟩)
      · have h0 : checkE L c ≠ 0 := fun h => by rw [decide_eq_true (show checkE L c = Int.ofNat 0 from h)] at h0; cases h0
        rw [fB_eq, iEq_dec]
        refine ifA_w (fun h1 => no fun go => ?_) (fun h1 => ?_)
        · rcases go with go | go
          · exact h0 go
          · rw [decide_eq_true (show checkE L c = Int.ofNat 16 from go.1)] at h1; cases h1
        · have h16 : checkE L c = 16 := by
            by_cases h : checkE L c = Int.ofNat 16
            · exact h
            · rw [decide_eq_false h] at h1; cases h1
          rw [fB_eq]
          refine ifA_w (fun h2 => no fun go => ?_) (fun h2 => hJ _ _ ⟨rfl, rfl, rfl, rfl, .inr ⟨h16, e5.1 (by simpa using h2)⟩⟩)
          rcases go with go | go
          · exact h0 go
          · rw [e5.2 go.2] at h2; cases h2
      · by_cases h : checkE L c = Int.ofNat 0
        · exact h
        · rw [decide_eq_false h] at h0; cases h0
  · intro J hJ
    refine rowK_w ga2 (ldI_w (n := c.kind) rfl ?_)
    rw [fB_eq, iEq_dec]
    refine ifA_w (fun h0 => hJ _ _ ⟨hL2, rfl, rfl, rfl, rfl, ⟨fun _ => .inl fun h => ?_, fun _ => rfl⟩, ha2, ga2⟩) (fun h0 => ?_)
    · rw [decide_eq_true (show c.kind = Int.ofNat 1 from h)] at h0; cases h0
    · have k1 : c.kind = 1 := by
        by_cases h : c.kind = Int.ofNat 1
        · exact h
        · rw [decide_eq_false h] at h0; cases h0
      refine rowK_w ((hL2.get _ hw).trans gw) (ldP_w rfl (hlen H2 g L Og _ (tt.le hL2) (arI_w ?_)))
      rw [fB_eq]
      have key : iLt ((L.length : Nat) : Int) (Int.ofNat 200) = true ↔ room L c := by
        rw [iLt_dec, decide_eq_true_iff]
        unfold room
        simp only [Int.ofNat_eq_natCast]
        exact ⟨fun h => .inr (by omega), fun h => h.elim (fun h => absurd k1 h) fun h => by omega⟩
      exact hJ _ _ ⟨hL2, rfl, rfl, rfl, rfl, key, ha2, ga2⟩
end Go.Proofs
end
section
/- WorldFree: cells are never full in the world. -/
namespace Go.Proofs
open Go Go.Vw Go.Vw.Ev
set_option linter.unusedVariables false
set_option linter.unusedSimpArgs false

theorem wdo_put {L : List (Int × Th)} {p : Pt} {id : Int} (h : On p = true) (hl : L.length < 200) (h0 : 0 ≤ id) (h1 : id ≤ 1000000) (hn : (aGet L id).isSome = false) : wE L (putC p) id = 0 ∧ wL L (putC p) id = aSet L id (putT (putC p) id) := by
  have go : wGo L (putC p) := by
    unfold wGo
    rw [check_put h hl]
    by_cases hf : fullT L p = true
    · exact .inr ⟨if_pos hf, .inr hl⟩
    · exact .inl (if_neg hf)
  have hc : canPut L id = true := by rw [can_put h0 h1, hn]; rfl
  have e : wE L (putC p) id = 0 := by unfold wE; rw [if_pos go, if_pos (show doneB L (putC p) id = true from hc)]
  exact ⟨e, by unfold wL; rw [if_pos e]; exact if_pos hc⟩
theorem wdo_move {L : List (Int × Th)} {p : Pt} {k : Int} (h : On p = true) (h0 : 0 ≤ k) (h1 : k ≤ 1000000) (hn : (aGet L k).isSome = true) : wE L (moveC k p) 0 = 0 ∧ wL L (moveC k p) 0 = aSet L k { thOf L k with pt := p } := by
  have go : wGo L (moveC k p) := by
    unfold wGo
    rw [check_move h0 h1 (on_near h), hn, h]
    by_cases hf : awayB (thOf L k).pt p = true ∧ fullT L p = true
    · exact .inr ⟨by rw [if_neg (by decide), if_neg (by decide), if_pos hf], .inl fun h => absurd (show (2 : Int) = 1 from h) (by decide)⟩
    · exact .inl (by rw [if_neg (by decide), if_neg (by decide), if_neg hf])
  have e : wE L (moveC k p) 0 = 0 := by unfold wE; rw [if_pos go, if_pos (show doneB L (moveC k p) 0 = true from rfl)]
  exact ⟨e, by unfold wL; rw [if_pos e]; rfl⟩
theorem tmodE {z m : Int} (h : 0 ≤ z) : Int.tmod z m = z % m := Int.tmod_eq_emod_of_nonneg h
theorem one_rectW {p q : Pt} : RIn ⟨p.x, p.y, p.x + 1, p.y + 1⟩ q = true ↔ q = p := by
  unfold RIn
  simp only [Bool.and_eq_true, decide_eq_true_eq]
  cases p; cases q
  simp only [Pt.mk.injEq]
  omega
end Go.Proofs
end
section
/- Rows of whole numbers that come in. -/
namespace Go.Proofs
open Go Go.Vw Go.Vw.Ev
set_option linter.unusedVariables false
set_option linter.unusedSimpArgs false

def InI (H : AH) (p : AP) (n : Nat) (k : IntKind) (xs : List Int) : Prop := xs.length = n ∧ (n ≠ 0 → ∃ g, p = .at g 0 ∧ H.has g ∧ H.get g = some (.fix (xs.map (AS.int k))))
theorem InI.le {H H' : AH} {p : AP} {n : Nat} {k : IntKind} {xs : List Int} (h : InI H p n k xs) (l : Le H H') : InI H' p n k xs :=
  ⟨h.1, fun hn => (h.2 hn).imp fun g hg => ⟨hg.1, l.has g hg.2.1, (l.get g hg.2.1).trans hg.2.2⟩⟩
theorem InI.read {H : AH} {p : AP} {n : Nat} {k : IntKind} {xs : List Int} (h : InI H p n k xs) {i : Nat} (hi : i < n) {K : Int → Bool} (hk : K (xs[i]'(by rw [h.1]; exact hi)) = true) :
    nilK p (fun g o => idxK (i : Int) n fun m => fN (Nat.add o (Nat.mul m 1)) fun o => rowK H g fun cs => ldI cs o k K) = true := by
  obtain ⟨g, rfl, hg, hrow⟩ := h.2 (by omega)
  simp only [nilK_at, fN_eq, Nat.add_eq, Nat.mul_eq, Nat.zero_add, Nat.mul_one]
  have hl : i < xs.length := by rw [h.1]; exact hi
  refine idxK_w (by omega) (by omega) (rowK_wf hrow (ldI_w (n := xs[i]) ?_ hk))
  rw [Int.toNat_natCast, List.getElem?_map, List.getElem?_eq_getElem hl]
  rfl
theorem sl_int (k : IntKind) : ∀ (n : Nat) (cs : List AS), LeavesV (List.replicate n [Leaf.int k]).flatten cs → ∃ l : List Int, cs = l.map (AS.int k) ∧ l.length = n ∧ ∀ x ∈ l, (Lit.int k x).wf = true
  | 0, [], _ => ⟨[], rfl, rfl, fun x h => (by cases h)⟩
  | 0, _ :: _, h => h.elim
  | n + 1, [], h => h.elim
  | n + 1, x :: r, h => by
    obtain ⟨h1, h4⟩ := h
    cases x <;> first | exact h1.elim | skip
    obtain ⟨l, rfl, hl, hw⟩ := sl_int k n r h4
    obtain ⟨rfl, hx⟩ := h1
    refine ⟨_ :: l, rfl, by simp [hl], fun y hy => ?_⟩
    rcases List.mem_cons.1 hy with rfl | hy
    · exact hx
    · exact hw y hy
theorem sl_u8 (n : Nat) (cs : List AS) (h : LeavesV (List.replicate n [Leaf.int .u8]).flatten cs) : ∃ l : List Int, cs = l.map (AS.int .u8) ∧ l.length = n ∧ ∀ x ∈ l, 0 ≤ x ∧ x ≤ 255 := by
  obtain ⟨l, h1, h2, h3⟩ := sl_int .u8 n cs h
  exact ⟨l, h1, h2, fun x hx => Go.bounds_u8 (h3 x hx)⟩
theorem sl_i16 (n : Nat) (cs : List AS) (h : LeavesV (List.replicate n [Leaf.int .i16]).flatten cs) : ∃ l : List Int, cs = l.map (AS.int .i16) ∧ l.length = n ∧ ∀ x ∈ l, -32768 ≤ x ∧ x ≤ 32767 := by
  obtain ⟨l, h1, h2, h3⟩ := sl_int .i16 n cs h
  exact ⟨l, h1, h2, fun x hx => Go.bounds_i16 (h3 x hx)⟩
/-- A thing with numbers alone in its fields. -/
def tN (id : Int) (p : Pt) (ns : Nat → Int) : Th := ⟨id, p, ⟨ns 0, []⟩, ⟨ns 1, []⟩, ⟨ns 2, []⟩, ⟨ns 3, []⟩⟩
def updN (ns : Nat → Int) (k : Nat) (v : Int) : Nat → Int := fun j => if j = k then v else ns j
def wC (ns : Nat → Int) : List AS := [.int .i64 (ns 0), .str [], .int .i64 (ns 1), .str [], .int .i64 (ns 2), .str [], .int .i64 (ns 3), .str []]
theorem setF_N (id : Int) (p : Pt) (ns : Nat → Int) (v : Int) : ∀ k : Nat, k < 4 → setF (tN id p ns) (k : Nat) ⟨v, []⟩ = tN id p (updN ns k v) := lt4 rfl rfl rfl rfl
theorem wC_set (ns : Nat → Int) (v : Int) : ∀ k : Nat, k < 4 → (wC ns).set (k * 2) (.int .i64 v) = wC (updN ns k v) := lt4 rfl rfl rfl rfl
theorem aSet_1 (k : Int) (a b : Th) : aSet [(k, a)] k b = [(k, b)] := by simp [aSet]
theorem aGet_1 (k : Int) (a : Th) : aGet [(k, a)] k = some a := by simp [aGet]
theorem thOf_1 (k : Int) (a : Th) : thOf [(k, a)] k = a := by unfold thOf; rw [aGet_1]; rfl
theorem isF_N (v : Int) : IsF ⟨v, []⟩ = true := by simp [IsF]
end Go.Proofs
end
section
/- WorldLast: of a row of moves and sets of one thing the last ones count. -/
namespace Go.Proofs
open Go Go.Vw Go.Vw.Ev
set_option linter.unusedVariables false
set_option linter.unusedSimpArgs false

theorem fr_leW {O : Pn → Prop} {H0 H H' : AH} (h : Le H0 H) (f : Fr O H H') (hz : ∀ a, O a → ¬ H0.has a) : Le H0 H' :=
  ⟨fun a ha => f.has a (h.has a ha), fun a ha => (f.get a (h.has a ha) fun h' => hz a h' ha).trans (h.get a ha)⟩
theorem wdo_set {L : List (Int × Th)} {k w : Int} {v : Fd} (h0 : 0 ≤ k) (h1 : k ≤ 1000000) (h2 : 0 ≤ w) (h3 : w < 4) (h4 : IsF v = true) (hn : (aGet L k).isSome = true) : wE L (setC k w v) 0 = 0 ∧ wL L (setC k w v) 0 = aSet L k (setF (thOf L k) w v) := by
  have ck : checkE L (setC k w v) = 0 := by rw [check_set h0 h1 (by omega) (by omega) h4, hn, if_neg (by decide), if_neg (by omega)]
  have e : wE L (setC k w v) 0 = 0 := by unfold wE; rw [if_pos (.inl ck), if_pos (show doneB L (setC k w v) 0 = true from rfl)]
  exact ⟨e, by unfold wL; rw [if_pos e]; rfl⟩
theorem allT_1 (k : Int) (t : Th) : allT [(k, t)] = [k] := rfl
theorem same_th (t : Th) : cellsEqA (thC t) (thC t) = true := by
  simp only [thC, ptC, fdC, List.cons_append, List.nil_append, cellsEqA, cellEqA, iEq_dec, sEq_dec, decide_true]
theorem leaves_th (t : Th) : leavesA [Leaf.int .i64, Leaf.int .i64, Leaf.int .i64, Leaf.int .i64, Leaf.str, Leaf.int .i64, Leaf.str, Leaf.int .i64, Leaf.str, Leaf.int .i64, Leaf.str] (thC t) = true := rfl
theorem tN_take (id : Int) (p q : Pt) (ns : Nat → Int) : (thC (tN id p ns)).take 1 ++ (ptC q ++ (thC (tN id p ns)).drop 3) = thC (tN id q ns) := rfl
theorem tN_set (id : Int) (p : Pt) (ns : Nat → Int) (v : Int) : ∀ k : Nat, k < 4 → (thC (tN id p ns)).set (3 + k * 2) (.int .i64 v) = thC (tN id p (updN ns k v)) := lt4 rfl rfl rfl rfl
theorem tN_fd (id : Int) (p : Pt) (ns : Nat → Int) : ∀ k : Nat, k < 4 → ((thC (tN id p ns)).drop (3 + k * 2)).take 2 = fdC ⟨ns k, []⟩ := lt4 rfl rfl rfl rfl
end Go.Proofs
end
section
/- Rows of things, as the reference has them. -/
namespace Go.Proofs
open Go Go.Vw Go.Vw.Ev
set_option linter.unusedVariables false
set_option linter.unusedSimpArgs false

theorem Sl.inT {H0 H : AH} {p : AP} {n z : Nat} {ts : List Th} (h : Sl H0 H p n z (thsC ts) 11) (hn : ts.length = n) : InT H p n ts :=
  ⟨hn, fun h0 => by
    rcases h.rep with ⟨h1, _⟩ | ⟨g, rfl, _, hg, hh, _⟩
    · exact absurd h1 h0
    · exact ⟨g, rfl, hh, .inr hg⟩⟩
theorem thC_inj {a b : Th} : cellsEqA (thC a) (thC b) = true ↔ a = b := by
  constructor
  · intro h
    have key : decide (a.id = b.id) = true ∧ decide (a.pt.x = b.pt.x) = true ∧ decide (a.pt.y = b.pt.y) = true ∧ decide (a.f0.n = b.f0.n) = true ∧ decide (a.f0.s = b.f0.s) = true ∧ decide (a.f1.n = b.f1.n) = true ∧ decide (a.f1.s = b.f1.s) = true ∧
        decide (a.f2.n = b.f2.n) = true ∧ decide (a.f2.s = b.f2.s) = true ∧ decide (a.f3.n = b.f3.n) = true ∧ decide (a.f3.s = b.f3.s) = true := by
      simp only [thC, ptC, fdC, List.cons_append, List.nil_append, cellsEqA, cellEqA, iEq_dec, sEq_dec] at h
      generalize decide (a.id = b.id) = b0 at *
      generalize decide (a.pt.x = b.pt.x) = b1 at *
      generalize decide (a.pt.y = b.pt.y) = b2 at *
      generalize decide (a.f0.n = b.f0.n) = b3 at *
      generalize decide (a.f0.s = b.f0.s) = b4 at *
      generalize decide (a.f1.n = b.f1.n) = b5 at *
      generalize decide (a.f1.s = b.f1.s) = b6 at *
      generalize decide (a.f2.n = b.f2.n) = b7 at *
      generalize decide (a.f2.s = b.f2.s) = b8 at *
      generalize decide (a.f3.n = b.f3.n) = b9 at *
      generalize decide (a.f3.s = b.f3.s) = b10 at *
      cases b0 <;> first | exact Bool.noConfusion h | skip
      cases b1 <;> first | exact Bool.noConfusion h | skip
      cases b2 <;> first | exact Bool.noConfusion h | skip
      cases b3 <;> first | exact Bool.noConfusion h | skip
      cases b4 <;> first | exact Bool.noConfusion h | skip
      cases b5 <;> first | exact Bool.noConfusion h | skip
      cases b6 <;> first | exact Bool.noConfusion h | skip
      cases b7 <;> first | exact Bool.noConfusion h | skip
      cases b8 <;> first | exact Bool.noConfusion h | skip
      cases b9 <;> first | exact Bool.noConfusion h | skip
      cases b10 <;> first | exact Bool.noConfusion h | skip
      exact ⟨rfl, rfl, rfl, rfl, rfl, rfl, rfl, rfl, rfl, rfl, rfl⟩
    simp only [decide_eq_true_eq] at key
    obtain ⟨e0, e1, e2, e3, e4, e5, e6, e7, e8, e9, e10⟩ := key
    obtain ⟨ai, ⟨ax, ay⟩, ⟨a0, a1⟩, ⟨a2, a3⟩, ⟨a4, a5⟩, ⟨a6, a7⟩⟩ := a
    obtain ⟨bi, ⟨bx, by_⟩, ⟨b0, b1⟩, ⟨b2, b3⟩, ⟨b4, b5⟩, ⟨b6, b7⟩⟩ := b
    simp only at e0 e1 e2 e3 e4 e5 e6 e7 e8 e9 e10
    subst e0 e1 e2 e3 e4 e5 e6 e7 e8 e9 e10
    rfl
  · rintro rfl
    simp only [thC, ptC, fdC, List.cons_append, List.nil_append, cellsEqA, cellEqA, iEq_dec, sEq_dec, decide_true]
def CSame6 (cl : Cl) : Prop := ∀ H p n c z1 q m d z2 ts us K, InT H p n ts → InT H q m us → n < 100000 → (∀ b, (b = true ↔ ts = us) → K (.s (.bool b)) H = true) → cl i_ref6_SameAll [.s (.slice p n c z1), .s (.slice q m d z2)] H K = true
theorem InT.at {H : AH} {p : AP} {n : Nat} {ts : List Th} (h : InT H p n ts) {i : Nat} (hi : i < n) : ∃ g, p = .at g 0 ∧ H.has g ∧ (H.get g = some (.fix (thsC ts)) ∨ H.get g = some (.row (thsC ts))) ∧ i * 11 + 11 ≤ (thsC ts).length ∧
    ((thsC ts).drop (i * 11)).take 11 = thC (ts[i]'(by rw [h.1]; exact hi)) ∧ (thsC ts)[i * 11]? = some (.int .i64 (ts[i]'(by rw [h.1]; exact hi)).id) := by
  obtain ⟨g, h1, h2, h3⟩ := h.2 (by omega)
  have hl : i < ts.length := by rw [h.1]; exact hi
  have ha := thsC_at ts i hl
  refine ⟨g, h1, h2, h3, by rw [thsC_len]; omega, ha, ?_⟩
  have := congrArg (·[0]?) ha
  rw [List.getElem?_take_of_lt (by decide), List.getElem?_drop, Nat.add_zero] at this
  rw [this]; rfl
theorem B_ref6_SameAll_ {lf : Nat} {cl : Cl} (hlf : 100000 ≤ lf) {H : AH} {p q : AP} {n m zz zy : Nat} {c d : ACap} {ts us : List Th} {K : AV → AH → Bool} (hp : InT H p n ts) (hq : InT H q m us) (hn : n < 100000) (hk : ∀ b, (b = true ↔ ts = us) → K (.s (.bool b)) H = true) :
    B_ref6_SameAll lf cl p n c zz q m d zy H K = true := by
  unfold B_ref6_SameAll
  rw [fB_eq, iEq_dec]
  refine ifA_w (fun h => hk false ⟨fun h => (by cases h), fun e => ?_⟩) (fun h => ?_)
  · have : n = m := by rw [← hp.1, ← hq.1, e]
    subst this
    rw [decide_eq_true rfl] at h
    cases h
  have hnm : n = m := by
    by_cases e : (Int.ofNat n) = Int.ofNat m
    · exact Int.ofNat.inj e
    · rw [decide_eq_false e] at h; cases h
  subst hnm
  refine loopX_w (fun x Hx => Hx = H ∧ x.1 = (p, n, c, zz) ∧ x.2.1 = (q, n, d, zy) ∧ ∃ i : Nat, x.2.2 = (i : Int) ∧ i ≤ n ∧ ts.take i = us.take i) (fun x => n - x.2.2.toNat) ⟨rfl, rfl, rfl, 0, rfl, by omega, rfl⟩ (by simp; omega) ?_
  rintro self ⟨x1, x2, x3⟩ Hx ⟨e0, e1, e2, i, e3, hi, ht⟩ ih
  simp only at e1 e2 e3
  subst e0 e1 e2 e3
  simp only [pR_, fB_eq, iLt_dec]
  have hlt := hp.1
  have hlu := hq.1
  refine ifA_w (fun hx => ?_) (fun hx => ?_)
  · have hx : i < n := by have := of_decide_eq_true hx; simp only [Int.ofNat_eq_natCast] at this; omega
    obtain ⟨g1, rfl, _, r1, l1, a1, _⟩ := hp.at hx
    obtain ⟨g2, rfl, _, r2, l2, a2, _⟩ := hq.at hx
    simp only [nilK_at, fN_eq, Nat.add_eq, Nat.mul_eq, Nat.zero_add]
    refine idxK_w (by omega) (by omega) (rowK_wo r1 (ldG_we (ys := thC (ts[i]'(by omega))) (by rw [Int.toNat_natCast]; exact l1) (by decide) (by rw [Int.toNat_natCast]; exact a1) ?_))
    refine idxK_w (by omega) (by omega) (rowK_wo r2 (ldG_we (ys := thC (us[i]'(by omega))) (by rw [Int.toNat_natCast]; exact l2) (by decide) (by rw [Int.toNat_natCast]; exact a2) (okK_w rfl ?_)))
    refine ifA_w (fun h => hk false ⟨fun h => (by cases h), fun e => ?_⟩) (fun h => ?_)
    · subst e
      rw [thC_inj.2 rfl] at h; cases h
    · have he : ts[i]'(by omega) = us[i]'(by omega) := thC_inj.1 (by cases h' : cellsEqA (thC (ts[i]'(by omega))) (thC (us[i]'(by omega))) with
        | true => rfl
        | false => rw [h'] at h; cases h)
      rw [iAdd_]
      refine w64_w (by simp only [Int.ofNat_eq_natCast]; omega) (by simp only [Int.ofNat_eq_natCast]; omega) (ih _ _ ⟨rfl, rfl, rfl, i + 1, by simp, by omega, ?_⟩ (by simp; omega))
      rw [List.take_succ_eq_append_getElem (by omega), List.take_succ_eq_append_getElem (by omega), ht, he]
  · have hx : i = n := by have := of_decide_eq_false hx; simp only [Int.ofNat_eq_natCast] at this; omega
    rw [hx, List.take_of_length_le (by omega), List.take_of_length_le (by omega)] at ht
    exact hk true ⟨fun _ => ht, fun _ => rfl⟩
def CAt6 (cl : Cl) : Prop := ∀ H p n c z ts id K, InT H p n ts → n < 100000 → (∀ r : Int, ((0 ≤ r ∧ ∃ (i : Nat) (hi : i < ts.length), r = (i : Int) ∧ ts[i].id = id) ∨ (r < 0 ∧ ∀ t ∈ ts, t.id ≠ id)) → K (.s (.int .i64 r)) H = true) → cl i_ref6_At [.s (.slice p n c z), .s (.int .i64 id)] H K = true
theorem B_ref6_At_ {lf : Nat} {cl : Cl} (hlf : 100000 ≤ lf) {H : AH} {p : AP} {n zz : Nat} {c : ACap} {ts : List Th} {id : Int} {K : AV → AH → Bool} (hp : InT H p n ts) (hn : n < 100000)
    (hk : ∀ r : Int, ((0 ≤ r ∧ ∃ (i : Nat) (hi : i < ts.length), r = (i : Int) ∧ ts[i].id = id) ∨ (r < 0 ∧ ∀ t ∈ ts, t.id ≠ id)) → K (.s (.int .i64 r)) H = true) : B_ref6_At lf cl p n c zz id H K = true := by
  unfold B_ref6_At
  have hlt := hp.1
  refine loopX_w (fun x Hx => Hx = H ∧ x.1 = (p, n, c, zz) ∧ x.2.1 = id ∧ ∃ i : Nat, x.2.2 = (i : Int) ∧ i ≤ n ∧ ∀ t ∈ ts.take i, t.id ≠ id) (fun x => n - x.2.2.toNat) ⟨rfl, rfl, rfl, 0, rfl, by omega, fun t h => (by simp at h)⟩ (by simp; omega) ?_
  rintro self ⟨x1, x2, x3⟩ Hx ⟨e0, e1, e2, i, e3, hi, ht⟩ ih
  simp only at e1 e2 e3
  subst e0 e1 e2 e3
  simp only [pR_, fB_eq, iLt_dec]
  refine ifA_w (fun hx => ?_) (fun hx => ?_)
  · have hx : i < n := by have := of_decide_eq_true hx; simp only [Int.ofNat_eq_natCast] at this; omega
    obtain ⟨g1, rfl, _, r1, l1, a1, i1⟩ := hp.at hx
    simp only [nilK_at, fN_eq, Nat.add_eq, Nat.mul_eq, Nat.zero_add, Nat.add_zero]
    refine idxK_w (by omega) (by omega) (rowK_wo r1 (ldI_w (by rw [Int.toNat_natCast]; exact i1) ?_))
    rw [iEq_dec]
    refine ifA_w (fun h => hk _ (.inl ⟨by omega, i, by omega, rfl, of_decide_eq_true h⟩)) (fun h => ?_)
    rw [iAdd_]
    refine w64_w (by simp only [Int.ofNat_eq_natCast]; omega) (by simp only [Int.ofNat_eq_natCast]; omega) (ih _ _ ⟨rfl, rfl, rfl, i + 1, by simp, by omega, fun t h' => ?_⟩ (by simp; omega))
    rw [List.take_succ_eq_append_getElem (by omega), List.mem_append, List.mem_singleton] at h'
    rcases h' with h' | rfl
    · exact ht t h'
    · exact of_decide_eq_false h
  · have hx : i = n := by have := of_decide_eq_false hx; simp only [Int.ofNat_eq_natCast] at this; omega
    rw [hx, List.take_of_length_le (by omega)] at ht
    exact hk _ (.inr ⟨by decide, ht⟩)
def notId (id : Int) (t : Th) : Bool := decide (t.id ≠ id)
def CWithoutS (cl : Cl) : Prop := ∀ H p n c z ts id K, InT H p n ts → n < 10000 → (∀ H' p' c' z', Le H H' → Sl H H' p' (ts.filter (notId id)).length z' (thsC (ts.filter (notId id))) 11 → K (.s (.slice p' (ts.filter (notId id)).length c' z')) H' = true) → cl i_ref6_Without [.s (.slice p n c z), .s (.int .i64 id)] H K = true
def CWithout (cl : Cl) : Prop := ∀ H p n c z ts id K, InT H p n ts → n < 10000 → (∀ H' p' c' z', Le H H' → InT H' p' (ts.filter (notId id)).length (ts.filter (notId id)) → K (.s (.slice p' (ts.filter (notId id)).length c' z')) H' = true) → cl i_ref6_Without [.s (.slice p n c z), .s (.int .i64 id)] H K = true
theorem W_ref6_WithoutS {lf : Nat} {cl : Cl} (hlf : 100000 ≤ lf) {H : AH} {p : AP} {n zz : Nat} {c : ACap} {ts : List Th} {id : Int} {K : AV → AH → Bool} (hp : InT H p n ts) (hn : n < 10000)
    (hk : ∀ H' p' c' z', Le H H' → Sl H H' p' (ts.filter (notId id)).length z' (thsC (ts.filter (notId id))) 11 → K (.s (.slice p' (ts.filter (notId id)).length c' z')) H' = true) : B_ref6_Without lf cl p n c zz id H K = true := by
  unfold B_ref6_Without
  have hlt := hp.1
  refine loopX_w (fun x Hx => x.1 = (p, n, c, zz) ∧ x.2.1 = id ∧ Le H Hx ∧ ∃ i : Nat, x.2.2.2 = (i : Int) ∧ i ≤ n ∧ ∃ p1 c1 z1, x.2.2.1 = (p1, ((ts.take i).filter (notId id)).length, c1, z1) ∧ Sl H Hx p1 ((ts.take i).filter (notId id)).length z1 (thsC ((ts.take i).filter (notId id))) 11) (fun x => n - x.2.2.2.toNat)
    ⟨rfl, rfl, Le.refl _, 0, rfl, by omega, .nil, _, _, rfl, Sl.nil⟩ (by simp; omega) ?_
  rintro self ⟨x1, x2, x3, x4⟩ Hx ⟨e1, e2, hL, i, e4, hi, p1, c1, z1, e3, sl⟩ ih
  simp only at e1 e2 e3 e4
  subst e1 e2 e3 e4
  simp only [pR_, fB_eq, iLt_dec]
  refine ifA_w (fun hx => ?_) (fun hx => ?_)
  · have hx : i < n := by have := of_decide_eq_true hx; simp only [Int.ofNat_eq_natCast] at this; omega
    obtain ⟨g1, rfl, _, r1, l1, a1, i1⟩ := (hp.le hL).at hx
    simp only [nilK_at, fN_eq, Nat.add_eq, Nat.mul_eq, Nat.zero_add, Nat.add_zero]
    refine idxK_w (by omega) (by omega) (rowK_wo r1 (ldI_w (by rw [Int.toNat_natCast]; exact i1) ?_))
    rw [iEq_dec]
    have tk : (ts.take (i + 1)).filter (notId x2) = (ts.take i).filter (notId x2) ++ (if notId x2 (ts[i]'(by omega)) = true then [ts[i]'(by omega)] else []) := by
      rw [List.take_succ_eq_append_getElem (by omega), List.filter_append, List.filter_cons, List.filter_nil]
    have lb10 : ((ts.take i).filter (notId x2)).length ≤ i := Nat.le_trans (List.length_filter_le _ _) (by simp; omega)
    refine ifA_w (fun h => ?_) (fun h => ?_)
    · have hne : notId x2 (ts[i]'(by omega)) = true := by
        unfold notId
        by_cases e : (ts[i]'(by omega)).id = x2
        · rw [decide_eq_true e] at h; cases h
        · exact decide_eq_true e
      rw [if_pos hne] at tk
      refine idxK_w (by omega) (by omega) (rowK_wo r1 (ldG_we (ys := thC (ts[i]'(by omega))) (by rw [Int.toNat_natCast]; exact l1) (by decide) (by rw [Int.toNat_natCast]; exact a1) (okK_w rfl (fL_w ?_))))
      rw [ap_eq, List.append_nil]
      refine okK_w rfl (newK_w ?_)
      refine elK_w (ys := thC (ts[i]'(by omega))) (get_new _ _) (by rw [thC_len]; decide) rfl ?_
      refine app_w (sl.le (Le.new _ _)) (hL.newr _) (m := 1) rfl (by decide) (by omega) (by omega) fun p2 c2 z2 H2 hL2 sl2 _ => ?_
      rw [iAdd_]
      refine w64_w (by simp only [Int.ofNat_eq_natCast]; omega) (by simp only [Int.ofNat_eq_natCast]; omega) (ih _ _ ⟨rfl, rfl, hL2, i + 1, by simp, by omega, p2, c2, z2, ?_, ?_⟩ (by simp; omega))
      · rw [tk]; simp
      · rw [tk, thsC, List.flatMap_append, List.length_append]
        simpa [thsC] using sl2
    · have hne : ¬ notId x2 (ts[i]'(by omega)) = true := by
        unfold notId
        by_cases e : (ts[i]'(by omega)).id = x2
        · simp [e]
        · rw [decide_eq_false e] at h; cases h
      rw [if_neg hne, List.append_nil] at tk
      rw [iAdd_]
      exact w64_w (by simp only [Int.ofNat_eq_natCast]; omega) (by simp only [Int.ofNat_eq_natCast]; omega) (ih _ _ ⟨rfl, rfl, hL, i + 1, by simp, by omega, p1, c1, z1, by rw [tk], by rw [tk]; exact sl⟩ (by simp; omega))
  · have hx : i = n := by have := of_decide_eq_false hx; simp only [Int.ofNat_eq_natCast] at this; omega
    rw [hx, List.take_of_length_le (by omega)] at sl ⊢
    exact hk _ _ _ _ hL sl
theorem B_ref6_Without_ {lf : Nat} {cl : Cl} (hlf : 100000 ≤ lf) {H : AH} {p : AP} {n zz : Nat} {c : ACap} {ts : List Th} {id : Int} {K : AV → AH → Bool} (hp : InT H p n ts) (hn : n < 10000)
    (hk : ∀ H' p' c' z', Le H H' → InT H' p' (ts.filter (notId id)).length (ts.filter (notId id)) → K (.s (.slice p' (ts.filter (notId id)).length c' z')) H' = true) : B_ref6_Without lf cl p n c zz id H K = true :=
  W_ref6_WithoutS hlf hp hn fun H' p' c' z' h sl => hk _ _ _ _ h (Sl.inT sl rfl)
end Go.Proofs
end
section
/- Copies: of the tree, the table. -/
namespace Go.Proofs
open Go Go.Vw Go.Vw.Ev
set_option linter.unusedVariables false
set_option linter.unusedSimpArgs false

theorem keys_sorted2_ {g : Nat} {gs : List Nat} (hg : memN g gs = true) {cl cl' : Cl} {H : AH} {m : Pn} {es : List (Int × AV)} {K : AV → AH → Bool} (hm : H.get m = some (.imap es)) (hh : H.has m) (hr : ∀ k ∈ keysOf es, 0 ≤ k ∧ k ≤ 9223372036854775807) (hl : es.length ≤ 1000000)
    (hk : ∀ H' p c z, Le H H' → IS H' p (srtI (keysOf es)).length z (srtI (keysOf es)) → (∀ a, ownP p a → ¬ H.has a) → K (.s (.slice p (srtI (keysOf es)).length c z)) H' = true) : keysB g cl [.s (.map (some m))] H (fun r h => sortedB gs cl' [r] h K) = true := by
  unfold keysB
  refine new_w fun b H1 h1 hb nb gb => ?_
  unfold sortedB
  refine okK_w hg ?_
  rw [show H1.t.get b = some (.one (.map (some m))) from gb]
  refine mapK_w ((h1.get _ hh).trans hm) (okK_w ?_ (fL_w ?_))
  · rw [allIn_of fun x hx => inR_of (hr x hx).1 (hr x hx).2, ln_eq, Nat.ble_eq_true_of_le hl]; rfl
  · cases e : srtI (keysOf es) with
    | nil =>
      have := hk H1 .nil (.lit 0) 1 h1
      rw [e] at this
      exact this ⟨rfl, .inl ⟨rfl, rfl⟩⟩ fun a ⟨o, h⟩ => by cases h
    | cons k r =>
      refine new_w fun c H2 h2 hc nc gc => ?_
      rw [ln_eq]
      rw [e] at hk
      refine hk H2 (.at c 0) _ 1 (h1.trans h2) ⟨rfl, .inr ⟨c, _, rfl, rfl, hc, gc, by rw [intsA_len]; exact Nat.le_refl _, ?_⟩⟩ fun a ⟨o, h⟩ => ?_
      · rw [List.take_of_length_le (by rw [intsA_len]; exact Nat.le_refl _)]
      · cases h
        exact fun h => nc (h1.has _ h)
theorem TR.onKC {H : AH} {g : Pn} {L : List (Int × Pt)} {O : Pn → Prop} (h : TR H g L O) : ∀ k ∈ aKeys L, On (posOf L k) = true ∧ 0 ≤ k ∧ k ≤ 9223372036854775807 := by
  obtain ⟨m, q, t, _⟩ := h
  exact fun k hk => ⟨on_sq.2 (t.inv.mem k (t.perm.mem_iff.2 hk)), t.kb k hk⟩
def CQCopy (cl : Cl) : Prop := ∀ H g L O K, TR H g L O → (∀ H' g' L' O', Le H H' → TR H' g' L' O' → (∀ a, O' a → ¬ H.has a) → (∀ k, aGet L' k = aGet L k) → K (.s (.ptr (.at g' 0))) H' = true) → cl i_quad_Tree_Copy [.s (.ptr (.at g 0))] H K = true
def CKeysP (cl : Cl) : Prop := ∀ H m es K, H.get m = some (.imap es) → H.has m → (∀ k ∈ keysOf es, 0 ≤ k ∧ k ≤ 9223372036854775807) → es.length ≤ 1000000 →
  (∀ H' p c z, Le H H' → IS H' p (srtI (keysOf es)).length z (srtI (keysOf es)) → (∀ a, ownP p a → ¬ H.has a) → K (.s (.slice p (srtI (keysOf es)).length c z)) H' = true) → cl i_maps_Keys_int_Point [.s (.map (some m))] H (fun r h => cl i_slices_Sorted_int [r] h K) = true
theorem B_quad_Tree_Copy_ {lf : Nat} {cl : Cl} (hlf : 20000 ≤ lf) (hnew : CNewQ cl) (hks : CKeysP cl) (hlay : CLay cl) {H : AH} {g : Pn} {L : List (Int × Pt)} {O : Pn → Prop} {K : AV → AH → Bool} (tr : TR H g L O)
    (hk : ∀ H' g' L' O', Le H H' → TR H' g' L' O' → (∀ a, O' a → ¬ H.has a) → (∀ k, aGet L' k = aGet L k) → K (.s (.ptr (.at g' 0))) H' = true) : B_quad_Tree_Copy lf cl (.at g 0) H K = true := by
  have ton := TR.onKC tr
  have nodL := TR.nodK tr
  obtain ⟨m, q, t, _⟩ := tr
  have llen : (aKeys L).length < 10000 := t.len
  have hLl : L.length = (aKeys L).length := by simp [aKeys]
  unfold B_quad_Tree_Copy
  refine hnew _ _ fun H1 g' O' h1 tr1 z1 => ?_
  rw [asP_]
  simp only [nilK_at, fN_eq, Nat.add_eq, Nat.zero_add]
  have gg1 := (h1.get _ t.has).trans t.get
  have gm1 := (h1.get _ t.hasm).trans t.map
  refine rowK_w gg1 (ldM_w rfl ?_)
  refine hks H1 m (aImg ptV L) _ gm1 (h1.has _ t.hasm) (by rw [keysOf_img]; exact fun k hk => (ton k hk).2) (by rw [aImg_length]; omega) fun H2 p c z h2 is2 own2 => ?_
  rw [asSl_]
  rw [keysOf_img] at *
  have hsl : (srtI (aKeys L)).length = (aKeys L).length := srtI_len _
  have snod : (srtI (aKeys L)).Nodup := (srtI_perm _).nodup_iff.2 nodL
  refine loopX_w (fun x Hx => x.1 = .at g 0 ∧ x.2.1 = .at g' 0 ∧ x.2.2.1 = (p, (srtI (aKeys L)).length, c, z) ∧ x.2.2.2.1 = ((srtI (aKeys L)).length : Int) ∧ Le H Hx ∧ ∃ i : Nat, x.2.2.2.2 = (i : Int) ∧ i ≤ (srtI (aKeys L)).length ∧ ∃ L' O', TR Hx g' L' O' ∧ (∀ a, O' a → ¬ H.has a) ∧
      IS Hx p (srtI (aKeys L)).length z (srtI (aKeys L)) ∧ (∀ a, ownP p a → ¬ O' a) ∧ (∀ k, k ∈ aKeys L' ↔ k ∈ (srtI (aKeys L)).take i) ∧ (∀ k ∈ aKeys L', aGet L' k = some (posOf L k)) ∧ L'.length = i) (fun x => 10000 - x.2.2.2.2.toNat)
    ⟨rfl, rfl, rfl, rfl, h1.trans h2, 0, rfl, by omega, [], O', tr1.le h2, z1, is2, fun a ha h => own2 a ha (TRq.has tr1 a h), fun k => ⟨fun h => (by cases h), fun h => (by simp at h)⟩, fun k h => (by cases h), rfl⟩ (by simp; omega) ?_
  clear tr1 z1 is2 own2 O'
  rintro self ⟨x1, x2, x3, x4, x5⟩ Hx ⟨e1, e2, e3, e4, hL, i, e5, hi, L', O', tr', hz, is, own, keys, vals, ll⟩ ih
  simp only at e1 e2 e3 e4 e5
  subst e1 e2 e3 e4 e5
  simp only [pR_, fB_eq, iLt_dec]
  refine ifA_w (fun hx => ?_) (fun hx => ?_)
  · have hx : i < (srtI (aKeys L)).length := by have := of_decide_eq_true hx; omega
    obtain ⟨g4, cs4, rfl, hh4, hg4, hc4⟩ := is.at (i := i) hx
    simp only [nilK_at, fN_eq, Nat.add_eq, Nat.mul_eq, Nat.zero_add, Nat.mul_one]
    refine idxK_w (by omega) (by omega) (rowK_w hg4 (ldI_w (by rw [Int.toNat_natCast]; exact hc4) ?_))
    have ggx := (hL.get _ t.has).trans t.get
    have gmx := (hL.get _ t.hasm).trans t.map
    refine rowK_w ggx (ldM_w rfl (asMp_w (mapK_w gmx (lkP_w ?_))))
    show asG (.agg (ptC _)) _ = true
    rw [asG_]
    have hmem : (srtI (aKeys L))[i] ∈ aKeys L := (srtI_perm _).mem_iff.1 (List.getElem_mem hx)
    have hnot : (srtI (aKeys L))[i] ∉ aKeys L' := fun h => by
      have h := (keys _).1 h
      obtain ⟨j, hj, e⟩ := List.getElem_of_mem h
      rw [List.getElem_take] at e
      have hji : j < i := by rw [List.length_take] at hj; omega
      exact absurd ((List.getElem_inj snod).1 e) (by omega)
    obtain ⟨on, k0, k1⟩ := ton _ hmem
    refine hlay Hx g' L' (aKeys L') O' _ (posOf L (srtI (aKeys L))[i]) _ tr' hnot on k0 k1 (by simp [aKeys]; omega) fun H3 O3 f3 t3 o3 => ?_
    rw [tup0_, iAdd_]
    have own3 : ∀ a, ownP (.at g4 0) a → ¬ O3 a := fun a ha h => (o3 a h).elim (own a ha) fun h => h (is.own_has a ha)
    refine w64_w (by simp only [Int.ofNat_eq_natCast]; omega) (by simp only [Int.ofNat_eq_natCast]; omega) (ih _ _ ⟨rfl, rfl, rfl, rfl, ⟨fun a ha => f3.has a (hL.has a ha), fun a ha => (f3.get a (hL.has a ha) fun h => hz a h ha).trans (hL.get a ha)⟩, i + 1, by simp, by omega,
      aSet L' (srtI (aKeys L))[i] (posOf L (srtI (aKeys L))[i]), O3, ?_, fun a h => (o3 a h).elim (hz a) fun h hh => h (hL.has a hh), is.fr f3 own, own3, fun k => ?_, fun k hk' => ?_, ?_⟩ (by simp; omega))
    · refine TRq.permute t3 ?_
      rw [aKeys_set_new _ _ hnot]
      exact (List.perm_append_singleton _ _).symm
    · rw [aKeys_set_new _ _ hnot, List.take_succ_eq_append_getElem hx, List.mem_append, List.mem_append, keys k]
    · rw [aKeys_set_new _ _ hnot, List.mem_append, List.mem_singleton] at hk'
      by_cases e : k = (srtI (aKeys L))[i]
      · rw [e, aGet_set_same]
      · rw [aGet_set_ne _ _ e]; exact vals k (hk'.resolve_right e)
    · have := congrArg List.length (aKeys_set_new L' (posOf L (srtI (aKeys L))[i]) hnot)
      simp only [aKeys, List.length_map, List.length_append, List.length_cons, List.length_nil] at this
      simp only [aKeys] at *
      omega
  · have hx : i = (srtI (aKeys L)).length := by have := of_decide_eq_false hx; omega
    rw [hx, List.take_length] at keys
    refine hk _ _ _ _ hL tr' hz fun k => ?_
    by_cases hm : k ∈ aKeys L
    · rw [vals k ((keys k).2 ((srtI_perm _).mem_iff.2 hm))]
      obtain ⟨v, hv⟩ := Option.isSome_iff_exists.1 (mem_get.1 hm)
      unfold posOf
      rw [hv]; rfl
    · rw [aGet_none.2 hm, aGet_none.2 fun h => hm ((srtI_perm _).mem_iff.1 ((keys k).1 h))]
def CCloneT (cl : Cl) : Prop := ∀ H m es K, H.get m = some (.imap es) → (∀ g H', Le H H' → H'.has g → ¬ H.has g → H'.get g = some (.imap es) → K (.s (.map (some g))) H' = true) → cl i_maps_Clone_int_Thing [.s (.map (some m))] H K = true
theorem cloneB_ {cl : Cl} {H : AH} {m : Pn} {es : List (Int × AV)} {K : AV → AH → Bool} (hm : H.get m = some (.imap es)) (hk : ∀ g H', Le H H' → H'.has g → ¬ H.has g → H'.get g = some (.imap es) → K (.s (.map (some g))) H' = true) : cloneB cl [.s (.map (some m))] H K = true := by
  unfold cloneB
  exact mapK_w hm (new_w fun g H' h1 h2 h3 h4 => hk g H' h1 h2 h3 h4)
def CTCopy (cl : Cl) : Prop := ∀ H g L O K, TT H g L O → (∀ H' g' O', Le H H' → TT H' g' L O' → (∀ a, O' a → ¬ H.has a) → K (.s (.ptr (.at g' 0))) H' = true) → cl i_table_Table_Copy [.s (.ptr (.at g 0))] H K = true
theorem B_table_Table_Copy_ {lf : Nat} {cl : Cl} (hcl : CCloneT cl) (hq : CQCopy cl) {H : AH} {g : Pn} {L : List (Int × Th)} {O : Pn → Prop} {K : AV → AH → Bool} (tt : TT H g L O)
    (hk : ∀ H' g' O', Le H H' → TT H' g' L O' → (∀ a, O' a → ¬ H.has a) → K (.s (.ptr (.at g' 0))) H' = true) : B_table_Table_Copy lf cl (.at g 0) H K = true := by
  obtain ⟨m, q, Lq, Oq, tb, rfl⟩ := tt
  unfold B_table_Table_Copy
  simp only [nilK_at, fN_eq, Nat.add_eq, Nat.zero_add]
  refine rowK_w tb.get (ldM_w rfl (getK_w tb.get (rowK_w tb.get (ldP_w rfl ?_))))
  refine hcl H m _ _ tb.map fun m' H1 h1 hm1 nm gm1 => ?_
  have tb1 := tb.le h1
  refine okK_w (kSame_p tb1.get rfl rfl) ?_
  show cl i_quad_Tree_Copy _ H1 _ = true
  refine hq H1 q Lq Oq _ tb1.tr fun H2 q' L' O' h2 t2 z2 e2 => ?_
  rw [asP_]
  refine new_w fun g' H3 h3 hg3 ng gg3 => ?_
  have hm2 := h2.has _ hm1
  have ngm : g' ≠ m' := fun e => ng (e ▸ hm2)
  refine hk H3 g' (ownT g' m' O') (h1.trans (h2.trans h3)) ⟨m', q', L', O', ⟨hg3, gg3, h3.has _ hm2, (h3.get _ hm2).trans ((h2.get _ hm1).trans gm1), t2.le h3, ngm, fun h => ng (TRq.has t2 _ h), fun h => z2 _ h hm1, tb.nod, fun k => by rw [e2, tb.pos], tb.ok⟩, rfl⟩ fun a ha => ?_
  rcases ha with rfl | rfl | ha
  · exact fun h => ng (h2.has _ (h1.has _ h))
  · exact nm
  · exact fun h => z2 _ ha (h1.has _ h)
end Go.Proofs
end
section
/- Copies: of the world. -/
namespace Go.Proofs
open Go Go.Vw Go.Vw.Ev
set_option linter.unusedVariables false
set_option linter.unusedSimpArgs false

def CWCopy (cl : Cl) : Prop := ∀ H w L O K, WW H w L O → (∀ H' w' O', Le H H' → WW H' w' L O' → (∀ a, O' a → ¬ H.has a) → K (.s (.ptr (.at w' 0))) H' = true) → cl i_world_World_Copy [.s (.ptr (.at w 0))] H K = true
theorem B_world_World_Copy_ {lf : Nat} {cl : Cl} (ht : CTCopy cl) {H : AH} {w : Pn} {L : List (Int × Th)} {O : Pn → Prop} {K : AV → AH → Bool} (ww : WW H w L O)
    (hk : ∀ H' w' O', Le H H' → WW H' w' L O' → (∀ a, O' a → ¬ H.has a) → K (.s (.ptr (.at w' 0))) H' = true) : B_world_World_Copy lf cl (.at w 0) H K = true := by
  obtain ⟨g, Og, h1, h2, h3, h4, rfl⟩ := ww
  unfold B_world_World_Copy
  simp only [nilK_at, fN_eq, Nat.add_eq, Nat.zero_add]
  refine rowK_w h2 (ldP_w rfl (ht H g L Og _ h3 fun H1 g' O' l1 t1 z1 => ?_))
  rw [asP_]
  refine new_w fun w' H2 l2 hw nw gw => ?_
  refine hk H2 w' (ownW w' O') (l1.trans l2) ⟨g', O', hw, gw, t1.le l2, fun h => nw (t1.has _ h), rfl⟩ fun a ha => ?_
  rcases ha with rfl | ha
  · exact fun h => nw (l1.has _ h)
  · exact z1 a ha
end Go.Proofs
end
section
/- WorldApart: commands of unlike things may be done in either order. -/
namespace Go.Proofs
open Go Go.Vw Go.Vw.Ev
set_option linter.unusedVariables false
set_option linter.unusedSimpArgs false

/-! What a command does to one number. -/
def keyC (c : Cm) (x : Int) : Int := if c.kind = 1 then x else c.id
noncomputable def eC (c : Cm) (x : Int) (o : Option Th) : Int :=
  if IsCm c = false ∨ 4 < c.kind then 11 else
  if c.kind = 1 then (if On c.pt = false then 14 else if (!o.isSome && (decide (0 ≤ x) && decide (x ≤ 1000000))) = true then 0 else 11) else
  if o.isSome = false then 15 else
  if c.kind = 2 ∧ On c.pt = false then 14 else
  if c.kind = 3 ∧ (c.which < 0 ∨ 4 ≤ c.which) then 18 else 0
theorem wE_no {L : List (Int × Th)} {c : Cm} {x e : Int} (h : checkE L c = e) (h0 : e ≠ 0) (h1 : e ≠ 16) : wE L c x = e := by
  unfold wE
  rw [if_neg (fun go : wGo L c => go.elim (fun g => h0 (h.symm.trans g)) fun g => h1 (h.symm.trans g.1)), h]
theorem wE_eq {L : List (Int × Th)} {c : Cm} {x : Int} (hl : L.length < 200) : wE L c x = eC c x (aGet L (keyC c x)) := by
  unfold eC
  by_cases n0 : IsCm c = false ∨ 4 < c.kind
  · have ck : checkE L c = 11 := by unfold checkE; rw [if_pos n0]
    rw [if_pos n0]
    exact wE_no ck (by decide) (by decide)
  rw [if_neg n0]
  by_cases k1 : c.kind = 1
  · rw [if_pos k1]
    unfold keyC
    rw [if_pos k1]
    cases ho : On c.pt with
    | false =>
      have ck : checkE L c = 14 := by unfold checkE; rw [if_neg n0, if_pos ⟨k1, by rw [ofE_no ho]; decide⟩, ofE_no ho]
      rw [if_pos rfl]
      exact wE_no ck (by decide) (by decide)
    | true =>
      have ck : checkE L c = 0 ∨ checkE L c = 16 := by
        unfold checkE
        rw [if_neg n0, if_neg (fun h => h.2 (ofE_of ho))]
        split
        · exact .inr rfl
        · first | exact .inl rfl | exact .inl (if_pos k1)
      have go : wGo L c := ck.imp (fun h => h) fun h => ⟨h, .inr hl⟩
      rw [if_neg (by decide)]
      unfold wE
      rw [if_pos go]
      unfold doneB canPut
      rw [if_pos k1]
  · rw [if_neg k1]
    unfold keyC
    rw [if_neg k1]
    have c1 : ∀ {P : Prop} {e f : Int} [Decidable (c.kind = 1 ∧ P)], (if c.kind = 1 ∧ P then e else f) = f := fun {P e f} _ => if_neg fun h => k1 h.1
    have hd : doneB L c x = true := by unfold doneB; rw [if_neg k1]
    cases hs : (aGet L c.id).isSome with
    | false =>
      have ck : checkE L c = 15 := by unfold checkE; rw [if_neg n0, if_neg (fun h => k1 h.1), if_neg (fun h => k1 h.1), if_neg k1, if_pos hs]
      rw [if_pos rfl]
      exact wE_no ck (by decide) (by decide)
    | true =>
      rw [if_neg (by decide)]
      by_cases k2 : c.kind = 2
      · cases ho : On c.pt with
        | false =>
          have ck : checkE L c = 14 := by
            unfold checkE
            rw [if_neg n0, if_neg (fun h => k1 h.1), if_neg (fun h => k1 h.1), if_neg k1, if_neg (by rw [hs]; decide), if_pos ⟨k2, by rw [ofE_no ho]; decide⟩, ofE_no ho]
          rw [if_pos ⟨k2, rfl⟩]
          exact wE_no ck (by decide) (by decide)
        | true =>
          have ck : checkE L c = 0 ∨ checkE L c = 16 := by
            unfold checkE
            rw [if_neg n0, if_neg (fun h => k1 h.1), if_neg (fun h => k1 h.1), if_neg k1, if_neg (by rw [hs]; decide), if_neg (fun h => h.2 (ofE_of ho))]
            split
            · exact .inr rfl
            · first | exact .inl rfl | exact .inl (if_neg fun h => by have := h.1; omega)
          have go : wGo L c := ck.imp (fun h => h) fun h => ⟨h, .inl k1⟩
          rw [if_neg (fun h => absurd h.2 (by decide)), if_neg (fun h => by have := h.1; omega)]
          unfold wE
          rw [if_pos go, if_pos hd]
      · rw [if_neg (fun h => k2 h.1)]
        by_cases k3 : c.kind = 3 ∧ (c.which < 0 ∨ 4 ≤ c.which)
        · have ck : checkE L c = 18 := by
            unfold checkE
            rw [if_neg n0, if_neg (fun h => k1 h.1), if_neg (fun h => k1 h.1), if_neg k1, if_neg (by rw [hs]; decide), if_neg (fun h => k2 h.1), if_neg (fun h => k2 h.1), if_pos k3]
          rw [if_pos k3]
          exact wE_no ck (by decide) (by decide)
        · have ck : checkE L c = 0 := by
            unfold checkE
            rw [if_neg n0, if_neg (fun h => k1 h.1), if_neg (fun h => k1 h.1), if_neg k1, if_neg (by rw [hs]; decide), if_neg (fun h => k2 h.1), if_neg (fun h => k2 h.1), if_neg k3]
          rw [if_neg k3]
          unfold wE
          rw [if_pos (.inl ck), if_pos hd]
/-- What stands behind it under its number. -/
def uC (c : Cm) (x : Int) (o : Option Th) : Option Th :=
  if c.kind = 1 then some (putT c x) else if c.kind = 2 then some { o.getD th0 with pt := c.pt } else if c.kind = 3 then some (setF (o.getD th0) c.which c.v) else none
theorem e0_put {c : Cm} {x : Int} {o : Option Th} (h : eC c x o = 0) (k1 : c.kind = 1) : (!o.isSome && (decide (0 ≤ x) && decide (x ≤ 1000000))) = true := by
  unfold eC at h
  split at h
  · exact absurd h (by decide)
  try rw [if_pos k1] at h
  split at h
  · exact absurd h (by decide)
  split at h
  · assumption
  · exact absurd h (by decide)
theorem wL_get {L : List (Int × Th)} {c : Cm} {x : Int} (hl : L.length < 200) (k : Int) : aGet (wL L c x) k = if eC c x (aGet L (keyC c x)) = 0 ∧ k = keyC c x then uC c x (aGet L (keyC c x)) else aGet L k := by
  unfold wL
  rw [wE_eq hl]
  by_cases he : eC c x (aGet L (keyC c x)) = 0
  · rw [if_pos he]
    have set : ∀ v, doneL L c x = aSet L (keyC c x) v → uC c x (aGet L (keyC c x)) = some v → aGet (doneL L c x) k = if eC c x (aGet L (keyC c x)) = 0 ∧ k = keyC c x then uC c x (aGet L (keyC c x)) else aGet L k := fun v h1 h2 => by
      rw [h1, h2]
      by_cases e : k = keyC c x
      · rw [if_pos ⟨he, e⟩, e, aGet_set_same]
      · rw [if_neg fun h => e h.2, aGet_set_ne _ _ e]
    by_cases k1 : c.kind = 1
    · have ek : keyC c x = x := by unfold keyC; rw [if_pos k1]
      have hp := e0_put he k1
      rw [ek] at hp
      exact set (putT c x) (by rw [ek]; unfold doneL; rw [if_pos k1, if_pos (show canPut L x = true from hp)]) (by unfold uC; rw [if_pos k1])
    · have ek : keyC c x = c.id := by unfold keyC; rw [if_neg k1]
      by_cases k2 : c.kind = 2
      · exact set _ (by rw [ek]; unfold doneL; rw [if_neg k1, if_pos k2]) (by rw [ek]; unfold uC; rw [if_neg k1, if_pos k2]; rfl)
      by_cases k3 : c.kind = 3
      · exact set _ (by rw [ek]; unfold doneL; rw [if_neg k1, if_neg k2, if_pos k3]) (by rw [ek]; unfold uC; rw [if_neg k1, if_neg k2, if_pos k3]; rfl)
      have h1 : doneL L c x = aDel L (keyC c x) := by rw [ek]; unfold doneL; rw [if_neg k1, if_neg k2, if_neg k3]
      have h2 : uC c x (aGet L (keyC c x)) = none := by unfold uC; rw [if_neg k1, if_neg k2, if_neg k3]
      rw [h1, h2]
      by_cases e : k = keyC c x
      · rw [if_pos ⟨he, e⟩, e, aGet_del_same]
      · rw [if_neg fun h => e h.2, aGet_del_ne _ e]
  · rw [if_neg he, if_neg fun h => he h.1]
theorem wN_eq {L : List (Int × Th)} {c : Cm} {x : Int} (hl : L.length < 200) : wN L c x = if eC c x (aGet L (keyC c x)) = 0 then keyC c x else 0 := by
  unfold wN
  rw [wE_eq hl]
  by_cases he : eC c x (aGet L (keyC c x)) = 0
  · rw [if_pos he, if_pos he]
    by_cases k1 : c.kind = 1
    · have ek : keyC c x = x := by unfold keyC; rw [if_pos k1]
      have hp := e0_put he k1
      rw [ek] at hp ⊢
      unfold doneN
      rw [if_pos k1, if_pos (show canPut L x = true from hp)]
    · unfold keyC doneN
      rw [if_neg k1, if_neg k1]
  · rw [if_neg he, if_neg he]
theorem aSet_lenW (L : List (Int × Th)) (k : Int) (v : Th) : (aSet L k v).length ≤ L.length + 1 := by
  induction L with
  | nil => simp [aSet]
  | cons x r ih => unfold aSet; split
                   · simp
                   · simp only [List.length_cons]; omega
theorem aDel_lenW (L : List (Int × Th)) (k : Int) : (aDel L k).length ≤ L.length := by
  induction L with
  | nil => simp [aDel]
  | cons x r ih => unfold aDel; split
                   · simp only [List.length_cons]; omega
                   · simp only [List.length_cons]; omega
theorem wL_len (L : List (Int × Th)) (c : Cm) (x : Int) : (wL L c x).length ≤ L.length + 1 := by
  unfold wL doneL
  split
  · split
    · split
      · exact aSet_lenW _ _ _
      · omega
    split
    · exact aSet_lenW _ _ _
    split
    · exact aSet_lenW _ _ _
    · exact Nat.le_trans (aDel_lenW _ _) (by omega)
  · omega
theorem WW.nod {H : AH} {w : Pn} {L : List (Int × Th)} {O : Pn → Prop} (h : WW H w L O) : (aKeys L).Nodup := by
  obtain ⟨g, Og, _, _, t, _⟩ := h
  obtain ⟨m, q, Lq, Oq, tb, _⟩ := t
  exact tb.nod
noncomputable def viewW (L : List (Int × Th)) : List Th := (allT L).map (thOf L)
theorem view_eq {L L' : List (Int × Th)} (hn : (aKeys L).Nodup) (hn' : (aKeys L').Nodup) (hg : ∀ k, aGet L k = aGet L' k) : viewW L = viewW L' := by
  unfold viewW allT
  have hp : (aKeys L).Perm (aKeys L') := (List.perm_ext_iff_of_nodup hn hn').2 fun k => by rw [mem_get, mem_get, hg]
  rw [srtI_perm_eq hp]
  exact List.map_congr_left fun k _ => by unfold thOf; rw [hg]
/-- Either order. -/
theorem apart_ok {L : List (Int × Th)} {a b : Cm} {x y : Int} (hl : L.length < 100) (hne : keyC a x ≠ keyC b y) :
    wE (wL L b y) a x = wE L a x ∧ wE (wL L a x) b y = wE L b y ∧ wN (wL L b y) a x = wN L a x ∧ wN (wL L a x) b y = wN L b y ∧ ∀ k, aGet (wL (wL L a x) b y) k = aGet (wL (wL L b y) a x) k := by
  have la := wL_len L a x
  have lb' := wL_len L b y
  have ga : aGet (wL L b y) (keyC a x) = aGet L (keyC a x) := by rw [wL_get (by omega), if_neg fun h => hne h.2]
  have gb : aGet (wL L a x) (keyC b y) = aGet L (keyC b y) := by rw [wL_get (by omega), if_neg fun h => hne h.2.symm]
  refine ⟨by rw [wE_eq (by omega), wE_eq (by omega), ga], by rw [wE_eq (by omega), wE_eq (by omega), gb], by rw [wN_eq (by omega), wN_eq (by omega), ga], by rw [wN_eq (by omega), wN_eq (by omega), gb], fun k => ?_⟩
  rw [wL_get (by omega), gb, wL_get (c := a) (by omega) k, wL_get (L := wL L b y) (by omega), ga, wL_get (c := b) (by omega) k]
  by_cases e1 : eC b y (aGet L (keyC b y)) = 0 ∧ k = keyC b y
  · rw [if_pos e1, if_pos e1, if_neg fun h => hne (h.2.symm.trans e1.2)]
  · rw [if_neg e1, if_neg e1]
end Go.Proofs
end
section
/- WorldApart: the walk. -/
namespace Go.Proofs
open Go Go.Vw Go.Vw.Ev
set_option linter.unusedVariables false
set_option linter.unusedSimpArgs false

def CFewC12 (cl : Cl) : Prop := ∀ c H K, (∀ H' b, Le H H' → K (.s (.bool b)) H' = true) → cl i_law12_fewCmd [.agg (cmC c)] H K = true
theorem cmC_strW (c : Cm) : ∀ k : Nat, k < 4 → (cmC c)[6 + k * 2 + 1]? = some (.str (c.fs k).s) := lt4 rfl rfl rfl rfl
theorem B_law12_fewCmd_ {lf : Nat} {cl : Cl} (hlf : 10 ≤ lf) {c : Cm} {H : AH} {K : AV → AH → Bool} (hk : ∀ H' b, Le H H' → K (.s (.bool b)) H' = true) : B_law12_fewCmd lf cl (cmC c) H K = true := by
  unfold B_law12_fewCmd
  refine new_w fun g H1 h1 hg ng gg => ?_
  refine loopX_w (fun x Hx => x.1 = .at g 0 ∧ Hx = H1 ∧ ∃ i : Nat, x.2 = (i : Int) ∧ i ≤ 4) (fun x => 4 - x.2.toNat) ⟨rfl, rfl, 0, rfl, by omega⟩ (by simp; omega) ?_
  rintro self ⟨x1, x2⟩ H2 ⟨e1, rfl, i, e2, hi⟩ ih
  simp only at e1 e2
  subst e1 e2
  simp only [pR_, fB_eq, iLt_dec]
  refine ifA_w (fun hx => ?_) (fun hx => ?_)
  · have hx : i < 4 := by have h : (i : Int) < 4 := of_decide_eq_true hx; omega
    simp only [nilK_at, fN_eq, Nat.add_eq, Nat.zero_add]
    refine idxK_w (by omega) (by omega) ?_
    simp only [Int.toNat_natCast, Nat.mul_eq]
    refine rowK_w gg (ldStr_w (cmC_strW c i hx) ?_)
    refine ifA_w (fun _ => hk _ _ h1) (fun _ => ?_)
    rw [iAdd_]
    exact w64_w (by simp only [Int.ofNat_eq_natCast]; omega) (by simp only [Int.ofNat_eq_natCast]; omega) (ih _ _ ⟨rfl, rfl, i + 1, by simp, by omega⟩ (by simp; omega))
  · simp only [nilK_at, fN_eq, Nat.add_eq, Nat.zero_add]
    exact rowK_w gg (ldStr_w (p := c.v.s) rfl (hk _ _ h1))
/-! Rows of commands. -/
def cmsC (l : List Cm) : List AS := l.flatMap cmC
theorem cmsC_len : ∀ l : List Cm, (cmsC l).length = l.length * 22
  | [] => rfl
  | r :: l => by have := cmsC_len l; simp only [cmsC, List.flatMap_cons, List.length_append] at *; rw [this, cmC_len, List.length_cons]; omega
theorem cmsC_at : ∀ (l : List Cm) (i : Nat) (h : i < l.length), ((cmsC l).drop (i * 22)).take 22 = cmC l[i]
  | p :: l, 0, _ => rfl
  | p :: l, i + 1, h => by
    have := cmsC_at l i (by simpa using h)
    simp only [List.getElem_cons_succ, cmsC, List.flatMap_cons] at *
    rw [← this, show (i + 1) * 22 = (cmC p).length + i * 22 by rw [cmC_len]; omega, ← List.drop_drop, List.drop_left]
def InC (H : AH) (p : AP) (n : Nat) (ts : List Cm) : Prop := ts.length = n ∧ (n ≠ 0 → ∃ g, p = .at g 0 ∧ H.has g ∧ H.get g = some (.fix (cmsC ts)))
theorem InC.le {H H' : AH} {p : AP} {n : Nat} {ts : List Cm} (h : InC H p n ts) (k : Le H H') : InC H' p n ts :=
  ⟨h.1, fun hn => (h.2 hn).imp fun g hg => ⟨hg.1, k.has g hg.2.1, (k.get g hg.2.1).trans hg.2.2⟩⟩
theorem InC.read {H : AH} {p : AP} {n : Nat} {ts : List Cm} (h : InC H p n ts) {i : Nat} (hi : i < n) {K : List AS → Bool} (hk : K (cmC (ts[i]'(by rw [h.1]; exact hi))) = true) :
    nilK p (fun g o => idxK (i : Int) n fun m => fN (Nat.add o (Nat.mul m 22)) fun o => rowK H g fun cs => ldG cs o 22 K) = true := by
  obtain ⟨g, rfl, hg, hrow⟩ := h.2 (by omega)
  simp only [nilK_at, fN_eq, Nat.add_eq, Nat.mul_eq, Nat.zero_add]
  have hl : (cmsC ts).length = n * 22 := by rw [cmsC_len, h.1]
  exact idxK_w (by omega) (by omega) (rowK_wf hrow (ldG_we (by rw [hl, Int.toNat_natCast]; omega) (by decide) (by rw [Int.toNat_natCast]; exact cmsC_at ts i _) hk))
def CWOf (cl : Cl) : Prop := ∀ H p n c z1 q m d z2 ts ids K, InC H p n ts → InI H q m .i64 ids → n ≤ 30 → (∀ H' w L O, Le H H' → WW H' w L O → (∀ a, O a → ¬ H.has a) → L.length ≤ n → K (.s (.ptr (.at w 0))) H' = true) → cl i_world_Of [.s (.slice p n c z1), .s (.slice q m d z2)] H K = true
theorem B_world_Of_ {lf : Nat} {cl : Cl} (hlf : 1000 ≤ lf) (hnew : CWNew cl) (hdo : CWDo cl) {H : AH} {p q : AP} {n m z1 z2 : Nat} {c d : ACap} {ts : List Cm} {ids : List Int} {K : AV → AH → Bool} (hI : InC H p n ts) (hJ : InI H q m .i64 ids) (hn : n ≤ 30)
    (hk : ∀ H' w L O, Le H H' → WW H' w L O → (∀ a, O a → ¬ H.has a) → L.length ≤ n → K (.s (.ptr (.at w 0))) H' = true) : B_world_Of lf cl p n c z1 q m d z2 H K = true := by
  unfold B_world_Of
  refine hnew _ _ fun H1 w O h1 w1 zz1 => ?_
  rw [asP_]
  refine loopX_w (fun x Hx => x.1 = (q, m, d, z2) ∧ x.2.1 = .at w 0 ∧ x.2.2.1 = (p, n, c, z1) ∧ x.2.2.2.1 = (n : Int) ∧ ∃ i : Nat, x.2.2.2.2 = (i : Int) ∧ i ≤ n ∧ Le H Hx ∧ ∃ L O, WW Hx w L O ∧ (∀ a, O a → ¬ H.has a) ∧ L.length ≤ i) (fun x => 40 - x.2.2.2.2.toNat)
    ⟨rfl, rfl, rfl, rfl, 0, rfl, by omega, h1, [], O, w1, zz1, by simp⟩ (by simp; omega) ?_
  clear w1 zz1 h1 O H1
  rintro self ⟨x1, x2, x3, x4, x5⟩ H1 ⟨e1, e2, e3, e4, i, e5, hi, hL1, L, O, ww, hz, hl⟩ ih
  simp only at e1 e2 e3 e4 e5
  subst e1 e2 e3 e4 e5
  simp only [pR_, fB_eq, iLt_dec]
  refine ifA_w (fun hx => ?_) (fun hx => hk _ _ _ _ hL1 ww hz (by omega))
  have hx : i < n := by have := of_decide_eq_true hx; omega
  refine (hI.le hL1).read hx (tmp_w rfl rfl fun gc H2 h2 hc nc gc2 => ?_)
  generalize ts[i]'(by rw [hI.1]; exact hx) = cmd at *
  have hL2 := hL1.trans h2
  refine joinX_w (fun x Hx => Hx = H2 ∧ ∃ id : Int, x = ((q, m, d, z2), .at w 0, .at gc 0, id, (p, n, c, z1), (n : Int), (i : Int))) ?_ ?_
  · rintro x Hx ⟨rfl, id, rfl⟩
    simp only [pR_, nilK_at]
    refine rowK_w gc2 (ldG_we (ys := cmC cmd) (lb rfl) (lb rfl) rfl ?_)
    refine hdo Hx w L O cmd id _ (ww.le h2) (by omega) fun H3 O3 f3 w3 o3 => ?_
    rw [tup2_]
    refine arI_w (arI_w ?_)
    have := wL_len L cmd id
    exact w64_w (by simp only [iAdd_, Int.ofNat_eq_natCast]; omega) (by simp only [iAdd_, Int.ofNat_eq_natCast]; omega) (ih _ _ ⟨rfl, rfl, rfl, rfl, i + 1, by simp [iAdd_], by omega, fr_leW hL2 f3 hz, _, O3, w3, fun a h => (o3 a h).elim (hz a) fun h hh => h (hL2.has _ hh), by omega⟩ (by simp [iAdd_]; omega))
  · intro J hJ'
    refine ifA_w (fun hy => ?_) (fun _ => hJ' _ _ ⟨rfl, _, rfl⟩)
    have hy : i < m := by have := of_decide_eq_true hy; simp only [Int.ofNat_eq_natCast] at this; omega
    exact (hJ.le hL2).read hy (hJ' _ _ ⟨rfl, _, rfl⟩)
theorem Sl.inTW {H0 H : AH} {p : AP} {z : Nat} {L : List (Int × Th)} (h : Sl H0 H p (allT L).length z (thsC ((allT L).map (thOf L))) 11) : InT H p (allT L).length (viewW L) := Sl.inT h (List.length_map _)
end Go.Proofs
end
section
/- The reference's rows of things: what a thing must be, with one, without one, those in a rectangle; and rows that rise. -/
namespace Go.Proofs
open Go Go.Vw Go.Vw.Ev
set_option linter.unusedVariables false
set_option linter.unusedSimpArgs false

/-! What a thing must be. -/
def CIsF6 (cl : Cl) : Prop := ∀ f H K, (∀ H', Le H H' → K (.s (.bool (IsF f))) H' = true) → cl i_ref6_IsField [.agg (fdC f)] H K = true
theorem B_ref6_IsField_ {lf : Nat} {cl : Cl} {f : Fd} {H : AH} {K : AV → AH → Bool} (hk : ∀ H', Le H H' → K (.s (.bool (IsF f))) H' = true) : B_ref6_IsField lf cl (fdC f) H K = true := by
  unfold B_ref6_IsField
  refine new_w fun g H1 h1 hg ng gg => ?_
  have hs : ∀ K : List Nat → Bool, K f.s = true → rowK H1 g (fun cs => ldStr cs 1 K) = true := fun K h => rowK_w gg (ldStr_w (p := f.s) rfl h)
  refine rowK_w gg (ldI_w (n := f.n) rfl ?_)
  have k1 := hk H1 h1
  simp only [fB_eq, fN_eq, iEq_dec, iLe_dec, sEq_dec, ln_eq] at *
  have e12 : decide ((Int.ofNat f.s.length) ≤ Int.ofNat 12) = decide (f.s.length ≤ 12) := by congr 1; simp only [Int.ofNat_eq_natCast]; exact propext (by omega)
  unfold IsF at k1
  refine ifA_w (fun h => ?_) (fun h => ?_)
  · replace h : decide (f.n = 0) = true := h
    refine hs _ ?_
    rw [h, Bool.true_or, Bool.true_and] at k1
    rw [e12]; exact k1
  · replace h : decide (f.n = 0) = false := h
    refine hs _ ?_
    rw [h, Bool.false_or] at k1
    refine ifA_w (fun h2 => hs _ ?_) (fun h2 => ?_)
    · rw [h2, Bool.true_and] at k1
      rw [e12]; exact k1
    · rw [h2, Bool.false_and] at k1
      exact k1
theorem thC_fd6 (t : Th) : ∀ k : Nat, k < 4 → ((thC t).drop (3 + k * 2)).take 2 = fdC (t.fs k) := lt4 rfl rfl rfl rfl
def okT (t : Th) : Nat → Bool
  | 0 => decide (0 ≤ t.id) && (decide (t.id ≤ 1000000) && On t.pt)
  | i + 1 => okT t i && IsF (t.fs i)
theorem okT_all (t : Th) : okT t 4 = IsTh t := by
  unfold IsTh
  show (((((decide (0 ≤ t.id) && (decide (t.id ≤ 1000000) && On t.pt)) && IsF t.f0) && IsF t.f1) && IsF t.f2) && IsF t.f3) = _
  cases decide (0 ≤ t.id) <;> cases decide (t.id ≤ 1000000) <;> cases On t.pt <;> cases IsF t.f0 <;> cases IsF t.f1 <;> cases IsF t.f2 <;> cases IsF t.f3 <;> rfl
/-! Those in a rectangle. -/
theorem Sl.base {H0 H1 H : AH} {p : AP} {n z : Nat} {cs : List AS} {sz : Nat} (h : Sl H1 H p n z cs sz) (k : Le H0 H1) : Sl H0 H p n z cs sz :=
  ⟨h.len, h.rep.imp id fun ⟨g, h1, h2, h3, h4, h5⟩ => ⟨g, h1, h2, h3, h4, fun h => h5 (k.has _ h)⟩⟩
def inP (r : Rc) (t : Th) : Bool := RIn r t.pt
def CSeen (cl : Cl) : Prop := ∀ H p n c z ts r K, InT H p n ts → n < 10000 → (∀ H' p' c' z', Le H H' → Sl H H' p' (ts.filter (inP r)).length z' (thsC (ts.filter (inP r))) 11 → K (.s (.slice p' (ts.filter (inP r)).length c' z')) H' = true) → cl i_ref6_Seen [.s (.slice p n c z), .agg (rcC r)] H K = true
theorem InT.pt {H : AH} {p : AP} {n : Nat} {ts : List Th} (h : InT H p n ts) {i : Nat} (hi : i < n) : ((thsC ts).drop (i * 11 + 1)).take 2 = ptC (ts[i]'(by rw [h.1]; exact hi)).pt := by
  have ha := thsC_at ts i (by rw [h.1]; exact hi)
  have := congrArg (fun l => (l.drop 1).take 2) ha
  simp only [List.drop_take, List.drop_drop, List.take_take] at this
  rw [show i * 11 + 1 = i * 11 + 1 from rfl]
  exact this
theorem B_ref6_Seen_ {lf : Nat} {cl : Cl} (hlf : 100000 ≤ lf) (hin : CRcPtB i_ref3_In RIn cl) {H : AH} {p : AP} {n zz : Nat} {c : ACap} {ts : List Th} {r : Rc} {K : AV → AH → Bool} (hp : InT H p n ts) (hn : n < 10000)
    (hk : ∀ H' p' c' z', Le H H' → Sl H H' p' (ts.filter (inP r)).length z' (thsC (ts.filter (inP r))) 11 → K (.s (.slice p' (ts.filter (inP r)).length c' z')) H' = true) : B_ref6_Seen lf cl p n c zz (rcC r) H K = true := by
  unfold B_ref6_Seen
  have hlt := hp.1
  refine new_w fun gr H1 h1 hgr ngr ggr => ?_
  replace hp := hp.le h1
  refine loopX_w (fun x Hx => x.1 = (p, n, c, zz) ∧ x.2.1 = .at gr 0 ∧ Le H1 Hx ∧ ∃ i : Nat, x.2.2.2 = (i : Int) ∧ i ≤ n ∧ ∃ p1 c1 z1, x.2.2.1 = (p1, ((ts.take i).filter (inP r)).length, c1, z1) ∧ Sl H1 Hx p1 ((ts.take i).filter (inP r)).length z1 (thsC ((ts.take i).filter (inP r))) 11) (fun x => n - x.2.2.2.toNat)
    ⟨rfl, rfl, Le.refl _, 0, rfl, by omega, .nil, _, _, rfl, Sl.nil⟩ (by simp; omega) ?_
  rintro self ⟨x1, x2, x3, x4⟩ Hx ⟨e1, e2, hL, i, e4, hi, p1, c1, z1, e3, sl⟩ ih
  simp only at e1 e2 e3 e4
  subst e1 e2 e3 e4
  simp only [pR_, fB_eq, iLt_dec]
  refine ifA_w (fun hx => ?_) (fun hx => ?_)
  · have hx : i < n := by have := of_decide_eq_true hx; simp only [Int.ofNat_eq_natCast] at this; omega
    have hpt := hp.pt hx
    obtain ⟨g1, rfl, hh1, r1, l1, a1, i1⟩ := hp.at hx
    have r1x : ∀ {Hy}, Le H1 Hy → Hy.get g1 = some (.fix (thsC ts)) ∨ Hy.get g1 = some (.row (thsC ts)) := fun k => r1.imp (fun e => (k.get _ hh1).trans e) (fun e => (k.get _ hh1).trans e)
    simp only [nilK_at, fN_eq, Nat.add_eq, Nat.mul_eq, Nat.zero_add, Nat.add_zero]
    refine rowK_w ((hL.get _ hgr).trans ggr) (ldG_we (ys := rcC r) (Nat.le_refl 4) (by decide) rfl ?_)
    refine idxK_w (by omega) (by omega) (rowK_wo (r1x hL) (ldG_we (ys := ptC (ts[i]'(by omega)).pt) (by rw [Int.toNat_natCast]; omega) (by decide) (by rw [Int.toNat_natCast]; exact hpt) ?_))
    refine hin _ _ _ _ fun H2 h2 => arB_w ?_
    have hL2 := hL.trans h2
    have tk : (ts.take (i + 1)).filter (inP r) = (ts.take i).filter (inP r) ++ (if inP r (ts[i]'(by omega)) = true then [ts[i]'(by omega)] else []) := by
      rw [List.take_succ_eq_append_getElem (by omega), List.filter_append, List.filter_cons, List.filter_nil]
    have lb10 : ((ts.take i).filter (inP r)).length ≤ i := Nat.le_trans (List.length_filter_le _ _) (by simp; omega)
    refine ifA_w (fun h => ?_) (fun h => ?_)
    · have hne : inP r (ts[i]'(by omega)) = true := h
      rw [if_pos hne] at tk
      refine idxK_w (by omega) (by omega) (rowK_wo (r1x hL2) (ldG_we (ys := thC (ts[i]'(by omega))) (by rw [Int.toNat_natCast]; exact l1) (by decide) (by rw [Int.toNat_natCast]; exact a1) (okK_w rfl (fL_w ?_))))
      rw [ap_eq, List.append_nil]
      refine okK_w rfl (newK_w ?_)
      refine elK_w (ys := thC (ts[i]'(by omega))) (get_new _ _) (by rw [thC_len]; decide) rfl ?_
      refine app_w ((sl.le h2).le (Le.new _ _)) (hL2.newr _) (m := 1) rfl (by decide) (by omega) (by omega) fun p2 c2 z2 H3 hL3 sl3 l23 => ?_
      rw [iAdd_]
      refine w64_w (by simp only [Int.ofNat_eq_natCast]; omega) (by simp only [Int.ofNat_eq_natCast]; omega) (ih _ _ ⟨rfl, rfl, hL3, i + 1, by simp, by omega, p2, c2, z2, ?_, ?_⟩ (by simp; omega))
      · rw [tk]; simp
      · rw [tk, thsC, List.flatMap_append, List.length_append]
        simpa [thsC] using sl3
    · have hne : ¬ inP r (ts[i]'(by omega)) = true := by unfold inP; rw [h]; simp
      rw [if_neg hne, List.append_nil] at tk
      rw [iAdd_]
      exact w64_w (by simp only [Int.ofNat_eq_natCast]; omega) (by simp only [Int.ofNat_eq_natCast]; omega) (ih _ _ ⟨rfl, rfl, hL2, i + 1, by simp, by omega, p1, c1, z1, by rw [tk], by rw [tk]; exact sl.le h2⟩ (by simp; omega))
  · have hx : i = n := by have := of_decide_eq_false hx; simp only [Int.ofNat_eq_natCast] at this; omega
    rw [hx, List.take_of_length_le (by omega)] at sl ⊢
    exact hk _ _ _ _ (h1.trans hL) (Sl.base sl h1)
/-! With one. -/
def withF (t : Th) : Bool → List Th → List Th
  | d, [] => if d = true then [] else [t]
  | d, x :: r => (if (!d && decide (t.id ≤ x.id)) = true then [t] else []) ++ ((if x.id = t.id then [] else [x]) ++ withF t (d || decide (t.id ≤ x.id)) r)
def CWith (cl : Cl) : Prop := ∀ H p n c z ts t K, InT H p n ts → n < 10000 → (∀ H' p' c' z', Le H H' → Sl H H' p' (withF t false ts).length z' (thsC (withF t false ts)) 11 → K (.s (.slice p' (withF t false ts).length c' z')) H' = true) → cl i_ref6_With [.s (.slice p n c z), .agg (thC t)] H K = true
theorem apT_w {H0 H : AH} {p : AP} {z : Nat} {ts : List Th} {t : Th} {c : ACap} {K : AP → Nat → ACap → Nat → AH → Bool} (hs : Sl H0 H p ts.length z (thsC ts) 11) (hle : Le H0 H) (hb : ts.length ≤ 20000)
    (hk : ∀ p' c' z' H', Le H0 H' → Sl H0 H' p' (ts ++ [t]).length z' (thsC (ts ++ [t])) 11 → K p' (ts ++ [t]).length c' z' H' = true) :
    okK (Nat.beq (ln (thC t)) 11) (fL (ap (α := AS) (thC t) []) fun cs => okK (Nat.beq (ln cs) (1 * 11)) (newK H (.row cs) fun g h => elK h (.at g 0) 1 11 fun ys => appA h p ts.length z 11 120 ys 1 c K)) = true := by
  refine okK_w rfl (fL_w ?_)
  rw [ap_eq, List.append_nil]
  refine okK_w rfl (newK_w ?_)
  refine elK_w (ys := thC t) (get_new _ _) (by rw [thC_len]; decide) rfl ?_
  refine app_w (hs.le (Le.new _ _)) (hle.newr _) (m := 1) rfl (by decide) (by omega) (by omega) fun p2 c2 z2 H3 hL3 sl3 l23 => ?_
  have := hk p2 c2 z2 H3 hL3
  rw [List.length_append, thsC, List.flatMap_append] at this
  exact this (by simpa [thsC] using sl3)
theorem B_ref6_With_ {lf : Nat} {cl : Cl} (hlf : 100000 ≤ lf) {H : AH} {p : AP} {n zz : Nat} {c : ACap} {ts : List Th} {t : Th} {K : AV → AH → Bool} (hp : InT H p n ts) (hn : n < 10000)
    (hk : ∀ H' p' c' z', Le H H' → Sl H H' p' (withF t false ts).length z' (thsC (withF t false ts)) 11 → K (.s (.slice p' (withF t false ts).length c' z')) H' = true) : B_ref6_With lf cl p n c zz (thC t) H K = true := by
  unfold B_ref6_With
  have hlt := hp.1
  generalize hW : withF t false ts = w at hk
  refine new_w fun gr H1 h1 hgr ngr ggr => ?_
  replace hp := hp.le h1
  refine loopX_w (fun x Hx => x.1 = (p, n, c, zz) ∧ x.2.1 = .at gr 0 ∧ Le H1 Hx ∧ ∃ i : Nat, x.2.2.2.2 = (i : Int) ∧ i ≤ n ∧ ∃ (o : List Th) (p1 : AP) (c1 : ACap) (z1 : Nat), x.2.2.1 = (p1, o.length, c1, z1) ∧ Sl H1 Hx p1 o.length z1 (thsC o) 11 ∧ o.length ≤ 2 * i ∧ o ++ withF t x.2.2.2.1 (ts.drop i) = w) (fun x => n - x.2.2.2.2.toNat)
    ⟨rfl, rfl, Le.refl _, 0, rfl, by omega, [], .nil, _, _, rfl, Sl.nil, by simp, by simpa using hW⟩ (by simp; omega) ?_
  rintro self ⟨x1, x2, x3, d, x5⟩ Hx ⟨e1, e2, hL, i, e4, hi, o, p1, c1, z1, e3, sl, ho, hw⟩ ih
  simp only at e1 e2 e3 e4 hw
  subst e1 e2 e3 e4
  simp only [pR_, fB_eq, iLt_dec]
  have gx : ∀ {Hy}, Le H1 Hy → Hy.get gr = some (.row (thC t)) := fun k => (k.get _ hgr).trans ggr
  refine ifA_w (fun hx => ?_) (fun hx => ?_)
  · have hx : i < n := by have := of_decide_eq_true hx; simp only [Int.ofNat_eq_natCast] at this; omega
    have hxl : i < ts.length := by omega
    obtain ⟨g1, rfl, hh1, r1, l1, a1, i1⟩ := hp.at hx
    have r1x : ∀ {Hy}, Le H1 Hy → Hy.get g1 = some (.fix (thsC ts)) ∨ Hy.get g1 = some (.row (thsC ts)) := fun k => r1.imp (fun e => (k.get _ hh1).trans e) (fun e => (k.get _ hh1).trans e)
    rw [List.drop_eq_getElem_cons hxl] at hw
    generalize ts[i]'hxl = ti at *
    unfold withF at hw
    refine joinX_w (fun x Hy => Le H1 Hy ∧ ∃ (d' : Bool) (o' : List Th) (p2 : AP) (c2 : ACap) (z2 : Nat), x = ((.at g1 0, n, c, zz), .at gr 0, (p2, o'.length, c2, z2), d', (i : Int)) ∧ Sl H1 Hy p2 o'.length z2 (thsC o') 11 ∧ d' = (d || decide (t.id ≤ ti.id)) ∧ o'.length ≤ 2 * i + 1 ∧ o' = o ++ (if (!d && decide (t.id ≤ ti.id)) = true then [t] else [])) ?_ ?_
    · rintro x Hy ⟨hLy, d', o', p2, c2, z2, rfl, sl', ed, hl', eo⟩
      rw [← List.append_assoc, ← eo, ← ed] at hw
      simp only [pR_, nilK_at, fN_eq, Nat.add_eq, Nat.mul_eq, Nat.zero_add, Nat.add_zero]
      refine idxK_w (by omega) (by omega) (rowK_wo (r1x hLy) (ldI_w (by rw [Int.toNat_natCast]; exact i1) ?_))
      refine rowK_w (gx hLy) (ldI_w (n := t.id) rfl ?_)
      simp only [fB_eq, iEq_dec]
      refine ifA_w (fun h => ?_) (fun h => ?_)
      · have hne : ti.id ≠ t.id := by simpa using h
        rw [if_neg hne] at hw
        refine idxK_w (by omega) (by omega) (rowK_wo (r1x hLy) (ldG_we (ys := thC ti) (by rw [Int.toNat_natCast]; exact l1) (by decide) (by rw [Int.toNat_natCast]; exact a1) ?_))
        refine apT_w sl' hLy (by omega) fun p3 c3 z3 H3 hL3 sl3 => ?_
        rw [iAdd_]
        exact w64_w (by simp only [Int.ofNat_eq_natCast]; omega) (by simp only [Int.ofNat_eq_natCast]; omega) (ih _ _ ⟨rfl, rfl, hL3, i + 1, by simp, by omega, o' ++ [ti], p3, c3, z3, rfl, sl3, by simp; omega, by rw [List.append_assoc]; exact hw⟩ (by simp; omega))
      · have he : ti.id = t.id := by simpa using h
        rw [if_pos he, List.nil_append] at hw
        rw [iAdd_]
        exact w64_w (by simp only [Int.ofNat_eq_natCast]; omega) (by simp only [Int.ofNat_eq_natCast]; omega) (ih _ _ ⟨rfl, rfl, hLy, i + 1, by simp, by omega, o', p2, c2, z2, rfl, sl', by omega, hw⟩ (by simp; omega))
    · intro J hJ
      refine joinX_w (fun x Hy => Hy = Hx ∧ x = ((.at g1 0, n, c, zz), .at gr 0, (p1, o.length, c1, z1), d, (i : Int), (!d && decide (t.id ≤ ti.id)))) ?_ ?_
      · rintro x Hy ⟨rfl, rfl⟩
        simp only [pR_]
        refine ifA_w (fun h => ?_) (fun h => ?_)
        · simp only [nilK_at]
          refine rowK_w (gx hL) (ldG_we (ys := thC t) (by rw [thC_len]; decide) (by decide) (thC_all _) ?_)
          refine apT_w sl hL (by omega) fun p3 c3 z3 H3 hL3 sl3 => ?_
          refine hJ _ _ ⟨hL3, true, o ++ [t], p3, c3, z3, rfl, sl3, ?_, by simp; omega, by rw [if_pos h]⟩
          rw [Bool.and_eq_true] at h
          rw [h.2, Bool.or_true]
        · refine hJ _ _ ⟨hL, d, o, p1, c1, z1, rfl, sl, ?_, by omega, by rw [h]; simp⟩
          cases d with
          | true => rfl
          | false => simpa using h.symm
      · intro J2 hJ2
        refine ifA_w (fun h => ?_) (fun h => hJ2 _ _ ⟨rfl, by rw [h, Bool.false_and]⟩)
        refine rowK_w (gx hL) (ldI_w (n := t.id) rfl ?_)
        simp only [nilK_at, fN_eq, Nat.add_eq, Nat.mul_eq, Nat.zero_add, Nat.add_zero]
        refine idxK_w (by omega) (by omega) (rowK_wo (r1x hL) (ldI_w (by rw [Int.toNat_natCast]; exact i1) ?_))
        refine hJ2 _ _ ⟨rfl, ?_⟩
        rw [h, Bool.true_and, iLe_dec]
  · have hx : i = n := by have := of_decide_eq_false hx; simp only [Int.ofNat_eq_natCast] at this; omega
    rw [List.drop_of_length_le (by omega)] at hw
    unfold withF at hw
    refine ifA_w (fun h => ?_) (fun h => ?_)
    · have hd : d = false := by simpa using h
      subst hd
      simp only [nilK_at]
      refine rowK_w (gx hL) (ldG_we (ys := thC t) (by rw [thC_len]; decide) (by decide) (thC_all _) ?_)
      refine apT_w sl hL (by omega) fun p3 c3 z3 H3 hL3 sl3 => ?_
      rw [if_neg (by decide)] at hw
      have := hk H3 p3 c3 z3 (h1.trans hL3)
      rw [← hw] at this
      exact this (Sl.base sl3 h1)
    · have hd : d = true := by simpa using h
      subst hd
      rw [if_pos rfl, List.append_nil] at hw
      have := hk Hx p1 c1 z1 (h1.trans hL)
      rw [← hw] at this
      exact this (Sl.base sl h1)
/-! Rows that rise. -/
def Up (ts : List Th) : Prop := ts.Pairwise fun a b => a.id < b.id
theorem Up.ext : ∀ {ts us : List Th}, Up ts → Up us → (∀ t, t ∈ ts ↔ t ∈ us) → ts = us
  | [], [], _, _, _ => rfl
  | [], u :: us, _, _, h => absurd ((h u).2 (by simp)) (by simp)
  | t :: ts, [], _, _, h => absurd ((h t).1 (by simp)) (by simp)
  | t :: ts, u :: us, ht, hu, h => by
    have ht' := List.pairwise_cons.1 ht
    have hu' := List.pairwise_cons.1 hu
    have e : t = u := by
      rcases List.mem_cons.1 ((h t).1 (by simp)) with e | m1
      · exact e
      · rcases List.mem_cons.1 ((h u).2 (by simp)) with e | m2
        · exact e.symm
        · exact absurd (hu'.1 _ m1) (by have := ht'.1 _ m2; omega)
    subst e
    congr 1
    refine Up.ext ht'.2 hu'.2 fun x => ?_
    have hx := h x
    simp only [List.mem_cons] at hx
    constructor
    · intro m
      rcases hx.1 (.inr m) with e | m'
      · subst e; exact absurd (ht'.1 _ m) (by omega)
      · exact m'
    · intro m
      rcases hx.2 (.inr m) with e | m'
      · subst e; exact absurd (hu'.1 _ m) (by omega)
      · exact m'
theorem withF_mem (t : Th) : ∀ (ts : List Th) (d : Bool) (x : Th), x ∈ withF t d ts ↔ (x ∈ ts ∧ x.id ≠ t.id) ∨ (d = false ∧ x = t)
  | [], d, x => by unfold withF; cases d <;> simp
  | y :: r, d, x => by
    unfold withF
    simp only [List.mem_append, withF_mem t r]
    by_cases h1 : y.id = t.id
    · rw [if_pos h1, decide_eq_true (by omega : t.id ≤ y.id)]
      cases d
      · simp only [Bool.not_false, Bool.and_true, if_true, List.mem_singleton, Bool.or_true, Bool.true_eq_false, false_and, or_false, List.not_mem_nil, false_or, List.mem_cons, true_and]
        constructor
        · rintro (h | h)
          · exact .inr h
          · exact .inl ⟨.inr h.1, h.2⟩
        · rintro (⟨h | h, h2⟩ | h)
          · subst h; exact absurd h1 h2
          · exact .inr ⟨h, h2⟩
          · exact .inl h
      · simp only [Bool.not_true, Bool.false_and, Bool.false_eq_true, if_false, Bool.or_true, Bool.true_eq_false, false_and, or_false, List.not_mem_nil, false_or, List.mem_cons]
        constructor
        · rintro h; exact ⟨.inr h.1, h.2⟩
        · rintro ⟨h | h, h2⟩
          · subst h; exact absurd h1 h2
          · exact ⟨h, h2⟩
    · rw [if_neg h1]
      by_cases h2 : t.id ≤ y.id
      · rw [decide_eq_true h2]
        cases d
        · simp only [Bool.not_false, Bool.and_true, if_true, List.mem_singleton, Bool.or_true, Bool.true_eq_false, false_and, or_false, List.not_mem_nil, List.mem_cons, true_and]
          constructor
          · rintro (h | h | h)
            · exact .inr h
            · subst h; exact .inl ⟨.inl rfl, h1⟩
            · exact .inl ⟨.inr h.1, h.2⟩
          · rintro (⟨h | h, h3⟩ | h)
            · exact .inr (.inl h)
            · exact .inr (.inr ⟨h, h3⟩)
            · exact .inl h
        · simp only [Bool.not_true, Bool.false_and, Bool.false_eq_true, if_false, Bool.or_true, Bool.true_eq_false, false_and, or_false, List.not_mem_nil, false_or, List.mem_cons, List.mem_singleton]
          constructor
          · rintro (h | h)
            · subst h; exact ⟨.inl rfl, h1⟩
            · exact ⟨.inr h.1, h.2⟩
          · rintro ⟨h | h, h3⟩
            · exact .inl h
            · exact .inr ⟨h, h3⟩
      · rw [decide_eq_false h2]
        simp only [Bool.and_false, Bool.false_eq_true, if_false, Bool.or_false, List.not_mem_nil, false_or, or_false, List.mem_cons, List.mem_singleton]
        constructor
        · rintro (h | h | h)
          · subst h; exact .inl ⟨.inl rfl, h1⟩
          · exact .inl ⟨.inr h.1, h.2⟩
          · exact .inr h
        · rintro (⟨h | h, h3⟩ | h)
          · exact .inl h
          · exact .inr (.inl ⟨h, h3⟩)
          · exact .inr (.inr h)
theorem withF_up (t : Th) : ∀ (ts : List Th) (d : Bool), Up ts → (d = true → ∀ x ∈ ts, t.id < x.id) → Up (withF t d ts)
  | [], d, _, _ => by unfold withF; split <;> simp [Up]
  | y :: r, d, h, hd => by
    have h' := List.pairwise_cons.1 h
    unfold withF
    have ih := withF_up t r (d || decide (t.id ≤ y.id)) h'.2 fun e x hx => by
      rcases Bool.or_eq_true _ _ ▸ e with e | e
      · exact hd e x (List.mem_cons_of_mem _ hx)
      · have := of_decide_eq_true e; have := h'.1 x hx; omega
    have mid : Up ((if y.id = t.id then [] else [y]) ++ withF t (d || decide (t.id ≤ y.id)) r) := by
      split
      · exact ih
      · rename_i hne
        rw [List.singleton_append]
        refine List.pairwise_cons.2 ⟨fun x hx => ?_, ih⟩
        rcases (withF_mem t r _ x).1 hx with ⟨h1, h2⟩ | ⟨h1, h2⟩
        · exact h'.1 x h1
        · subst h2
          have := (Bool.or_eq_false_iff.1 h1).2
          have := of_decide_eq_false this; omega
    split
    · rename_i hc
      have hc' : d = false ∧ t.id ≤ y.id := by simpa using hc
      rw [List.singleton_append]
      refine List.pairwise_cons.2 ⟨fun x hx => ?_, mid⟩
      rcases List.mem_append.1 hx with hx | hx
      · split at hx
        · cases hx
        · rename_i hne
          rw [List.mem_singleton] at hx; subst hx; omega
      · rcases (withF_mem t r _ x).1 hx with ⟨h1, h2⟩ | ⟨h1, h2⟩
        · have := h'.1 x h1; omega
        · rw [decide_eq_true hc'.2, Bool.or_true] at h1; cases h1
    · exact mid
theorem withF_len (t : Th) : ∀ (ts : List Th) (d : Bool), (withF t d ts).length ≤ ts.length + (if d = true then 0 else 1)
  | [], d => by unfold withF; cases d <;> simp
  | y :: r, d => by
    have := withF_len t r (d || decide (t.id ≤ y.id))
    unfold withF
    simp only [List.length_append, List.length_cons]
    cases d <;> by_cases h : t.id ≤ y.id <;> by_cases h2 : y.id = t.id <;> simp [h, h2] at this ⊢ <;> omega
/-- The row of a table: rising, and just what it has. -/
def RowOf (L : List (Int × Th)) (ts : List Th) : Prop := Up ts ∧ ∀ t, t ∈ ts ↔ aGet L t.id = some t
theorem RowOf.ext {L : List (Int × Th)} {ts us : List Th} (h : RowOf L ts) (k : RowOf L us) : ts = us := Up.ext h.1 k.1 fun t => (h.2 t).trans (k.2 t).symm
theorem RowOf.congr {L M : List (Int × Th)} {ts : List Th} (h : RowOf L ts) (k : ∀ i, aGet M i = aGet L i) : RowOf M ts := ⟨h.1, fun t => by rw [k]; exact h.2 t⟩
def IdOk (L : List (Int × Th)) : Prop := ∀ k t, aGet L k = some t → t.id = k
theorem RowOf.nil : RowOf [] [] := ⟨List.Pairwise.nil, fun t => by simp [aGet]⟩
theorem RowOf.set {L : List (Int × Th)} {ts : List Th} (h : RowOf L ts) (t : Th) : RowOf (aSet L t.id t) (withF t false ts) := by
  refine ⟨withF_up t ts false h.1 (fun e => by cases e), fun x => ?_⟩
  rw [withF_mem, h.2]
  by_cases e : x.id = t.id
  · rw [e, aGet_set_same]
    constructor
    · rintro (⟨_, h⟩ | ⟨_, h⟩)
      · exact absurd rfl h
      · rw [h]
    · intro h; exact .inr ⟨rfl, (Option.some.inj h).symm⟩
  · rw [aGet_set_ne _ _ e]
    constructor
    · rintro (⟨h, _⟩ | ⟨_, h⟩)
      · exact h
      · subst h; exact absurd rfl e
    · intro h; exact .inl ⟨h, e⟩
theorem RowOf.del {L : List (Int × Th)} {ts : List Th} (h : RowOf L ts) (id : Int) : RowOf (aDel L id) (ts.filter (notId id)) := by
  refine ⟨h.1.filter _, fun x => ?_⟩
  rw [List.mem_filter, h.2]
  unfold notId
  by_cases e : x.id = id
  · rw [e, aGet_del_same]; simp
  · rw [aGet_del_ne _ e, decide_eq_true e]; simp
theorem aGet_none_del {L : List (Int × Th)} {id : Int} (h : aGet L id = none) (k : Int) : aGet (aDel L id) k = aGet L k := by
  by_cases e : k = id
  · rw [e, aGet_del_same, h]
  · exact aGet_del_ne _ e
theorem RowOf.mem {L : List (Int × Th)} {ts : List Th} (h : RowOf L ts) (hid : IdOk L) (id : Int) : (aGet L id).isSome = true ↔ ∃ t ∈ ts, t.id = id := by
  constructor
  · intro hs
    obtain ⟨t, e⟩ := Option.isSome_iff_exists.1 hs
    have := hid _ _ e
    exact ⟨t, (h.2 t).2 (by rw [this]; exact e), this⟩
  · rintro ⟨t, hm, rfl⟩
    rw [(h.2 t).1 hm]; rfl
theorem up_of_keys {L : List (Int × Th)} (hid : ∀ k ∈ aKeys L, (thOf L k).id = k) : ∀ {ks : List Int}, ks.Pairwise (· < ·) → (∀ k ∈ ks, k ∈ aKeys L) → Up (ks.map (thOf L)) := by
  intro ks hp hm
  unfold Up
  rw [List.pairwise_map]
  refine List.Pairwise.imp_of_mem (fun {a b} ha hb h => ?_) hp
  rw [hid a (hm a ha), hid b (hm b hb)]; exact h
theorem thOf_get {L : List (Int × Th)} {t : Th} {k : Int} (h : aGet L k = some t) : thOf L k = t := by unfold thOf; rw [h]; rfl
theorem aGet_thOf {L : List (Int × Th)} {k : Int} (h : k ∈ aKeys L) : aGet L k = some (thOf L k) := by
  obtain ⟨t, e⟩ := Option.isSome_iff_exists.1 (mem_get.1 h)
  rw [e, thOf_get e]
theorem sorted_lt {l : List Int} (hn : l.Nodup) : (srtI l).Pairwise (· < ·) := by
  have h1 := srtI_sorted l
  have h2 : (srtI l).Nodup := (srtI_perm l).nodup_iff.2 hn
  exact (h1.and h2).imp fun h => by obtain ⟨h1, h2⟩ := h; omega
/-- Those of a table whose keys are chosen. -/
theorem sel_row {L : List (Int × Th)} {ts : List Th} (h : RowOf L ts) (hn : (aKeys L).Nodup) (hid : IdOk L) (f : Th → Bool) : (srtI ((aKeys L).filter fun k => f (thOf L k))).map (thOf L) = ts.filter f := by
  have hid' : ∀ k ∈ aKeys L, (thOf L k).id = k := fun k hk => hid _ _ (aGet_thOf hk)
  refine Up.ext (up_of_keys hid' (sorted_lt (hn.filter _)) fun k hk => (List.mem_filter.1 ((srtI_perm _).mem_iff.1 hk)).1) (h.1.filter _) fun t => ?_
  rw [List.mem_map, List.mem_filter, h.2]
  constructor
  · rintro ⟨k, hk, rfl⟩
    have hk := List.mem_filter.1 ((srtI_perm _).mem_iff.1 hk)
    rw [hid' k hk.1]
    exact ⟨aGet_thOf hk.1, hk.2⟩
  · rintro ⟨h1, h2⟩
    refine ⟨t.id, (srtI_perm _).mem_iff.2 (List.mem_filter.2 ⟨mem_get.2 (by rw [h1]; rfl), ?_⟩), thOf_get h1⟩
    rw [thOf_get h1]; exact h2
theorem all_row {L : List (Int × Th)} {ts : List Th} (h : RowOf L ts) (hn : (aKeys L).Nodup) (hid : IdOk L) : (allT L).map (thOf L) = ts := by
  have := sel_row h hn hid fun _ => true
  rw [List.filter_eq_self.2 fun _ _ => rfl, List.filter_eq_self.2 fun _ _ => rfl] at this
  exact this
theorem in_row {L : List (Int × Th)} {ts : List Th} (h : RowOf L ts) (hn : (aKeys L).Nodup) (hid : IdOk L) (r : Rc) : (inT L r).map (thOf L) = ts.filter (inP r) := sel_row h hn hid (inP r)
theorem row_len {L : List (Int × Th)} {ts : List Th} (h : RowOf L ts) (hn : (aKeys L).Nodup) (hid : IdOk L) : ts.length = L.length := by
  rw [← all_row h hn hid, List.length_map, allT_len]
theorem row_of_keys {L : List (Int × Th)} (hn : (aKeys L).Nodup) (hid : IdOk L) : RowOf L ((allT L).map (thOf L)) := by
  have hid' : ∀ k ∈ aKeys L, (thOf L k).id = k := fun k hk => hid _ _ (aGet_thOf hk)
  refine ⟨up_of_keys hid' (sorted_lt hn) fun k hk => (srtI_perm _).mem_iff.1 hk, fun t => ?_⟩
  rw [List.mem_map]
  constructor
  · rintro ⟨k, hk, rfl⟩
    have hk := (srtI_perm _).mem_iff.1 hk
    rw [hid' k hk]; exact aGet_thOf hk
  · intro h; exact ⟨t.id, (srtI_perm _).mem_iff.2 (mem_get.2 (by rw [h]; rfl)), thOf_get h⟩
theorem TT.ids {H : AH} {g : Pn} {L : List (Int × Th)} {O : Pn → Prop} (h : TT H g L O) : (aKeys L).Nodup ∧ IdOk L := by
  obtain ⟨m, q, Lq, Oq, tb, rfl⟩ := h
  exact ⟨tb.nod, tb.ok⟩
theorem Sl.len2 {H0 H : AH} {p : AP} {n z : Nat} {ts : List Th} (h : Sl H0 H p n z (thsC ts) 11) : ts.length = n := by have := h.len; rw [thsC_len] at this; omega
theorem Sl.own {H0 H : AH} {p : AP} {n z : Nat} {cs : List AS} (h : Sl H0 H p n z cs 11) : (∀ a, ownP p a → ¬ H0.has a) ∧ ∀ a, ownP p a → H.has a := by
  rcases h.rep with ⟨_, rfl⟩ | ⟨g, rfl, _, _, hh, hn⟩
  · exact ⟨fun a ⟨o, e⟩ => (by cases e), fun a ⟨o, e⟩ => (by cases e)⟩
  · exact ⟨fun a ⟨o, e⟩ => (by cases e; exact hn), fun a ⟨o, e⟩ => (by cases e; exact hh)⟩
theorem InT.fr {F : Pn → Prop} {H H' : AH} {p : AP} {n : Nat} {ts : List Th} (h : InT H p n ts) (k : Fr F H H') (hf : ∀ a, ownP p a → ¬ F a) : InT H' p n ts :=
  ⟨h.1, fun hn => (h.2 hn).imp fun g hg => by
    obtain ⟨rfl, h1, h2⟩ := hg
    have e := k.get g h1 (hf g ⟨0, rfl⟩)
    exact ⟨rfl, k.has g h1, h2.imp e.trans e.trans⟩⟩
end Go.Proofs
end
section
/- The reference's commands: what one must be. -/
namespace Go.Proofs
open Go Go.Vw Go.Vw.Ev
set_option linter.unusedVariables false
set_option linter.unusedSimpArgs false

def CWithin (cl : Cl) : Prop := ∀ n lo hi H K, K (.s (.bool (decide (lo ≤ n) && decide (n ≤ hi)))) H = true → cl i_ref10_within [.s (.int .i64 n), .s (.int .i64 lo), .s (.int .i64 hi)] H K = true
theorem B_ref10_within_ {lf : Nat} {cl : Cl} {n lo hi : Int} {H : AH} {K : AV → AH → Bool} (hk : K (.s (.bool (decide (lo ≤ n) && decide (n ≤ hi)))) H = true) : B_ref10_within lf cl n lo hi H K = true := by
  unfold B_ref10_within
  simp only [fB_eq, iLe_dec]
  rw [ifA_and]
  exact hk
def pt10 (p : Pt) : Bool := nearB p.x && nearB p.y
theorem B_ref10_point_ {lf : Nat} {cl : Cl} (hw : CWithin cl) {p : Pt} {H : AH} {K : AV → AH → Bool} (hk : ∀ H', Le H H' → K (.s (.bool (pt10 p))) H' = true) : B_ref10_point lf cl (ptC p) H K = true := by
  unfold B_ref10_point
  refine new_w fun g H1 h1 hg ng gg => ?_
  have k := hk H1 h1
  refine rowK_w gg (ldI_w (n := p.x) rfl (hw _ _ _ _ _ (arB_w ?_)))
  refine ifA_w (fun (a : nearB p.x = true) => ?_) (fun (a : nearB p.x = false) => ?_)
  · refine rowK_w gg (ldI_w (n := p.y) rfl (hw _ _ _ _ _ (arB_w ?_)))
    unfold pt10 at k
    rw [a, Bool.true_and] at k
    exact k
  · unfold pt10 at k
    rw [a, Bool.false_and] at k
    exact k
def rc10 (r : Rc) : Bool := pt10 ⟨r.x0, r.y0⟩ && pt10 ⟨r.x1, r.y1⟩
theorem B_ref10_rect_ {lf : Nat} {cl : Cl} (hp : CPtB i_ref10_point pt10 cl) {r : Rc} {H : AH} {K : AV → AH → Bool} (hk : ∀ H', Le H H' → K (.s (.bool (rc10 r))) H' = true) : B_ref10_rect lf cl (rcC r) H K = true := by
  unfold B_ref10_rect
  refine new_w fun g H1 h1 hg ng gg => ?_
  refine rowK_w gg (ldI_w (n := r.x0) rfl (rowK_w gg (ldI_w (n := r.y0) rfl ?_)))
  refine hp ⟨r.x0, r.y0⟩ _ _ fun H2 h2 => arB_w ?_
  have gg2 := (h2.get _ hg).trans gg
  refine ifA_w (fun a => ?_) (fun a => ?_)
  · refine rowK_w gg2 (ldI_w (n := r.x1) rfl (rowK_w gg2 (ldI_w (n := r.y1) rfl ?_)))
    refine hp ⟨r.x1, r.y1⟩ _ _ fun H3 h3 => arB_w ?_
    have k := hk H3 (h1.trans (h2.trans h3))
    unfold rc10 at k
    rw [a, Bool.true_and] at k
    exact k
  · have k := hk H2 (h1.trans h2)
    unfold rc10 at k
    rw [a, Bool.false_and] at k
    exact k
def CShape (cl : Cl) : Prop := ∀ c H K, (∀ H', Le H H' → K (.agg (cmC (coreC c))) H' = true) → cl i_ref10_shape [.agg (cmC c)] H K = true
theorem B_ref10_shape_ {lf : Nat} {cl : Cl} {c : Cm} {H : AH} {K : AV → AH → Bool} (hk : ∀ H', Le H H' → K (.agg (cmC (coreC c))) H' = true) : B_ref10_shape lf cl (cmC c) H K = true := B_cmd_core_ (lf := lf) (cl := cl) hk
def inB (lo hi n : Int) : Bool := decide (lo ≤ n) && decide (n ≤ hi)
noncomputable def shB (c : Cm) : Bool := cellsEqA (cmC c) (cmC (coreC c))
noncomputable def isC0 (c : Cm) : Bool := inB 1 8 c.kind && (inB 0 3 c.client && (inB 0 1000000 c.session && (shB c && (pt10 c.pt && (rc10 c.r && (inB 0 1000000 c.id && (inB (-1) 100 c.which && (inB (-1) 100 c.to_ && IsF c.v))))))))
noncomputable def okC (c : Cm) : Nat → Bool
  | 0 => isC0 c
  | i + 1 => okC c i && IsF (c.fs i)
theorem okC_all (c : Cm) : okC c 4 = IsCm c := by
  show ((((isC0 c && IsF c.f0) && IsF c.f1) && IsF c.f2) && IsF c.f3) = _
  rw [Bool.eq_iff_iff]
  unfold isC0 inB pt10 rc10 pt10 IsCm fldB kindB whoB whatB placeB shB
  simp only [List.all_cons, List.all_nil, Bool.and_eq_true, decide_eq_true_eq, Bool.and_true]
  constructor
  · rintro ⟨⟨⟨⟨⟨⟨a1, a2⟩, ⟨a3, a4⟩, ⟨a5, a6⟩, a7, ⟨a8, a9⟩, ⟨⟨b1, b2⟩, b3, b4⟩, ⟨b5, b6⟩, ⟨b7, b8⟩, ⟨b9, c1⟩, c2⟩, f0⟩, f1⟩, f2⟩, f3⟩
    exact ⟨⟨f0, f1, f2, f3⟩, ⟨a1, a2, a7⟩, ⟨a3, by omega, a5, a6⟩, ⟨b5, b6, b7, b8, b9, c1, c2⟩, a8, a9, b1, b2, b3, b4⟩
  · rintro ⟨⟨f0, f1, f2, f3⟩, ⟨a1, a2, a7⟩, ⟨a3, a4, a5, a6⟩, ⟨b5, b6, b7, b8, b9, c1, c2⟩, a8, a9, b1, b2, b3, b4⟩
    exact ⟨⟨⟨⟨⟨⟨a1, a2⟩, ⟨a3, by omega⟩, ⟨a5, a6⟩, a7, ⟨a8, a9⟩, ⟨⟨b1, b2⟩, b3, b4⟩, ⟨b5, b6⟩, ⟨b7, b8⟩, ⟨b9, c1⟩, c2⟩, f0⟩, f1⟩, f2⟩, f3⟩
theorem cmC_fd (c : Cm) : ∀ k : Nat, k < 4 → ((cmC c).drop (6 + k * 2)).take 2 = fdC (c.fs k) := lt4 rfl rfl rfl rfl
def CIs10 (cl : Cl) : Prop := ∀ c H K, (∀ H', Le H H' → K (.s (.bool (IsCm c))) H' = true) → cl i_ref10_Is [.agg (cmC c)] H K = true
theorem B_ref10_Is_ {lf : Nat} {cl : Cl} (hlf : 10 ≤ lf) (hw : CWithin cl) (hs : CShape cl) (hp : CPtB i_ref10_point pt10 cl) (hr : CRcB i_ref10_rect rc10 cl) (hf : CIsF6 cl) {c : Cm} {H : AH} {K : AV → AH → Bool}
    (hk : ∀ H', Le H H' → K (.s (.bool (IsCm c))) H' = true) : B_ref10_Is lf cl (cmC c) H K = true := by
  unfold B_ref10_Is
  refine new_w fun g H1 h1 hg ng gg => ?_
  refine joinX_w (fun x Hx => Le H1 Hx ∧ x = (.at g 0, isC0 c)) ?_ ?_
  · rintro x H2 ⟨hL, rfl⟩
    simp only [pR_]
    refine loopX_w (fun x Hx => Le H1 Hx ∧ ∃ i : Nat, x = (.at g 0, okC c i, (i : Int)) ∧ i ≤ 4) (fun x => 4 - x.2.2.toNat) ⟨hL, 0, rfl, by omega⟩ (by simp; omega) ?_
    rintro self x H3 ⟨hL3, i, rfl, hi⟩ ih
    simp only [pR_, fB_eq, iLt_dec]
    refine ifA_w (fun hx => ?_) (fun hx => ?_)
    · have hx : i < 4 := by have h : (i : Int) < 4 := of_decide_eq_true hx; omega
      refine ifA_w (fun hb => ?_) (fun hb => ?_)
      · simp only [nilK_at, fN_eq, Nat.add_eq, Nat.zero_add]
        refine idxK_w (by omega) (by omega) ?_
        simp only [Int.toNat_natCast, Nat.mul_eq]
        refine rowK_w ((hL3.get _ hg).trans gg) (ldG_we (by rw [cmC_len]; omega) (by decide) (cmC_fd c i hx) (hf _ _ _ fun H4 h4 => arB_w ?_))
        rw [iAdd_]
        exact w64_w (by simp only [Int.ofNat_eq_natCast]; omega) (by simp only [Int.ofNat_eq_natCast]; omega) (ih _ _ ⟨hL3.trans h4, i + 1, by rw [show okC c (i + 1) = (okC c i && IsF (c.fs i)) from rfl, hb, Bool.true_and]; rfl, by omega⟩ (by simp; omega))
      · rw [iAdd_]
        exact w64_w (by simp only [Int.ofNat_eq_natCast]; omega) (by simp only [Int.ofNat_eq_natCast]; omega) (ih _ _ ⟨hL3, i + 1, by rw [show okC c (i + 1) = (okC c i && IsF (c.fs i)) from rfl, hb, Bool.false_and]; rfl, by omega⟩ (by simp; omega))
    · have hx : i = 4 := by have h : ¬ (i : Int) < 4 := of_decide_eq_false hx; omega
      subst hx
      rw [okC_all]
      exact hk _ (h1.trans hL3)
  · intro J hJ
    have k : ∀ b Hx, Le H1 Hx → b = isC0 c → J (.at g 0, b) Hx = true := fun b Hx hL e => hJ (.at g 0, b) Hx ⟨hL, by rw [e]⟩
    have gx : ∀ {Hx}, Le H1 Hx → Hx.get g = some (.row (cmC c)) := fun k => (k.get _ hg).trans gg
    refine rowK_w gg (ldI_w (n := c.kind) rfl (hw _ _ _ _ _ (arB_w ?_)))
    refine ifA_w (fun (a1 : inB 1 8 c.kind = true) => ?_) (fun (a1 : inB 1 8 c.kind = false) => ?_)
    case refine_2 =>
      have z : false = isC0 c := by unfold isC0; rw [a1]; rfl
      exact okK_w (k _ _ (Le.refl _) z) (okK_w (k _ _ (Le.refl _) z) (k _ _ (Le.refl _) z))
    refine rowK_w gg (ldI_w (n := c.client) rfl (hw _ _ _ _ _ (arB_w ?_)))
    refine ifA_w (fun (a2 : inB 0 3 c.client = true) => ?_) (fun (a2 : inB 0 3 c.client = false) => ?_)
    case refine_2 =>
      have z : false = isC0 c := by unfold isC0; rw [a1, a2]; rfl
      exact okK_w (k _ _ (Le.refl _) z) (okK_w (k _ _ (Le.refl _) z) (k _ _ (Le.refl _) z))
    refine rowK_w gg (ldI_w (n := c.session) rfl (hw _ _ _ _ _ (arB_w ?_)))
    refine ifA_w (fun (a3 : inB 0 1000000 c.session = true) => ?_) (fun (a3 : inB 0 1000000 c.session = false) => ?_)
    case refine_2 =>
      have z : false = isC0 c := by unfold isC0; rw [a1, a2, a3]; rfl
      exact okK_w (k _ _ (Le.refl _) z) (okK_w (k _ _ (Le.refl _) z) (k _ _ (Le.refl _) z))
    have all : ∀ {Hx : AH} {K : List AS → Bool}, Le H1 Hx → K (cmC c) = true → rowK Hx g (fun cs => ldG cs 0 22 K) = true := fun hL h => rowK_w (gx hL) (ldG_we (ys := cmC c) (Nat.le_refl 22) (lb rfl) rfl h)
    refine okK_w (all (Le.refl _) (all (Le.refl _) ?_)) (all (Le.refl _) (okK_w (all (Le.refl _) ?_) ?_))
    all_goals
      refine hs _ _ _ fun H2 h2 => ?_
      rw [asG_]
      try refine all h2 ?_
      refine okK_w rfl ?_
      simp only [fB_eq]
      refine ifA_w (fun (a4 : shB c = true) => ?_) (fun (a4 : shB c = false) => k _ _ h2 (by unfold isC0; rw [a1, a2, a3, a4]; rfl))
      refine rowK_w (gx h2) (ldG_we (ys := ptC c.pt) (lb rfl) (lb rfl) rfl (hp _ _ _ fun H3 h3 => arB_w ?_))
      have h13 := h2.trans h3
      refine ifA_w (fun (a5 : pt10 c.pt = true) => ?_) (fun (a5 : pt10 c.pt = false) => k _ _ h13 (by unfold isC0; rw [a1, a2, a3, a4, a5]; rfl))
      refine rowK_w (gx h13) (ldG_we (ys := rcC c.r) (lb rfl) (lb rfl) rfl (hr _ _ _ fun H4 h4 => arB_w ?_))
      have h14 := h13.trans h4
      refine ifA_w (fun (a6 : rc10 c.r = true) => ?_) (fun (a6 : rc10 c.r = false) => k _ _ h14 (by unfold isC0; rw [a1, a2, a3, a4, a5, a6]; rfl))
      refine rowK_w (gx h14) (ldI_w (n := c.id) rfl (hw _ _ _ _ _ (arB_w ?_)))
      refine ifA_w (fun (a7 : inB 0 1000000 c.id = true) => ?_) (fun (a7 : inB 0 1000000 c.id = false) => k _ _ h14 (by unfold isC0; rw [a1, a2, a3, a4, a5, a6, a7]; rfl))
      refine rowK_w (gx h14) (ldI_w (n := c.which) rfl (hw _ _ _ _ _ (arB_w ?_)))
      refine ifA_w (fun (a8 : inB (-1) 100 c.which = true) => ?_) (fun (a8 : inB (-1) 100 c.which = false) => k _ _ h14 (by unfold isC0; rw [a1, a2, a3, a4, a5, a6, a7, a8]; rfl))
      refine rowK_w (gx h14) (ldI_w (n := c.to_) rfl (hw _ _ _ _ _ (arB_w ?_)))
      refine ifA_w (fun (a9 : inB (-1) 100 c.to_ = true) => ?_) (fun (a9 : inB (-1) 100 c.to_ = false) => k _ _ h14 (by unfold isC0; rw [a1, a2, a3, a4, a5, a6, a7, a8, a9]; rfl))
      refine rowK_w (gx h14) (ldG_we (ys := fdC c.v) (lb rfl) (lb rfl) rfl (hf _ _ _ fun H5 h5 => arB_w (k _ _ (h14.trans h5) ?_)))
      unfold isC0
      rw [a1, a2, a3, a4, a5, a6, a7, a8, a9]
      rfl
end Go.Proofs
end
section
/- The reference's cells: the cell of a point. -/
namespace Go.Proofs
open Go Go.Vw Go.Vw.Ev
set_option linter.unusedVariables false
set_option linter.unusedSimpArgs false

def CWeave3 (cl : Cl) : Prop := ∀ x y H K, 0 ≤ x → x < 4 → 0 ≤ y → y < 4 → K (.s (.int .u32 (cellAt x y))) H = true → cl i_ref3_Weave [.s (.int .u16 x), .s (.int .u16 y)] H K = true
theorem weave3_00 (m : Nat) (cl : Cl) (H : AH) (K : AV → AH → Bool) : B_ref3_Weave (m + 17) cl (Int.ofNat 0) (Int.ofNat 0) H K = K (.s (.int .u32 (cellAt (Int.ofNat 0) (Int.ofNat 0)))) H := by kernel_rfl
theorem weave3_01 (m : Nat) (cl : Cl) (H : AH) (K : AV → AH → Bool) : B_ref3_Weave (m + 17) cl (Int.ofNat 0) (Int.ofNat 1) H K = K (.s (.int .u32 (cellAt (Int.ofNat 0) (Int.ofNat 1)))) H := by kernel_rfl
theorem weave3_02 (m : Nat) (cl : Cl) (H : AH) (K : AV → AH → Bool) : B_ref3_Weave (m + 17) cl (Int.ofNat 0) (Int.ofNat 2) H K = K (.s (.int .u32 (cellAt (Int.ofNat 0) (Int.ofNat 2)))) H := by kernel_rfl
theorem weave3_03 (m : Nat) (cl : Cl) (H : AH) (K : AV → AH → Bool) : B_ref3_Weave (m + 17) cl (Int.ofNat 0) (Int.ofNat 3) H K = K (.s (.int .u32 (cellAt (Int.ofNat 0) (Int.ofNat 3)))) H := by kernel_rfl
theorem weave3_10 (m : Nat) (cl : Cl) (H : AH) (K : AV → AH → Bool) : B_ref3_Weave (m + 17) cl (Int.ofNat 1) (Int.ofNat 0) H K = K (.s (.int .u32 (cellAt (Int.ofNat 1) (Int.ofNat 0)))) H := by kernel_rfl
theorem weave3_11 (m : Nat) (cl : Cl) (H : AH) (K : AV → AH → Bool) : B_ref3_Weave (m + 17) cl (Int.ofNat 1) (Int.ofNat 1) H K = K (.s (.int .u32 (cellAt (Int.ofNat 1) (Int.ofNat 1)))) H := by kernel_rfl
theorem weave3_12 (m : Nat) (cl : Cl) (H : AH) (K : AV → AH → Bool) : B_ref3_Weave (m + 17) cl (Int.ofNat 1) (Int.ofNat 2) H K = K (.s (.int .u32 (cellAt (Int.ofNat 1) (Int.ofNat 2)))) H := by kernel_rfl
theorem weave3_13 (m : Nat) (cl : Cl) (H : AH) (K : AV → AH → Bool) : B_ref3_Weave (m + 17) cl (Int.ofNat 1) (Int.ofNat 3) H K = K (.s (.int .u32 (cellAt (Int.ofNat 1) (Int.ofNat 3)))) H := by kernel_rfl
theorem weave3_20 (m : Nat) (cl : Cl) (H : AH) (K : AV → AH → Bool) : B_ref3_Weave (m + 17) cl (Int.ofNat 2) (Int.ofNat 0) H K = K (.s (.int .u32 (cellAt (Int.ofNat 2) (Int.ofNat 0)))) H := by kernel_rfl
theorem weave3_21 (m : Nat) (cl : Cl) (H : AH) (K : AV → AH → Bool) : B_ref3_Weave (m + 17) cl (Int.ofNat 2) (Int.ofNat 1) H K = K (.s (.int .u32 (cellAt (Int.ofNat 2) (Int.ofNat 1)))) H := by kernel_rfl
theorem weave3_22 (m : Nat) (cl : Cl) (H : AH) (K : AV → AH → Bool) : B_ref3_Weave (m + 17) cl (Int.ofNat 2) (Int.ofNat 2) H K = K (.s (.int .u32 (cellAt (Int.ofNat 2) (Int.ofNat 2)))) H := by kernel_rfl
theorem weave3_23 (m : Nat) (cl : Cl) (H : AH) (K : AV → AH → Bool) : B_ref3_Weave (m + 17) cl (Int.ofNat 2) (Int.ofNat 3) H K = K (.s (.int .u32 (cellAt (Int.ofNat 2) (Int.ofNat 3)))) H := by kernel_rfl
theorem weave3_30 (m : Nat) (cl : Cl) (H : AH) (K : AV → AH → Bool) : B_ref3_Weave (m + 17) cl (Int.ofNat 3) (Int.ofNat 0) H K = K (.s (.int .u32 (cellAt (Int.ofNat 3) (Int.ofNat 0)))) H := by kernel_rfl
theorem weave3_31 (m : Nat) (cl : Cl) (H : AH) (K : AV → AH → Bool) : B_ref3_Weave (m + 17) cl (Int.ofNat 3) (Int.ofNat 1) H K = K (.s (.int .u32 (cellAt (Int.ofNat 3) (Int.ofNat 1)))) H := by kernel_rfl
theorem weave3_32 (m : Nat) (cl : Cl) (H : AH) (K : AV → AH → Bool) : B_ref3_Weave (m + 17) cl (Int.ofNat 3) (Int.ofNat 2) H K = K (.s (.int .u32 (cellAt (Int.ofNat 3) (Int.ofNat 2)))) H := by kernel_rfl
theorem weave3_33 (m : Nat) (cl : Cl) (H : AH) (K : AV → AH → Bool) : B_ref3_Weave (m + 17) cl (Int.ofNat 3) (Int.ofNat 3) H K = K (.s (.int .u32 (cellAt (Int.ofNat 3) (Int.ofNat 3)))) H := by kernel_rfl
theorem B_ref3_Weave_ {lf : Nat} {cl : Cl} (hlf : 100 ≤ lf) {x y : Int} {H : AH} {K : AV → AH → Bool} (h0 : 0 ≤ x) (h1 : x < 4) (h2 : 0 ≤ y) (h3 : y < 4) (hk : K (.s (.int .u32 (cellAt x y))) H = true) : B_ref3_Weave lf cl x y H K = true := by
  obtain ⟨m, rfl⟩ : ∃ m, lf = m + 17 := ⟨lf - 17, by omega⟩
  obtain ⟨i, rfl⟩ := Int.eq_ofNat_of_zero_le h0
  obtain ⟨j, rfl⟩ := Int.eq_ofNat_of_zero_le h2
  rcases (by omega : i = 0 ∨ i = 1 ∨ i = 2 ∨ i = 3) with rfl | rfl | rfl | rfl
  · rcases (by omega : j = 0 ∨ j = 1 ∨ j = 2 ∨ j = 3) with rfl | rfl | rfl | rfl
    · exact (weave3_00 m cl H K).trans hk
    · exact (weave3_01 m cl H K).trans hk
    · exact (weave3_02 m cl H K).trans hk
    · exact (weave3_03 m cl H K).trans hk
  · rcases (by omega : j = 0 ∨ j = 1 ∨ j = 2 ∨ j = 3) with rfl | rfl | rfl | rfl
    · exact (weave3_10 m cl H K).trans hk
    · exact (weave3_11 m cl H K).trans hk
    · exact (weave3_12 m cl H K).trans hk
    · exact (weave3_13 m cl H K).trans hk
  · rcases (by omega : j = 0 ∨ j = 1 ∨ j = 2 ∨ j = 3) with rfl | rfl | rfl | rfl
    · exact (weave3_20 m cl H K).trans hk
    · exact (weave3_21 m cl H K).trans hk
    · exact (weave3_22 m cl H K).trans hk
    · exact (weave3_23 m cl H K).trans hk
  · rcases (by omega : j = 0 ∨ j = 1 ∨ j = 2 ∨ j = 3) with rfl | rfl | rfl | rfl
    · exact (weave3_30 m cl H K).trans hk
    · exact (weave3_31 m cl H K).trans hk
    · exact (weave3_32 m cl H K).trans hk
    · exact (weave3_33 m cl H K).trans hk
def CCell3 (cl : Cl) : Prop := ∀ p H K, (∀ H', Le H H' → K (.tup [.s (.int .i64 (ofC p)), .s (.int .i64 (ofE p))]) H' = true) → cl i_ref3_Cell [.agg (ptC p)] H K = true
theorem wrap16 {x : Int} (h0 : 0 ≤ x) (h1 : x < 4) : IntKind.wrap .u16 x = x := lt16 (P := fun c => IntKind.wrap .u16 c = c) (by decide) x h0 (by omega)
theorem B_ref3_Cell_ {lf : Nat} {cl : Cl} (hon : CPtB i_ref3_On On cl) (hw : CWeave3 cl) {p : Pt} {H : AH} {K : AV → AH → Bool} (hk : ∀ H', Le H H' → K (.tup [.s (.int .i64 (ofC p)), .s (.int .i64 (ofE p))]) H' = true) : B_ref3_Cell lf cl (ptC p) H K = true := by
  unfold B_ref3_Cell
  refine new_w fun g H1 hL1 h1 n1 g1 => ?_
  refine rowK_w g1 (ldG_we (ys := ptC p) (by simp [ptC]) (by decide) rfl (hon _ _ _ fun H2 h2 => arB_w ?_))
  rw [fB_eq]
  have g2 := (h2.get _ h1).trans g1
  refine ifA_w (fun hc => ?_) (fun hc => ?_)
  · have hc : On p = false := by simpa using hc
    have := hk H2 (hL1.trans h2)
    unfold ofC ofE at this
    rw [hc] at this
    exact this
  · have hc : On p = true := by simpa using hc
    have hb : 0 ≤ p.x ∧ p.x < 64 ∧ 0 ≤ p.y ∧ p.y < 64 := by unfold On at hc; simpa only [Bool.and_eq_true, decide_eq_true_eq] using hc
    refine rowK_w g2 (ldI_w (n := p.x) rfl ?_)
    rw [show Int.tdiv p.x (Int.ofNat 16) = p.x / 16 from Int.tdiv_eq_ediv_of_nonneg hb.1]
    refine w64_w (by omega) (by omega) ?_
    rw [wrapK_eq, wrap16 (by omega) (by omega)]
    refine rowK_w g2 (ldI_w (n := p.y) rfl ?_)
    rw [show Int.tdiv p.y (Int.ofNat 16) = p.y / 16 from Int.tdiv_eq_ediv_of_nonneg hb.2.2.1]
    refine w64_w (by omega) (by omega) ?_
    rw [wrapK_eq, wrap16 (by omega) (by omega)]
    have hcb := cellAt_b (x := p.x / 16) (y := p.y / 16) (by omega) (by omega) (by omega) (by omega)
    refine hw _ _ _ _ (by omega) (by omega) (by omega) (by omega) (arI_w (w64_w (by omega) (by omega) ?_))
    have := hk H2 (hL1.trans h2)
    unfold ofC ofE at this
    rw [hc] at this
    exact this
end Go.Proofs
end
section
/- The reference's commands: whether one may be done, what it does. -/
namespace Go.Proofs
open Go Go.Vw Go.Vw.Ev
set_option linter.unusedVariables false
set_option linter.unusedSimpArgs false

/-- A row and its table. -/
structure RT (L : List (Int × Th)) (ts : List Th) : Prop where
  rof : RowOf L ts
  nod : (aKeys L).Nodup
  ids : IdOk L
  on : ∀ t ∈ ts, On t.pt = true
theorem RT.len {L : List (Int × Th)} {ts : List Th} (h : RT L ts) : ts.length = L.length := row_len h.rof h.nod h.ids
theorem cell_oneR (p : Pt) (h : On p = true) : 0 ≤ cellOf p ∧ cellOf p < 16 := by
  have : 0 ≤ p.x ∧ p.x < 64 ∧ 0 ≤ p.y ∧ p.y < 64 := by unfold On at h; simpa only [Bool.and_eq_true, decide_eq_true_eq] using h
  exact cellAt_b (by omega) (by omega) (by omega) (by omega)
theorem ofC_in {p : Pt} (h : On p = true) (q : Pt) (hq : On q = true) : inP (cellR (ofC q)) ⟨0, p, fd0, fd0, fd0, fd0⟩ = decide (ofC p = ofC q) := by
  unfold inP
  have eq : ofC q = cellOf q := by unfold ofC; rw [if_pos hq]
  have ep : ofC p = cellOf p := by unfold ofC; rw [if_pos h]
  have hb := cell_oneR q hq
  have := cell_in hb.1 hb.2 p
  rw [eq, ep]
  rw [Bool.eq_iff_iff, decide_eq_true_eq]
  exact this.trans ⟨fun h => h.2, fun e => ⟨h, e⟩⟩
def inCell (ts : List Th) (c : Int) : Nat := (ts.filter fun t => decide (ofC t.pt = c)).length
theorem inCell_full {L : List (Int × Th)} {ts : List Th} (h : RT L ts) {q : Pt} (hq : On q = true) : fullT L q = decide (8 ≤ inCell ts (ofC q)) := by
  unfold fullT
  congr 2
  have hc : isC (ofC q) = true := by
    have := cell_oneR q hq
    unfold ofC isC
    rw [if_pos hq, decide_eq_true this.1, decide_eq_true this.2]; rfl
  have : (cellT L (ofC q)).length = ((cellT L (ofC q)).map (thOf L)).length := by rw [List.length_map]
  rw [this]
  unfold cellT
  rw [if_pos hc, in_row h.rof h.nod h.ids]
  unfold inCell
  congr 1
  refine List.filter_congr fun t ht => ?_
  exact ofC_in (h.on t ht) q hq
def CInCell (cl : Cl) : Prop := ∀ H p n c z ts k K, InT H p n ts → n < 10000 → (∀ H', Le H H' → K (.s (.int .i64 (inCell ts k : Nat))) H' = true) → cl i_ref11_InCell [.s (.slice p n c z), .s (.int .i64 k)] H K = true
theorem B_ref11_InCell_ {lf : Nat} {cl : Cl} (hlf : 100000 ≤ lf) (hcell : CCell3 cl) {H : AH} {p : AP} {n zz : Nat} {c : ACap} {ts : List Th} {k : Int} {K : AV → AH → Bool} (hp : InT H p n ts) (hn : n < 10000)
    (hk : ∀ H', Le H H' → K (.s (.int .i64 (inCell ts k : Nat))) H' = true) : B_ref11_InCell lf cl p n c zz k H K = true := by
  unfold B_ref11_InCell
  have hlt := hp.1
  refine loopX_w (fun x Hx => Le H Hx ∧ ∃ i : Nat, x = ((p, n, c, zz), k, ((inCell (ts.take i) k : Nat) : Int), (i : Int)) ∧ i ≤ n) (fun x => n - x.2.2.2.toNat) ⟨Le.refl _, 0, rfl, by omega⟩ (by simp; omega) ?_
  rintro self x Hx ⟨hL, i, rfl, hi⟩ ih
  simp only [pR_, fB_eq, iLt_dec]
  refine ifA_w (fun hx => ?_) (fun hx => ?_)
  · have hx : i < n := by have := of_decide_eq_true hx; simp only [Int.ofNat_eq_natCast] at this; omega
    have hpt := hp.pt hx
    obtain ⟨g1, rfl, hh1, r1, l1, a1, i1⟩ := hp.at hx
    have r1x := r1.imp (fun e => (hL.get _ hh1).trans e) (fun e => (hL.get _ hh1).trans e)
    simp only [nilK_at, fN_eq, Nat.add_eq, Nat.mul_eq, Nat.zero_add, Nat.add_zero]
    refine idxK_w (by omega) (by omega) (rowK_wo r1x (ldG_we (ys := ptC (ts[i]'(by omega)).pt) (by rw [Int.toNat_natCast]; omega) (by decide) (by rw [Int.toNat_natCast]; exact hpt) ?_))
    refine hcell _ _ _ fun H2 h2 => ?_
    rw [tup2_]
    refine arI_w (arI_w ?_)
    have le : inCell (ts.take i) k ≤ i := Nat.le_trans (List.length_filter_le _ _) (by simp; omega)
    have tk : inCell (ts.take (i + 1)) k = inCell (ts.take i) k + (if ofC (ts[i]'(by omega)).pt = k then 1 else 0) := by
      unfold inCell
      rw [List.take_succ_eq_append_getElem (by omega), List.filter_append, List.length_append, List.filter_cons, List.filter_nil]
      congr 1
      by_cases e : ofC (ts[i]'(by omega)).pt = k
      · rw [if_pos e, if_pos (decide_eq_true e)]; rfl
      · rw [if_neg e, if_neg (by rw [decide_eq_false e]; decide)]; rfl
    simp only [iEq_dec, iAdd_]
    refine ifA_w (fun h => ?_) (fun h => ?_)
    · rw [if_pos (of_decide_eq_true h)] at tk
      exact w64_w (by simp only [Int.ofNat_eq_natCast]; omega) (by simp only [Int.ofNat_eq_natCast]; omega) (w64_w (by simp only [Int.ofNat_eq_natCast]; omega) (by simp only [Int.ofNat_eq_natCast]; omega) (ih _ _ ⟨hL.trans h2, i + 1, by rw [tk]; simp, by omega⟩ (by simp; omega)))
    · rw [if_neg (of_decide_eq_false h)] at tk
      exact w64_w (by simp only [Int.ofNat_eq_natCast]; omega) (by simp only [Int.ofNat_eq_natCast]; omega) (ih _ _ ⟨hL.trans h2, i + 1, by rw [tk]; simp, by omega⟩ (by simp; omega))
  · have hx : i = n := by have := of_decide_eq_false hx; simp only [Int.ofNat_eq_natCast] at this; omega
    rw [show ts.take i = ts from List.take_of_length_le (by omega)]
    exact hk _ hL
/-- What the reference's test tells. -/
noncomputable def chkL (L : List (Int × Th)) (c : Cm) (fr : Bool) : Int :=
  if IsCm c = false ∨ 4 < c.kind then 11 else
  if c.kind = 1 then (if ofE c.pt ≠ 0 then 14 else if 200 ≤ L.length then 16 else if fr = false ∧ fullT L c.pt = true then 16 else 0) else
  if (aGet L c.id).isSome = false then 15 else
  if c.kind = 2 ∧ ofE c.pt ≠ 0 then 14 else
  if c.kind = 3 ∧ (c.which < 0 ∨ 4 ≤ c.which) then 18 else
  if c.kind = 2 ∧ fr = false ∧ awayB (thOf L c.id).pt c.pt = true ∧ fullT L c.pt = true then 16 else 0
def CChk (cl : Cl) : Prop := ∀ H p n c z ts L cm fr K, InT H p n ts → RT L ts → n < 9000 → (∀ H', Le H H' → K (.s (.int .i64 (chkL L cm fr))) H' = true) → cl i_ref11_Check [.s (.slice p n c z), .agg (cmC cm), .s (.bool fr)] H K = true
theorem ofE_14 {p : Pt} (h : ofE p ≠ 0) : On p = false := by
  unfold ofE at h
  split at h
  · exact absurd rfl h
  · rename_i h2; simpa using h2
theorem B_ref11_Check_ {lf : Nat} {cl : Cl} (his : CIs10 cl) (hcell : CCell3 cl) (hinc : CInCell cl) (hat : CAt6 cl) {H : AH} {p : AP} {n zz : Nat} {ca : ACap} {ts : List Th} {L : List (Int × Th)} {c : Cm} {fr : Bool} {K : AV → AH → Bool} (hp : InT H p n ts) (rt : RT L ts) (hn : n < 9000)
    (hk : ∀ H', Le H H' → K (.s (.int .i64 (chkL L c fr))) H' = true) : B_ref11_Check lf cl p n ca zz (cmC c) fr H K = true := by
  unfold B_ref11_Check
  have hlen := rt.len
  have hpn := hp.1
  refine new_w fun g H1 h1 hg ng gg => ?_
  refine rowK_w gg (ldG_we (ys := cmC c) (Nat.le_refl 22) (lb rfl) rfl (his _ _ _ fun H2 h2 => arB_w ?_))
  have h02 := h1.trans h2
  have gx2 := (h2.get _ hg).trans gg
  have hg2 := h2.has _ hg
  clear h1 h2 gg hg ng
  simp only [fB_eq, iLt_dec, iEq_dec, iLe_dec]
  have hd : ∀ {Hx : AH} {e : Int}, Le H Hx → chkL L c fr = e → K (.s (.int .i64 e)) Hx = true := fun hL e => by have := hk _ hL; rw [e] at this; exact this
  refine ifA_w (fun a0 => hd h02 ?_) (fun a0 => ?_)
  · unfold chkL; rw [if_pos (.inl (by simpa using a0))]; rfl
  have b0 : IsCm c = true := by simpa using a0
  refine rowK_w gx2 (ldI_w (n := c.kind) rfl ?_)
  refine ifA_w (fun a1 => hd h02 ?_) (fun a1 => ?_)
  · unfold chkL; rw [if_pos (.inr (of_decide_eq_true a1))]; rfl
  have b1 : ¬ 4 < c.kind := of_decide_eq_false a1
  have n1 : ¬ (IsCm c = false ∨ 4 < c.kind) := by rintro (h | h); · rw [b0] at h; cases h
                                                  · exact b1 h
  refine rowK_w gx2 (ldG_we (ys := ptC c.pt) (lb rfl) (lb rfl) rfl (hcell _ _ _ fun H3 h3 => ?_))
  rw [tup2_]
  refine arI_w (arI_w ?_)
  have gx3 := (h3.get _ hg2).trans gx2
  have h03 := h02.trans h3
  have hg3 := h3.has _ hg2
  refine rowK_w gx3 (ldI_w (n := c.kind) rfl ?_)
  refine ifA_w (fun a2 => ?_) (fun a2 => ?_)
  · have k1 : c.kind = 1 := of_decide_eq_true a2
    refine ifA_w (fun a3 => hd h03 ?_) (fun a3 => ?_)
    · have : ofE c.pt ≠ 0 := by simpa using a3
      unfold chkL; rw [if_neg n1, if_pos k1, if_pos this]; rfl
    have e0 : ¬ ofE c.pt ≠ 0 := by simpa using a3
    have on := ofE_on e0
    refine ifA_w (fun a4 => hd h03 ?_) (fun a4 => ?_)
    · have : 200 ≤ L.length := by have := of_decide_eq_true a4; simp only [Int.ofNat_eq_natCast] at this; omega
      unfold chkL; rw [if_neg n1, if_pos k1, if_neg e0, if_pos this]; rfl
    have n4 : ¬ 200 ≤ L.length := by have := of_decide_eq_false a4; simp only [Int.ofNat_eq_natCast] at this; omega
    refine ifA_w (fun a5 => ?_) (fun a5 => hd h03 ?_)
    · have f0 : fr = false := by simpa using a5
      refine hinc H3 p n ca zz ts _ _ (hp.le h03) (by omega) fun H4 h4 => arI_w ?_
      have ef := inCell_full rt on
      refine ifA_w (fun a6 => hd (h03.trans h4) ?_) (fun a6 => hd (h03.trans h4) ?_)
      · have : fullT L c.pt = true := by rw [ef]; exact decide_eq_true (by have := of_decide_eq_true a6; simp only [Int.ofNat_eq_natCast] at this; omega)
        unfold chkL; rw [if_neg n1, if_pos k1, if_neg e0, if_neg n4, if_pos ⟨f0, this⟩]; rfl
      · have : ¬ (fr = false ∧ fullT L c.pt = true) := fun h => by
          rw [ef] at h
          have := of_decide_eq_true h.2
          have := of_decide_eq_false a6
          simp only [Int.ofNat_eq_natCast] at this; omega
        unfold chkL; rw [if_neg n1, if_pos k1, if_neg e0, if_neg n4, if_neg this]; rfl
    · have : ¬ (fr = false ∧ fullT L c.pt = true) := fun h => by rw [h.1] at a5; cases a5
      unfold chkL; rw [if_neg n1, if_pos k1, if_neg e0, if_neg n4, if_neg this]; rfl
  have k1 : ¬ c.kind = 1 := of_decide_eq_false a2
  refine rowK_w gx3 (ldI_w (n := c.id) rfl ?_)
  refine hat H3 p n ca zz ts c.id _ (hp.le h03) (by omega) fun r hr => arI_w ?_
  have hmem := rt.rof.mem rt.ids c.id
  -- the end: moved into a cell that is full
  refine joinX_w (fun x Hx => Hx = H3 ∧ ∃ (i : Nat) (hi : i < ts.length), ts[i].id = c.id ∧ x = ((p, n, ca, zz), fr, .at g 0, ofC c.pt, (i : Int)) ∧ ¬ (c.kind = 2 ∧ ofE c.pt ≠ 0) ∧ ¬ (c.kind = 3 ∧ (c.which < 0 ∨ 4 ≤ c.which))) ?_ ?_
  · rintro x Hx ⟨rfl, i, hi, he, rfl, m1, m2⟩
    have there : ¬ (aGet L c.id).isSome = false := by rw [hmem.2 ⟨_, List.getElem_mem hi, he⟩]; decide
    have hth : thOf L c.id = ts[i] := thOf_get (by rw [← he]; exact (rt.rof.2 _).1 (List.getElem_mem hi))
    simp only [pR_, nilK_at, fN_eq, Nat.add_eq, Nat.add_zero, Nat.zero_add, Nat.mul_eq]
    have nope : ∀ {Hx : AH}, Le H Hx → ¬ (c.kind = 2 ∧ fr = false ∧ awayB (thOf L c.id).pt c.pt = true ∧ fullT L c.pt = true) → K (.s (.int .i64 (Int.ofNat 0))) Hx = true := fun hL h => hd hL (by
      unfold chkL; rw [if_neg n1, if_neg k1, if_neg there, if_neg m1, if_neg m2, if_neg h]; rfl)
    refine rowK_w gx3 (ldI_w (n := c.kind) rfl ?_)
    refine ifA_w (fun a3 => ?_) (fun a3 => nope h03 fun h => (of_decide_eq_false a3) h.1)
    have k2 : c.kind = 2 := of_decide_eq_true a3
    have e0 : ¬ ofE c.pt ≠ 0 := fun h => m1 ⟨k2, h⟩
    have on := ofE_on e0
    have hin : i < n := by omega
    have hpt := (hp.le h03).pt hin
    obtain ⟨g1, rfl, hh1, r1, l1, a1', i1⟩ := (hp.le h03).at hin
    simp only [nilK_at, Nat.zero_add]
    refine idxK_w (by omega) (by omega) (rowK_wo r1 (ldG_we (ys := ptC ts[i].pt) (by rw [Int.toNat_natCast]; omega) (by decide) (by rw [Int.toNat_natCast]; exact hpt) ?_))
    refine hcell _ _ _ fun H4 h4 => ?_
    rw [tup2_]
    refine arI_w (arI_w ?_)
    have h04 := h03.trans h4
    refine ifA_w (fun a4 => ?_) (fun a4 => nope h04 fun h => by rw [h.2.1] at a4; cases a4)
    have f0 : fr = false := by simpa using a4
    have eaw : awayB (thOf L c.id).pt c.pt = !decide (ofC ts[i].pt = ofC c.pt) := by unfold awayB; rw [hth]
    refine ifA_w (fun a5 => ?_) (fun a5 => nope h04 fun h => by rw [eaw, a5] at h; exact absurd h.2.2.1 (by decide))
    refine hinc H4 _ n ca zz ts _ _ (hp.le h04) (by omega) fun H5 h5 => arI_w ?_
    have h05 := h04.trans h5
    have ef := inCell_full rt on
    refine ifA_w (fun a6 => hd h05 ?_) (fun a6 => nope h05 fun h => ?_)
    · have : fullT L c.pt = true := by rw [ef]; exact decide_eq_true (by have := of_decide_eq_true a6; simp only [Int.ofNat_eq_natCast] at this; omega)
      unfold chkL; rw [if_neg n1, if_neg k1, if_neg there, if_neg m1, if_neg m2, if_pos ⟨k2, f0, by rw [eaw]; exact a5, this⟩]; rfl
    · have h := h.2.2.2
      rw [ef] at h
      have := of_decide_eq_true h
      have := of_decide_eq_false a6
      simp only [Int.ofNat_eq_natCast] at this; omega
  · intro J hJ
    refine ifA_w (fun a3 => ?_) (fun a3 => ?_)
    · have : (aGet L c.id).isSome = false := by
        cases e : (aGet L c.id).isSome with
        | false => rfl
        | true =>
          obtain ⟨t, hm, ht⟩ := hmem.1 e
          rcases hr with ⟨h0, _⟩ | ⟨_, hno⟩
          · have := of_decide_eq_true a3; simp only [Int.ofNat_eq_natCast] at this; omega
          · exact absurd ht (hno t hm)
      exact hd h03 (by unfold chkL; rw [if_neg n1, if_neg k1, if_pos this]; rfl)
    · rcases hr with ⟨h0, i, hi, e, he⟩ | ⟨h0, _⟩
      case inr => exact absurd h0 (by have := of_decide_eq_false a3; simp only [Int.ofNat_eq_natCast] at this; omega)
      subst e
      have there : ¬ (aGet L c.id).isSome = false := by rw [hmem.2 ⟨_, List.getElem_mem hi, he⟩]; decide
      refine joinX_w (fun x Hx => Hx = H3 ∧ x = ((p, n, ca, zz), fr, .at g 0, ofC c.pt, (i : Int), decide (c.kind = 2 ∧ ofE c.pt ≠ 0))) ?_ ?_
      · rintro x Hx ⟨rfl, rfl⟩
        simp only [pR_, nilK_at, fN_eq, Nat.add_eq, Nat.add_zero, Nat.zero_add]
        refine ifA_w (fun a4 => hd h03 (by unfold chkL; rw [if_neg n1, if_neg k1, if_neg there, if_pos (of_decide_eq_true a4)]; rfl)) (fun a4 => ?_)
        have m1 := of_decide_eq_false a4
        refine rowK_w gx3 (ldI_w (n := c.kind) rfl ?_)
        refine ifA_w (fun a5 => ?_) (fun a5 => hJ _ _ ⟨rfl, i, hi, he, rfl, m1, fun h => (of_decide_eq_false a5) h.1⟩)
        have k3 : c.kind = 3 := of_decide_eq_true a5
        refine rowK_w gx3 (ldI_w (n := c.which) rfl ?_)
        refine ifA_w (fun a6 => hd h03 (by unfold chkL; rw [if_neg n1, if_neg k1, if_neg there, if_neg m1, if_pos ⟨k3, .inl (of_decide_eq_true a6)⟩]; rfl)) (fun a6 => ?_)
        refine rowK_w gx3 (ldI_w (n := c.which) rfl ?_)
        refine ifA_w (fun a7 => hd h03 (by unfold chkL; rw [if_neg n1, if_neg k1, if_neg there, if_neg m1, if_pos ⟨k3, .inr (of_decide_eq_true a7)⟩]; rfl)) (fun a7 => hJ _ _ ⟨rfl, i, hi, he, rfl, m1, fun h => h.2.elim (of_decide_eq_false a6) (of_decide_eq_false a7)⟩)
      · intro J2 hJ2
        refine rowK_w gx3 (ldI_w (n := c.kind) rfl ?_)
        refine ifA_w (fun a4 => hJ2 _ _ ⟨rfl, ?_⟩) (fun a4 => hJ2 _ _ ⟨rfl, ?_⟩)
        · have k2 : c.kind = 2 := of_decide_eq_true a4
          congr 5
          by_cases e : ofE c.pt = 0
          · rw [show decide (ofE c.pt = Int.ofNat 0) = true from decide_eq_true e, decide_eq_false (fun h => h.2 e)]; rfl
          · rw [show decide (ofE c.pt = Int.ofNat 0) = false from decide_eq_false e, decide_eq_true ⟨k2, e⟩]; rfl
        · rw [decide_eq_false (fun h => (of_decide_eq_false a4) h.1)]
end Go.Proofs
end
section
/- The reference's commands: the doing. -/
namespace Go.Proofs
open Go Go.Vw Go.Vw.Ev
set_option linter.unusedVariables false
set_option linter.unusedSimpArgs false

def CDone11 (cl : Cl) : Prop := ∀ H p n c z ts L cm id K, InT H p n ts → RT L ts → n < 9000 → Pre L cm → (cm.kind = 1 → canPut L id = true) →
  (∀ H' p' c' z' us, Le H H' → Sl H H' p' us.length z' (thsC us) 11 → RowOf (doneL L cm id) us → us.length ≤ n + 1 → K (.s (.slice p' us.length c' z')) H' = true) → cl i_ref11_Done [.s (.slice p n c z), .agg (cmC cm), .s (.int .i64 id)] H K = true
theorem B_ref11_Done_ {lf : Nat} {cl : Cl} (hwith : CWith cl) (hwo : CWithoutS cl) (hat : CAt6 cl) {H : AH} {p : AP} {n zz : Nat} {ca : ACap} {ts : List Th} {L : List (Int × Th)} {c : Cm} {id : Int} {K : AV → AH → Bool} (hp : InT H p n ts) (rt : RT L ts) (hn : n < 9000) (pre : Pre L c) (hcan : c.kind = 1 → canPut L id = true)
    (hk : ∀ H' p' c' z' us, Le H H' → Sl H H' p' us.length z' (thsC us) 11 → RowOf (doneL L c id) us → us.length ≤ n + 1 → K (.s (.slice p' us.length c' z')) H' = true) : B_ref11_Done lf cl p n ca zz (cmC c) id H K = true := by
  unfold B_ref11_Done
  have hpn := hp.1
  have wl : ∀ t : Th, (withF t false ts).length ≤ n + 1 := fun t => by have := withF_len t ts false; simp at this; omega
  refine new_w fun g H1 h1 hg ng gg => ?_
  refine rowK_w gg (ldI_w (n := c.kind) rfl ?_)
  rw [fB_eq, iEq_dec]
  refine ifA_w (fun e1 => ?_) (fun e1 => ?_)
  · have k1 : c.kind = 1 := of_decide_eq_true e1
    refine rowK_w gg (ldG_we (ys := ptC c.pt) (lb rfl) (lb rfl) rfl (rowK_w gg (ldG_we (ys := fsC c) (lb rfl) (lb rfl) rfl (okK_w rfl (okK_w rfl (fL_w ?_))))))
    rw [ap_eq, ap_eq, List.append_nil]
    refine hwith H1 p n ca zz ts (putT c id) _ (hp.le h1) (by omega) fun H2 p' c' z' h2 sl => ?_
    rw [asSl_]
    refine hk _ _ _ _ _ (h1.trans h2) (Sl.base sl h1) ?_ (wl _)
    unfold doneL
    rw [if_pos k1, if_pos (hcan k1)]
    exact rt.rof.set (putT c id)
  have k1 : ¬ c.kind = 1 := of_decide_eq_false e1
  refine rowK_w gg (ldI_w (n := c.id) rfl ?_)
  refine hat H1 p n ca zz ts c.id _ (hp.le h1) (by omega) fun r hr => arI_w ?_
  have hmem := rt.rof.mem rt.ids c.id
  have there := pre.there k1
  rcases hr with ⟨h0, i, hi, e, he⟩ | ⟨h0, hno⟩
  case inr =>
    obtain ⟨t, hm, ht⟩ := hmem.1 there
    exact absurd ht (hno t hm)
  subst e
  have hth : thOf L c.id = ts[i] := thOf_get (by rw [← he]; exact (rt.rof.2 _).1 (List.getElem_mem hi))
  have hin : i < n := by omega
  obtain ⟨g1, rfl, hh1, r1, l1, a1', i1⟩ := (hp.le h1).at hin
  simp only [nilK_at, fN_eq, Nat.add_eq, Nat.mul_eq, Nat.zero_add, Nat.add_zero]
  refine idxK_w (by omega) (by omega) (rowK_wo r1 (ldG_we (ys := thC ts[i]) (by rw [Int.toNat_natCast]; exact l1) (by decide) (by rw [Int.toNat_natCast]; exact a1') ?_))
  refine tmp_w rfl rfl fun gx H2 h2 hgx ngx ggx => ?_
  have h02 := h1.trans h2
  have gg2 := (h2.get _ hg).trans gg
  have nHx : ¬ H.has gx := fun h => ngx (h1.has _ h)
  have nax : g ≠ gx := fun e => ngx (e ▸ hg)
  refine joinX_w (fun x Hx => x = ((.at g1 0, n, ca, zz), .at gx 0) ∧ Le H Hx ∧ ∃ t : Th, Hx.get gx = some (.row (thC t)) ∧ t.id = c.id ∧ doneL L c id = aSet L c.id t) ?_ ?_
  · rintro x Hx ⟨rfl, hL, t, gt, ht, hd⟩
    simp only [pR_, nilK_at]
    refine rowK_w gt (ldG_we (ys := thC t) (by rw [thC_len]; decide) (by decide) (thC_all _) ?_)
    refine hwith Hx _ n ca zz ts t _ (hp.le hL) (by omega) fun H3 p' c' z' h3 sl => ?_
    rw [asSl_]
    refine hk _ _ _ _ _ (hL.trans h3) (Sl.base sl hL) ?_ (wl _)
    rw [hd, ← ht]
    exact rt.rof.set t
  · intro J hJ
    refine rowK_w gg2 (ldI_w (n := c.kind) rfl ?_)
    rw [fB_eq, iEq_dec]
    refine ifA_w (fun e2 => ?_) (fun e2 => ?_)
    · have k2 : c.kind = 2 := of_decide_eq_true e2
      refine rowK_w gg2 (ldG_we (ys := ptC c.pt) (lb rfl) (lb rfl) rfl ?_)
      refine stoN_we (ds := thC { ts[i] with pt := c.pt }) ggx rfl (by rw [thC_len]; decide) rfl ?_
      exact hJ _ _ ⟨rfl, h02.put nHx _, _, get_put _ _ _, he, by unfold doneL; rw [if_neg k1, if_pos k2, hth]⟩
    have k2 : ¬ c.kind = 2 := of_decide_eq_false e2
    rw [fB_eq, iEq_dec]
    refine ifA_w (fun e3 => ?_) (fun e3 => ?_)
    · have k3 : c.kind = 3 := of_decide_eq_true e3
      obtain ⟨w0, w1⟩ := pre.set k3
      refine rowK_w gg2 (ldI_w (n := c.which) rfl (rowK_w gg2 (ldG_we (ys := fdC c.v) (lb rfl) (lb rfl) rfl (idxK_w w0 (by omega) ?_))))
      obtain ⟨w, hw⟩ := Int.eq_ofNat_of_zero_le w0
      have hc := setF_C ts[i] c.v w (by omega)
      refine stoN_we (ds := thC (setF ts[i] c.which c.v)) ggx rfl (by rw [thC_len, hw]; simp only [Int.toNat_natCast]; omega) (by rw [hw]; exact hc) ?_
      obtain ⟨s1, s2⟩ := setF_id ts[i] c.which c.v
      exact hJ _ _ ⟨rfl, h02.put nHx _, _, get_put _ _ _, by rw [s1]; exact he, by unfold doneL; rw [if_neg k1, if_neg k2, if_pos k3, hth]⟩
    have k3 : ¬ c.kind = 3 := of_decide_eq_false e3
    refine rowK_w gg2 (ldI_w (n := c.id) rfl ?_)
    refine hwo H2 _ n ca zz ts c.id _ (hp.le h02) (by omega) fun H3 p' c' z' h3 sl => ?_
    rw [asSl_]
    refine hk _ _ _ _ _ (h02.trans h3) (Sl.base sl h02) ?_ (by have := List.length_filter_le (notId c.id) ts; omega)
    unfold doneL
    rw [if_neg k1, if_neg k2, if_neg k3]
    exact rt.rof.del c.id
/-- What the reference's doing tells. -/
noncomputable def rE (L : List (Int × Th)) (c : Cm) (id : Int) (fr : Bool) : Int := if chkL L c fr = 0 then (if c.kind = 1 ∧ canPut L id = false then 11 else 0) else chkL L c fr
noncomputable def rN (L : List (Int × Th)) (c : Cm) (id : Int) (fr : Bool) : Int := if rE L c id fr = 0 then (if c.kind = 1 then id else c.id) else 0
noncomputable def rL (L : List (Int × Th)) (c : Cm) (id : Int) (fr : Bool) : List (Int × Th) := if rE L c id fr = 0 then doneL L c id else L
theorem ofE_0 {p : Pt} (h : ¬ ofE p ≠ 0) : On p = true := ofE_on h
theorem pre_chk {L : List (Int × Th)} {c : Cm} {fr : Bool} (h : chkL L c fr = 0) (hk : 1 ≤ c.kind) : Pre L c := by
  unfold chkL at h
  by_cases n1 : IsCm c = false ∨ 4 < c.kind
  · rw [if_pos n1] at h; exact absurd h (by decide)
  rw [if_neg n1] at h
  have k4 : c.kind ≤ 4 := by have : ¬ 4 < c.kind := fun h => n1 (.inr h); omega
  by_cases k1 : c.kind = 1
  · rw [if_pos k1] at h
    by_cases e : ofE c.pt ≠ 0
    · rw [if_pos e] at h; exact absurd h (by decide)
    · exact ⟨fun _ => ofE_on e, fun h => absurd k1 h, fun h => by omega, fun h => by omega, hk, k4⟩
  rw [if_neg k1] at h
  by_cases a : (aGet L c.id).isSome = false
  · rw [if_pos a] at h; exact absurd h (by decide)
  rw [if_neg a] at h
  by_cases m1 : c.kind = 2 ∧ ofE c.pt ≠ 0
  · rw [if_pos m1] at h; exact absurd h (by decide)
  rw [if_neg m1] at h
  by_cases m2 : c.kind = 3 ∧ (c.which < 0 ∨ 4 ≤ c.which)
  · rw [if_pos m2] at h; exact absurd h (by decide)
  exact ⟨fun h => absurd h k1, fun _ => (by cases e : (aGet L c.id).isSome with
    | true => rfl
    | false => exact absurd e a), fun k2 => ofE_on fun h => m1 ⟨k2, h⟩, fun k3 => ⟨by have : ¬ c.which < 0 := fun h => m2 ⟨k3, .inl h⟩; omega, by have : ¬ 4 ≤ c.which := fun h => m2 ⟨k3, .inr h⟩; omega⟩, hk, k4⟩
theorem isCm_kind {c : Cm} (h : IsCm c = true) : 1 ≤ c.kind := by
  unfold IsCm kindB at h
  simp only [Bool.and_eq_true, decide_eq_true_eq] at h
  exact h.2.1.1
theorem chk_kind {L : List (Int × Th)} {c : Cm} {fr : Bool} (h : chkL L c fr = 0) : 1 ≤ c.kind := by
  unfold chkL at h
  by_cases n1 : IsCm c = false ∨ 4 < c.kind
  · rw [if_pos n1] at h; exact absurd h (by decide)
  · exact isCm_kind (by
      cases e : IsCm c with
      | true => rfl
      | false => exact absurd (.inl e) n1)
def CDo11 (cl : Cl) : Prop := ∀ H p n c z ts L cm id fr K, InT H p n ts → (∀ a, ownP p a → H.has a) → RT L ts → n < 9000 →
  (∀ H' p' n' c' z' us, Le H H' → InT H' p' n' us → (∀ a, ownP p' a → H'.has a) → (∀ a, ownP p' a → ownP p a ∨ ¬ H.has a) → RowOf (rL L cm id fr) us → us.length ≤ n + 1 → K (.tup [.s (.slice p' n' c' z'), .s (.int .i64 (rN L cm id fr)), .s (.int .i64 (rE L cm id fr))]) H' = true) →
  cl i_ref11_Do [.s (.slice p n c z), .agg (cmC cm), .s (.int .i64 id), .s (.bool fr)] H K = true
theorem B_ref11_Do_ {lf : Nat} {cl : Cl} (hchk : CChk cl) (hat : CAt6 cl) (hdone : CDone11 cl) {H : AH} {p : AP} {n zz : Nat} {ca : ACap} {ts : List Th} {L : List (Int × Th)} {c : Cm} {id : Int} {fr : Bool} {K : AV → AH → Bool} (hp : InT H p n ts) (hown : ∀ a, ownP p a → H.has a) (rt : RT L ts) (hn : n < 9000)
    (hk : ∀ H' p' n' c' z' us, Le H H' → InT H' p' n' us → (∀ a, ownP p' a → H'.has a) → (∀ a, ownP p' a → ownP p a ∨ ¬ H.has a) → RowOf (rL L c id fr) us → us.length ≤ n + 1 → K (.tup [.s (.slice p' n' c' z'), .s (.int .i64 (rN L c id fr)), .s (.int .i64 (rE L c id fr))]) H' = true) : B_ref11_Do lf cl p n ca zz (cmC c) id fr H K = true := by
  unfold B_ref11_Do
  have hpn := hp.1
  refine new_w fun g H1 h1 hg ng gg => ?_
  refine rowK_w gg (ldG_we (ys := cmC c) (Nat.le_refl 22) (lb rfl) rfl (hchk H1 p n ca zz ts L c fr _ (hp.le h1) rt hn fun H2 h2 => arI_w ?_))
  have h02 := h1.trans h2
  have gg2 := (h2.get _ hg).trans gg
  have hg2 := h2.has _ hg
  refine joinX_w (fun x Hx => Hx = H2 ∧ x = ((p, n, ca, zz), id, .at g 0, rE L c id fr)) ?_ ?_
  · rintro x Hx ⟨rfl, rfl⟩
    simp only [pR_, fB_eq, iEq_dec]
    refine ifA_w (fun a => ?_) (fun a => ?_)
    · have ne : rE L c id fr ≠ 0 := by simpa using a
      have := hk Hx p n ca zz ts h02 (hp.le h02) (fun a ha => h02.has _ (hown a ha)) (fun a ha => .inl ha) (by unfold rL; rw [if_neg ne]; exact rt.rof) (by omega)
      unfold rN at this
      rw [if_neg ne] at this
      exact this
    · have e0 : rE L c id fr = 0 := by simpa using a
      have c0 : chkL L c fr = 0 := by
        unfold rE at e0
        split at e0
        · assumption
        · exact e0
      have pre := pre_chk c0 (chk_kind c0)
      have can : c.kind = 1 → canPut L id = true := fun k1 => by
        unfold rE at e0
        rw [if_pos c0] at e0
        cases h : canPut L id with
        | true => rfl
        | false => rw [if_pos ⟨k1, h⟩] at e0; cases e0
      have go : ∀ {K' : AV → AH → Bool}, (∀ H' p' c' z' us, Le Hx H' → Sl Hx H' p' us.length z' (thsC us) 11 → RowOf (doneL L c id) us → us.length ≤ n + 1 → K' (.s (.slice p' us.length c' z')) H' = true) → cl i_ref11_Done [.s (.slice p n ca zz), .agg (cmC c), .s (.int .i64 id)] Hx K' = true :=
        fun h => hdone Hx p n ca zz ts L c id _ (hp.le h02) rt hn pre can h
      have fin : ∀ H' p' c' z' us, Le Hx H' → Sl Hx H' p' us.length z' (thsC us) 11 → RowOf (doneL L c id) us → us.length ≤ n + 1 → K (.tup [.s (.slice p' us.length c' z'), .s (.int .i64 (rN L c id fr)), .s (.int .i64 (rE L c id fr))]) H' = true := fun H' p' c' z' us h' sl ro lo =>
        hk H' p' _ c' z' us (h02.trans h') (Sl.inT sl rfl) (fun a ha => (Sl.own sl).2 a ha) (fun a ha => .inr fun h => (Sl.own sl).1 a ha (h02.has _ h)) (by unfold rL; rw [if_pos e0]; exact ro) lo
      rw [e0] at fin
      simp only [nilK_at, fN_eq, Nat.add_eq, Nat.add_zero, Nat.zero_add]
      refine rowK_w gg2 (ldI_w (n := c.kind) rfl ?_)
      refine ifA_w (fun e1 => ?_) (fun e1 => ?_)
      · have k1 : c.kind = 1 := of_decide_eq_true e1
        refine rowK_w gg2 (ldG_we (ys := cmC c) (Nat.le_refl 22) (lb rfl) rfl (go fun H' p' c' z' us h' sl ro lo => ?_))
        rw [asSl_]
        have := fin H' p' c' z' us h' sl ro lo
        unfold rN at this
        rw [if_pos e0, if_pos k1] at this
        exact this
      · have k1 : ¬ c.kind = 1 := of_decide_eq_false e1
        refine rowK_w gg2 (ldG_we (ys := cmC c) (Nat.le_refl 22) (lb rfl) rfl (getK_w gg2 (rowK_w gg2 (ldI_w (n := c.id) rfl (go fun H' p' c' z' us h' sl ro lo => ?_)))))
        rw [asSl_]
        have := fin H' p' c' z' us h' sl ro lo
        unfold rN at this
        rw [if_pos e0, if_neg k1] at this
        exact okK_w (kSame_row ((h'.get _ hg2).trans gg2) (leafy_cm c) rfl) this
  · intro J hJ
    have hmem := rt.rof.mem rt.ids id
    rw [fB_eq, iEq_dec]
    refine ifA_w (fun a => ?_) (fun a => hJ _ _ ⟨rfl, by unfold rE; rw [if_neg (show ¬ chkL L c fr = 0 from of_decide_eq_false a)]⟩)
    have c0 : chkL L c fr = 0 := of_decide_eq_true a
    refine rowK_w gg2 (ldI_w (n := c.kind) rfl ?_)
    rw [fB_eq, iEq_dec]
    refine ifA_w (fun e1 => ?_) (fun e1 => hJ _ _ ⟨rfl, by unfold rE; rw [if_pos c0, if_neg fun h => (of_decide_eq_false e1) h.1, c0]⟩)
    have k1 : c.kind = 1 := of_decide_eq_true e1
    have no : canPut L id = false → rE L c id fr = 11 := fun h => by unfold rE; rw [if_pos c0, if_pos ⟨k1, h⟩]
    rw [fB_eq, iLt_dec]
    refine ifA_w (fun e3 => hJ _ _ ⟨rfl, by rw [no (by unfold canPut; rw [decide_eq_false (show ¬ 0 ≤ id from by have h : id < 0 := of_decide_eq_true e3; omega)]; simp)]; rfl⟩) (fun e3 => ?_)
    rw [fB_eq, iLt_dec]
    refine ifA_w (fun e4 => hJ _ _ ⟨rfl, by rw [no (by unfold canPut; rw [decide_eq_false (show ¬ id ≤ 1000000 from by have h : 1000000 < id := of_decide_eq_true e4; omega)]; simp)]; rfl⟩) (fun e4 => ?_)
    have b0 : 0 ≤ id := by have h : ¬ id < 0 := of_decide_eq_false e3; omega
    have b1 : id ≤ 1000000 := by have h : ¬ 1000000 < id := of_decide_eq_false e4; omega
    refine hat H2 p n ca zz ts id _ (hp.le h02) (by omega) fun r hr => arI_w ?_
    rw [fB_eq, iLe_dec]
    refine ifA_w (fun e5 => hJ _ _ ⟨rfl, ?_⟩) (fun e5 => hJ _ _ ⟨rfl, ?_⟩)
    · rcases hr with ⟨h0, i, hi, e, he⟩ | ⟨h0, _⟩
      · have hs : (aGet L id).isSome = true := hmem.2 ⟨_, List.getElem_mem hi, he⟩
        rw [no (by unfold canPut; rw [hs]; rfl)]; rfl
      · exact absurd (of_decide_eq_true e5) (by simp only [Int.ofNat_eq_natCast]; omega)
    · have hs : (aGet L id).isSome = false := by
        cases e : (aGet L id).isSome with
        | false => rfl
        | true =>
          obtain ⟨t, hm, ht⟩ := hmem.1 e
          rcases hr with ⟨h0, _⟩ | ⟨_, hno⟩
          · exact absurd h0 (by have := of_decide_eq_false e5; simp only [Int.ofNat_eq_natCast] at this; omega)
          · exact absurd ht (hno t hm)
      have hc : canPut L id = true := by unfold canPut; rw [hs, decide_eq_true b0, decide_eq_true b1]; rfl
      unfold rE
      rw [if_pos c0, if_neg fun h => by rw [hc] at h; exact absurd h.2 (by decide), c0]
end Go.Proofs
end
section
/- WorldPlays: the walk. -/
namespace Go.Proofs
open Go Go.Vw Go.Vw.Ev
set_option linter.unusedVariables false
set_option linter.unusedSimpArgs false

theorem ofE_14w {p : Pt} (h : ofE p ≠ 0) : ofE p = 14 := by
  unfold ofE at *
  split at h
  · exact absurd rfl h
  · rename_i hp; rw [if_neg hp]
theorem chk_w (L : List (Int × Th)) (c : Cm) : chkL L c true = if wGo L c then 0 else checkE L c := by
  have h14 := @ofE_14w c.pt
  have hg : (wGo L c) = (checkE L c = 0 ∨ (checkE L c = 16 ∧ (c.kind ≠ 1 ∨ L.length < 200))) := rfl
  by_cases h : wGo L c
  · rw [if_pos h]
    rw [hg] at h
    unfold checkE at h
    unfold chkL
    grind
  · rw [if_neg h]
    rw [hg] at h
    unfold checkE at *
    unfold chkL
    grind
theorem rE_w (L : List (Int × Th)) (c : Cm) (id : Int) : rE L c id true = wE L c id := by
  unfold rE wE doneB
  rw [chk_w]
  by_cases h : wGo L c
  · rw [if_pos h, if_pos h]
    grind
  · have : checkE L c ≠ 0 := fun e => h (.inl e)
    rw [if_neg h, if_neg h, if_neg this]
theorem rN_w (L : List (Int × Th)) (c : Cm) (id : Int) : rN L c id true = wN L c id := by
  unfold rN wN
  rw [rE_w]
  by_cases h : wE L c id = 0
  · rw [if_pos h, if_pos h]
    unfold doneN
    by_cases k1 : c.kind = 1
    · have hc : canPut L id = true := by
        unfold wE at h
        by_cases g : wGo L c
        · rw [if_pos g] at h
          unfold doneB at h
          rw [if_pos k1] at h
          cases e : canPut L id with
          | true => rfl
          | false => rw [e] at h; cases h
        · rw [if_neg g] at h; exact absurd (.inl h) g
      rw [if_pos k1, if_pos k1, if_pos hc]
    · rw [if_neg k1, if_neg k1]
  · rw [if_neg h, if_neg h]
theorem rL_w (L : List (Int × Th)) (c : Cm) (id : Int) : rL L c id true = wL L c id := by
  unfold rL wL
  rw [rE_w]
def cm0 : Cm := ⟨0, 0, 0, 0, ⟨0, 0⟩, fdZ, fdZ, fdZ, fdZ, fdZ, 0, 0, ⟨0, 0, 0, 0⟩⟩
/-- The world behind so many commands. -/
noncomputable def wF (ts : List Cm) (ids : List Int) : Nat → List (Int × Th)
  | 0 => []
  | i + 1 => wL (wF ts ids i) (ts.getD i cm0) (ids.getD i 0)
theorem wF_len (ts : List Cm) (ids : List Int) : ∀ i, (wF ts ids i).length ≤ i
  | 0 => by simp [wF]
  | i + 1 => by have := wF_len ts ids i; have := wL_len (wF ts ids i) (ts.getD i cm0) (ids.getD i 0); unfold wF; omega
theorem getD_lt {α : Type} (l : List α) (d : α) {i : Nat} (h : i < l.length) : l.getD i d = l[i] := by simp [List.getD, h]
theorem getD_ge {α : Type} (l : List α) (d : α) {i : Nat} (h : ¬ i < l.length) : l.getD i d = d := by simp [List.getD, h]
def CWOfF (cl : Cl) : Prop := ∀ H p n c z1 q m d z2 ts ids K, InC H p n ts → InI H q m .i64 ids → n ≤ 100 → (∀ H' w O, Le H H' → WW H' w (wF ts ids n) O → (∀ a, O a → ¬ H.has a) → K (.s (.ptr (.at w 0))) H' = true) → cl i_world_Of [.s (.slice p n c z1), .s (.slice q m d z2)] H K = true
theorem W_world_OfF {lf : Nat} {cl : Cl} (hlf : 1000 ≤ lf) (hnew : CWNew cl) (hdo : CWDo cl) {H : AH} {p q : AP} {n m z1 z2 : Nat} {c d : ACap} {ts : List Cm} {ids : List Int} {K : AV → AH → Bool} (hI : InC H p n ts) (hJ : InI H q m .i64 ids) (hn : n ≤ 100)
    (hk : ∀ H' w O, Le H H' → WW H' w (wF ts ids n) O → (∀ a, O a → ¬ H.has a) → K (.s (.ptr (.at w 0))) H' = true) : B_world_Of lf cl p n c z1 q m d z2 H K = true := by
  unfold B_world_Of
  refine hnew _ _ fun H1 w O h1 w1 zz1 => ?_
  rw [asP_]
  refine loopX_w (fun x Hx => x.1 = (q, m, d, z2) ∧ x.2.1 = .at w 0 ∧ x.2.2.1 = (p, n, c, z1) ∧ x.2.2.2.1 = (n : Int) ∧ ∃ i : Nat, x.2.2.2.2 = (i : Int) ∧ i ≤ n ∧ Le H Hx ∧ ∃ O, WW Hx w (wF ts ids i) O ∧ (∀ a, O a → ¬ H.has a)) (fun x => 110 - x.2.2.2.2.toNat)
    ⟨rfl, rfl, rfl, rfl, 0, rfl, by omega, h1, O, w1, zz1⟩ (by simp; omega) ?_
  clear w1 zz1 h1 O H1
  rintro self ⟨x1, x2, x3, x4, x5⟩ H1 ⟨e1, e2, e3, e4, i, e5, hi, hL1, O, ww, hz⟩ ih
  simp only at e1 e2 e3 e4 e5
  subst e1 e2 e3 e4 e5
  simp only [pR_, fB_eq, iLt_dec]
  refine ifA_w (fun hx => ?_) (fun hx => ?_)
  case refine_2 =>
    have hx : i = n := by have := of_decide_eq_false hx; omega
    subst hx
    exact hk _ _ _ hL1 ww hz
  have hx : i < n := by have := of_decide_eq_true hx; omega
  refine (hI.le hL1).read hx (tmp_w rfl rfl fun gc H2 h2 hc nc gc2 => ?_)
  have hti : i < ts.length := by rw [hI.1]; exact hx
  have ecm := getD_lt ts cm0 hti
  generalize ts[i]'hti = cmd at *
  have hL2 := hL1.trans h2
  refine joinX_w (fun x Hx => Hx = H2 ∧ x = ((q, m, d, z2), .at w 0, .at gc 0, ids.getD i 0, (p, n, c, z1), (n : Int), (i : Int))) ?_ ?_
  · rintro x Hx ⟨rfl, rfl⟩
    simp only [pR_, nilK_at]
    refine rowK_w gc2 (ldG_we (ys := cmC cmd) (lb rfl) (lb rfl) rfl ?_)
    have := wF_len ts ids i
    refine hdo Hx w _ O cmd (ids.getD i 0) _ (ww.le h2) (by omega) fun H3 O3 f3 w3 o3 => ?_
    rw [tup2_]
    refine arI_w (arI_w ?_)
    exact w64_w (by simp only [iAdd_, Int.ofNat_eq_natCast]; omega) (by simp only [iAdd_, Int.ofNat_eq_natCast]; omega) (ih _ _ ⟨rfl, rfl, rfl, rfl, i + 1, by simp [iAdd_], by omega, fr_leW hL2 f3 hz, O3, by unfold wF; rw [ecm]; exact w3, fun a h => (o3 a h).elim (hz a) fun h hh => h (hL2.has _ hh)⟩ (by simp [iAdd_]; omega))
  · intro J hJ'
    refine ifA_w (fun hy => ?_) (fun hy => hJ' _ _ ⟨rfl, ?_⟩)
    · have hy : i < m := by have := of_decide_eq_true hy; simp only [Int.ofNat_eq_natCast] at this; omega
      have hyi : i < ids.length := by rw [hJ.1]; exact hy
      have ei := getD_lt ids 0 hyi
      exact (hJ.le hL2).read hy (hJ' _ _ ⟨rfl, by rw [ei]⟩)
    · have hy : ¬ i < m := by have := of_decide_eq_false hy; simp only [Int.ofNat_eq_natCast] at this; omega
      rw [getD_ge ids 0 (by rw [hJ.1]; exact hy)]; rfl
theorem WW.rt {H : AH} {w : Pn} {L : List (Int × Th)} {O : Pn → Prop} (h : WW H w L O) {ts : List Th} (r : RowOf L ts) : RT L ts := by
  obtain ⟨g, Og, h1, h2, h3, h4, rfl⟩ := h
  obtain ⟨nod, ids⟩ := TT.ids h3
  refine ⟨r, nod, ids, fun t ht => ?_⟩
  have e := (r.2 t).1 ht
  have := (TT.at h3 (k := t.id) (by rw [e]; rfl)).2.1
  rw [thOf_get e] at this
  exact this
theorem WW.ids {H : AH} {w : Pn} {L : List (Int × Th)} {O : Pn → Prop} (h : WW H w L O) : (aKeys L).Nodup ∧ IdOk L := by
  obtain ⟨g, Og, h1, h2, h3, h4, rfl⟩ := h
  exact TT.ids h3
theorem B_law12_WorldPlays_ {lf : Nat} {cl : Cl} (hlf : 1000 ≤ lf) (hkn : ∀ H K, cl i_law12_known [] H K = K (.s (.bool true)) H) (hfew : CFewC12 cl) (hnew : CWNew cl) (hcopy : CWCopy cl) (hdo : CWDo cl) (hrdo : CDo11 cl) (hall : CWAll cl) (hsee : CWSee cl) (hseen : CSeen cl) (hlen : CWLen cl) (hof : CWOfF cl) (hsame : CSame6 cl)
    {H : AH} {q q1 : AP} {m m1 : Nat} {qc qc1 : ACap} {l : List Cm} {ids : List Int} {rc : Rc} (hI : InC H q m l) (hJ : InI H q1 m1 .i64 ids) : B_law12_WorldPlays lf cl q m qc 22 q1 m1 qc1 1 (rcC rc) H isT = true := by
  unfold B_law12_WorldPlays
  refine new_w fun gr H1 h1 hgr ngr ggr => ?_
  rw [hkn]
  refine arB_w (fBf_w' rfl ?_)
  simp only [fB_eq, iLt_dec]
  refine ifA_w (fun _ => rfl) (fun hm => ?_)
  have hm : m ≤ 50 := by have := of_decide_eq_false hm; simp only [Int.ofNat_eq_natCast] at this; omega
  replace hI := hI.le h1
  replace hJ := hJ.le h1
  clear ngr
  refine hnew _ _ fun H2 w O h2 ww hz => ?_
  rw [asP_]
  refine loopX_w (fun x Hx => ∃ (i : Nat) (O : Pn → Prop) (p : AP) (n : Nat) (c : ACap) (z : Nat) (ts : List Th), x = ((q, m, qc, 22), (q1, m1, qc1, 1), .at gr 0, .at w 0, (p, n, c, z), (i : Int)) ∧ i ≤ m ∧ Le H1 Hx ∧ WW Hx w (wF l ids i) O ∧ (∀ a, O a → ¬ H1.has a) ∧ InT Hx p n ts ∧ (∀ a, ownP p a → ¬ O a) ∧ (∀ a, ownP p a → Hx.has a) ∧ RowOf (wF l ids i) ts) (fun x => 60 - x.2.2.2.2.2.toNat)
    ⟨0, O, .nil, 0, _, _, [], rfl, by omega, h2, ww, hz, ⟨rfl, fun h => absurd rfl h⟩, fun a ⟨o, e⟩ => (by cases e), fun a ⟨o, e⟩ => (by cases e), RowOf.nil⟩ (by simp; omega) ?_
  clear ww hz h2 H2 O
  rintro self x Hx ⟨i, O, p, n, c, z, ts, rfl, hi, hL, ww, hz, row, own, ownh, rof⟩ ih
  simp only [pR_, fB_eq, iLt_dec]
  have hnn := row.1
  have hwl := wF_len l ids i
  have rt := WW.rt ww rof
  have hLn : (wF l ids i).length = n := by rw [← rt.len, row.1]
  refine ifA_w (fun hx => ?_) (fun hx => ?_)
  · have hx : i < m := by have := of_decide_eq_true hx; simp only [Int.ofNat_eq_natCast] at this; omega
    have hli : i < l.length := by rw [hI.1]; exact hx
    refine (hI.le hL).read hx (hfew _ _ _ fun H2 b h2 => arB_w ?_)
    refine ifA_w (fun _ => rfl) (fun _ => ?_)
    have hL2 := hL.trans h2
    have eF : wF l ids (i + 1) = wL (wF l ids i) (l[i]'hli) (ids.getD i 0) := by rw [← getD_lt l cm0 hli]; rfl
    refine joinX_w (fun x Hy => Hy = H2 ∧ x = ((q, m, qc, 22), (q1, m1, qc1, 1), .at gr 0, .at w 0, (p, n, c, z), (i : Int), ids.getD i 0)) ?_ ?_
    · rintro x Hy ⟨rfl, rfl⟩
      simp only [pR_]
      refine hcopy Hy w _ O _ (ww.le h2) fun H3 wc Oc h3 wcc zc => ?_
      rw [asP_]
      have h23 := h2.trans h3
      have hL3 := hL.trans h23
      refine (hI.le hL3).read hx ?_
      refine hdo H3 w _ O _ (ids.getD i 0) _ (ww.le h23) (by omega) fun H4 O4 f4 w4 o4 => ?_
      rw [tup2_]
      refine arI_w (arI_w ?_)
      have hL4 : Le H1 H4 := ⟨fun a ha => f4.has a (hL3.has a ha), fun a ha => (f4.get a (hL3.has a ha) fun h => hz a h ha).trans (hL3.get a ha)⟩
      have z4 : ∀ a, O4 a → ¬ H1.has a := fun a h => (o4 a h).elim (hz a) fun h hh => h (hL3.has _ hh)
      have row4 := (row.le h23).fr f4 own
      have ownh3 : ∀ a, ownP p a → H3.has a := fun a ha => h23.has _ (ownh a ha)
      have ownh4 : ∀ a, ownP p a → H4.has a := fun a ha => f4.has _ (ownh3 a ha)
      have own4 : ∀ a, ownP p a → ¬ O4 a := fun a ha h => (o4 a h).elim (own a ha) fun h => h (ownh3 a ha)
      have cO : ∀ a, Oc a → ¬ O a := fun a h h' => zc a h (h2.has _ (ww.has a h'))
      have wc4 := wcc.fr f4 cO
      have cO4 : ∀ a, Oc a → ¬ O4 a := fun a h h' => (o4 a h').elim (cO a h) fun h'' => h'' (wcc.has a h)
      have c1 : ∀ a, Oc a → ¬ H1.has a := fun a h h' => zc a h (hL2.has _ h')
      have cp : ∀ a, Oc a → ¬ ownP p a := fun a h h' => zc a h (h2.has _ (ownh a h'))
      refine (hI.le hL4).read hx ?_
      refine hrdo H4 p n c z ts _ _ (ids.getD i 0) true _ row4 ownh4 rt (by omega) fun H5 p5 n5 c5 z5 us h5 row5 own5 fresh5 ro5 lu => ?_
      rw [tup3_, asSl_]
      refine arI_w (arI_w ?_)
      rw [rL_w] at ro5
      have wc5 := wc4.le h5
      have cp5 : ∀ a, Oc a → ¬ ownP p5 a := fun a h h' => (fresh5 a h').elim (cp a h) fun h'' => h'' (wc4.has a h)
      refine hdo H5 wc _ Oc ⟨1, 0, 0, 0, ⟨0, 0⟩, fdZ, fdZ, fdZ, fdZ, fdZ, 0, 0, ⟨0, 0, 0, 0⟩⟩ 999999 _ wc5 (by omega) fun H6 O6 f6 w6 o6 => ?_
      rw [tup2_]
      refine arI_w (arI_w ?_)
      simp only [iEq_dec]
      rw [rN_w, rE_w]
      simp only [decide_true, Bool.not_true]
      refine ifA_w (fun h => by cases h) (fun _ => ifA_w (fun h => by cases h) (fun _ => ?_))
      have hL5 := hL4.trans h5
      have hL6 : Le H1 H6 := ⟨fun a ha => f6.has a (hL5.has a ha), fun a ha => (f6.get a (hL5.has a ha) fun h => c1 a h ha).trans (hL5.get a ha)⟩
      have ww6 := (w4.le h5).fr f6 fun a h h' => cO4 a h' h
      have row6 := row5.fr f6 fun a ha h => cp5 a h ha
      have ownh6 : ∀ a, ownP p5 a → H6.has a := fun a ha => f6.has _ (own5 a ha)
      have own46 : ∀ a, ownP p5 a → ¬ O4 a := fun a ha h => (fresh5 a ha).elim (fun h' => own4 a h' h) fun h' => h' (w4.has a h)
      have n5u := row5.1
      obtain ⟨nod6, ids6⟩ := WW.ids ww6
      have lw := row_len ro5 nod6 ids6
      refine hall H6 w _ O4 _ ww6 (by omega) fun H7 p7 c7 z7 h7 sl7 => ?_
      rw [asSl_]
      refine hsame _ _ _ _ _ _ _ _ _ _ _ _ (Sl.inT sl7 (List.length_map _)) (row6.le h7) (by rw [allT_len]; omega) fun b hb => arB_w ?_
      obtain rfl : b = true := hb.2 (all_row ro5 nod6 ids6)
      refine ifA_w (fun h => by cases h) (fun _ => ?_)
      have hL7 := hL6.trans h7
      have ldr : ∀ {Hy : AH} {K : List AS → Bool}, Le H7 Hy → K (rcC rc) = true → nilK (.at gr 0) (fun g o => rowK Hy g fun cs => ldG cs o 4 K) = true := fun k h => rowK_w ((k.get _ (hL7.has _ hgr)).trans ((hL7.get _ hgr).trans ggr)) (ldG_we (ys := rcC rc) (Nat.le_refl 4) (by decide) rfl h)
      refine okK_w (ldr (Le.refl _) (okK_w ?_ (ldr (Le.refl _) ?_))) (ldr (Le.refl _) (ldr (Le.refl _) ?_))
      all_goals
        refine hsee H7 w _ O4 rc _ (ww6.le h7) (by omega) fun H8 p8 c8 z8 h8 sl8 => ?_
        rw [asSl_]
        try refine ldr h8 ?_
        have h68 := h7.trans h8
        refine hseen H8 p5 n5 c5 z5 us rc _ (row6.le h68) (by omega) fun H9 p9 c9 z9 h9 sl9 => ?_
        rw [asSl_]
        have hli' := inT_len (wL (wF l ids i) (l[i]'hli) (ids.getD i 0)) rc
        refine hsame _ _ _ _ _ _ _ _ _ _ _ _ (Sl.inT (Sl.le sl8 h9) (List.length_map _)) (Sl.inT sl9 rfl) (by omega) fun b hb => arB_w ?_
        obtain rfl : b = true := hb.2 (in_row ro5 nod6 ids6 rc)
        refine ifA_w (fun h => by cases h) (fun _ => ?_)
        have h69 := h68.trans h9
        refine hlen H9 w _ O4 _ (ww6.le h69) (arI_w ?_)
        rw [← lw, n5u, decide_eq_true (show ((n5 : Nat) : Int) = Int.ofNat n5 from rfl)]
        refine ifA_w (fun h => by cases h) (fun _ => ?_)
        simp only [iAdd_]
        exact w64_w (by simp only [Int.ofNat_eq_natCast]; omega) (by simp only [Int.ofNat_eq_natCast]; omega) (ih _ _ ⟨i + 1, O4, p5, n5, c5, z5, us, by simp, by omega, hL6.trans h69, by rw [eF]; exact ww6.le h69, z4, row6.le h69, own46, fun a ha => h69.has _ (ownh6 a ha), by rw [eF]; exact ro5⟩ (by simp; omega))
    · intro J hJ'
      refine ifA_w (fun hy => ?_) (fun hy => hJ' _ _ ⟨rfl, ?_⟩)
      · have hy : i < m1 := by have := of_decide_eq_true hy; simp only [Int.ofNat_eq_natCast] at this; omega
        have hyi : i < ids.length := by rw [hJ.1]; exact hy
        have ei := getD_lt ids 0 hyi
        exact (hJ.le hL2).read hy (hJ' _ _ ⟨rfl, by rw [ei]⟩)
      · have hy : ¬ i < m1 := by have := of_decide_eq_false hy; simp only [Int.ofNat_eq_natCast] at this; omega
        rw [getD_ge ids 0 (by rw [hJ.1]; exact hy)]; rfl
  · have hx : i = m := by have := of_decide_eq_false hx; simp only [Int.ofNat_eq_natCast] at this; omega
    subst hx
    refine hof _ _ _ _ _ _ _ _ _ _ _ _ (hI.le hL) (hJ.le hL) (by omega) fun H2 w2 O2 h2 ww2 z2 => ?_
    rw [asP_]
    obtain ⟨nod2, ids2⟩ := WW.ids ww2
    refine hall H2 w2 _ O2 _ ww2 (by omega) fun H3 p3 c3 z3 h3 sl3 => ?_
    rw [asSl_]
    refine hsame _ _ _ _ _ _ _ _ _ _ _ _ (Sl.inT sl3 (List.length_map _)) (row.le (h2.trans h3)) (by rw [allT_len]; omega) fun b hb => arB_w ?_
    obtain rfl : b = true := hb.2 (all_row rof nod2 ids2)
    rfl
end Go.Proofs
end
