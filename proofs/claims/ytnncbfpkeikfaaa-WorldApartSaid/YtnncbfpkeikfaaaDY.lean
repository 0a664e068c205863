import Derived.Test.YtnncbfpkeikfaaaDX
import Derived.Test.YtnncbfpkeikfaaaBW
import Derived.Test.YtnncbfpkeikfaaaVwRead2
import Derived.OpenShut
import Derived.Test.YtnncbfpkeikfaaaDT
import Derived.Test.YtnncbfpkeikfaaaVwClone
section
/- Many things at one place. -/
namespace Go.Proofs
open Go Go.Vw Go.Vw.Ev
set_option linter.unusedVariables false
set_option linter.unusedSimpArgs false

theorem wrapu8 {n : Int} (h0 : 0 ≤ n) (h1 : n ≤ 255) : IntKind.wrap .u8 n = n := by
  obtain ⟨m, rfl⟩ := Int.eq_ofNat_of_zero_le h0
  have key : ∀ i : Fin 256, IntKind.wrap .u8 (i.val : Nat) = (i.val : Nat) := by decide +kernel
  exact key ⟨m, by omega⟩
theorem cellOf_b {p : Pt} (h : On p = true) : 0 ≤ cellOf p ∧ cellOf p < 16 := by
  have := on_b h
  exact cellAt_b (by omega) (by omega) (by omega) (by omega)
theorem cellT_count {L : List (Int × Th)} {p : Pt} (h : On p = true) : (cellT L (ofC p)).length = ((aKeys L).filter fun k => RIn (cellR (cellOf p)) (thOf L k).pt).length := by
  have hb := cellOf_b h
  have e : ofC p = cellOf p := by unfold ofC; rw [if_pos h]
  unfold cellT
  rw [e, if_pos (by unfold isC; rw [decide_eq_true hb.1, decide_eq_true hb.2]; rfl)]
  unfold inT
  rw [srtI_len]
/-- So many things at one place, numbered from 0 on. -/
structure AllAt (L : List (Int × Th)) (p : Pt) (m : Nat) : Prop where
  len : L.length = m
  keys : ∀ k, k ∈ aKeys L ↔ 0 ≤ k ∧ k < m
  pt : ∀ k ∈ aKeys L, (thOf L k).pt = p
theorem AllAt.count {L : List (Int × Th)} {p q : Pt} {m : Nat} (h : AllAt L p m) (hp : On p = true) (hq : On q = true) : ((aKeys L).filter fun k => RIn (cellR (cellOf q)) (thOf L k).pt).length = if cellOf p = cellOf q then m else 0 := by
  have hb := cellOf_b hq
  split
  · rename_i e
    rw [List.filter_eq_self.2 fun k hk => by rw [h.pt k hk]; exact (cell_in hb.1 hb.2 p).2 ⟨hp, e⟩]
    have := h.len
    simpa [aKeys] using this
  · rename_i e
    rw [List.filter_eq_nil_iff.2 fun k hk hr => by rw [h.pt k hk] at hr; exact e ((cell_in hb.1 hb.2 p).1 hr).2]
    rfl
theorem AllAt.add {L : List (Int × Th)} {p : Pt} {m : Nat} (h : AllAt L p m) : AllAt (aSet L (m : Int) (putT (putC p) m)) p (m + 1) := by
  have hn : (m : Int) ∉ aKeys L := fun hk => by have := (h.keys _).1 hk; omega
  refine ⟨?_, fun k => ?_, fun k hk => ?_⟩
  · have := congrArg List.length (aKeys_set_new L (putT (putC p) m) hn)
    have h2 := h.len
    simp only [aKeys, List.length_map, List.length_append, List.length_cons, List.length_nil] at this
    omega
  · rw [aKeys_set_new _ _ hn, List.mem_append, List.mem_singleton, h.keys]
    omega
  · unfold thOf
    by_cases e : k = (m : Int)
    · subst e; rw [aGet_set_same]; rfl
    · rw [aGet_set_ne _ _ e]
      rw [aKeys_set_new _ _ hn, List.mem_append, List.mem_singleton] at hk
      exact h.pt k (hk.resolve_right e)
theorem AllAt.count_add {L : List (Int × Th)} {p q : Pt} {m : Nat} {k : Int} {T : Th} (h : AllAt L p m) (hk : k ∉ aKeys L) (hp : On p = true) (hq : On q = true) (hT : cellOf T.pt ≠ cellOf q) :
    ((aKeys (aSet L k T)).filter fun j => RIn (cellR (cellOf q)) (thOf (aSet L k T) j).pt).length = if cellOf p = cellOf q then m else 0 := by
  rw [← h.count hp hq, aKeys_set_new _ _ hk, List.filter_append, List.length_append]
  have hb := cellOf_b hq
  have e1 : ([k].filter fun j => RIn (cellR (cellOf q)) (thOf (aSet L k T) j).pt) = [] := List.filter_eq_nil_iff.2 fun j hj hr => by
    rw [List.mem_singleton.1 hj] at hr
    unfold thOf at hr
    rw [aGet_set_same] at hr
    exact hT ((cell_in hb.1 hb.2 _).1 hr).2
  rw [e1, List.length_nil, Nat.add_zero]
  congr 1
  refine List.filter_congr fun j hj => ?_
  have hne : j ≠ k := fun e => hk (e ▸ hj)
  unfold thOf
  rw [aGet_set_ne L T hne]
theorem len_old {L : List (Int × Th)} {k : Int} {T : Th} (h : k ∈ aKeys L) : (aSet L k T).length = L.length := by
  have := congrArg List.length (aKeys_set_old L T h)
  simpa [aKeys] using this
theorem aGet_isSome {L : List (Int × Th)} {k : Int} : (aGet L k).isSome = true ↔ k ∈ aKeys L := mem_get.symm
theorem not_some {L : List (Int × Th)} {k : Int} (h : k ∉ aKeys L) : (aGet L k).isSome = false := by
  cases e : (aGet L k).isSome with
  | false => rfl
  | true => exact absurd (aGet_isSome.1 e) h
end Go.Proofs
end
section
/- The world: a table whose cells are never full. -/
namespace Go.Proofs
open Go Go.Vw Go.Vw.Ev
set_option linter.unusedVariables false
set_option linter.unusedSimpArgs false

def ownW (w : Pn) (O : Pn → Prop) : Pn → Prop := fun a => a = w ∨ O a
/-- A world at w. -/
def WW (H : AH) (w : Pn) (L : List (Int × Th)) (O : Pn → Prop) : Prop := ∃ g Og, H.has w ∧ H.get w = some (.row [.ptr (.at g 0)]) ∧ TT H g L Og ∧ ¬ Og w ∧ O = ownW w Og
theorem WW.fr {F : Pn → Prop} {H H' : AH} {w : Pn} {L : List (Int × Th)} {O : Pn → Prop} (h : WW H w L O) (k : Fr F H H') (hf : apart O F) : WW H' w L O := by
  obtain ⟨g, Og, h1, h2, h3, h4, rfl⟩ := h
  exact ⟨g, Og, k.has _ h1, (k.get _ h1 (hf w (.inl rfl))).trans h2, h3.fr k fun a ha => hf a (.inr ha), h4, rfl⟩
theorem WW.le {H H' : AH} {w : Pn} {L : List (Int × Th)} {O : Pn → Prop} (h : WW H w L O) (k : Le H H') : WW H' w L O := h.fr (k.fr fun _ => False) fun _ _ => id
theorem WW.has {H : AH} {w : Pn} {L : List (Int × Th)} {O : Pn → Prop} (h : WW H w L O) (a : Pn) (ha : O a) : H.has a := by
  obtain ⟨g, Og, h1, h2, h3, h4, rfl⟩ := h
  rcases ha with rfl | ha
  · exact h1
  · exact h3.has a ha
def CWNew (cl : Cl) : Prop := ∀ H K, (∀ H' w O, Le H H' → WW H' w [] O → (∀ a, O a → ¬ H.has a) → K (.s (.ptr (.at w 0))) H' = true) → cl i_world_New [] H K = true
theorem B_world_New_ {lf : Nat} {cl : Cl} (hnew : CTNew cl) {H : AH} {K : AV → AH → Bool} (hk : ∀ H' w O, Le H H' → WW H' w [] O → (∀ a, O a → ¬ H.has a) → K (.s (.ptr (.at w 0))) H' = true) : B_world_New lf cl H K = true := by
  unfold B_world_New
  refine hnew _ _ fun H1 g O h1 t1 z1 => ?_
  rw [asP_]
  refine new_w fun w H2 h2 hw nw gw => ?_
  refine hk H2 w (ownW w O) (h1.trans h2) ⟨g, O, hw, gw, t1.le h2, fun h => nw (t1.has _ h), rfl⟩ fun a ha => ?_
  rcases ha with rfl | ha
  · exact fun h => nw (h1.has _ h)
  · exact z1 a ha
def CWLen (cl : Cl) : Prop := ∀ H w L O K, WW H w L O → K (.s (.int .i64 (L.length : Nat))) H = true → cl i_world_World_Len [.s (.ptr (.at w 0))] H K = true
theorem B_world_World_Len_ {lf : Nat} {cl : Cl} (hlen : CTLen cl) {H : AH} {w : Pn} {L : List (Int × Th)} {O : Pn → Prop} {K : AV → AH → Bool} (ww : WW H w L O) (hk : K (.s (.int .i64 (L.length : Nat))) H = true) : B_world_World_Len lf cl (.at w 0) H K = true := by
  obtain ⟨g, Og, h1, h2, h3, h4, rfl⟩ := ww
  unfold B_world_World_Len
  simp only [nilK_at, fN_eq, Nat.add_eq, Nat.zero_add]
  exact rowK_w h2 (ldP_w rfl (hlen H g L Og _ h3 (arI_w hk)))
def CWSee (cl : Cl) : Prop := ∀ H w L O r K, WW H w L O → L.length < 10000 → (∀ H' p c z, Le H H' → Sl H H' p (inT L r).length z (thsC ((inT L r).map (thOf L))) 11 → K (.s (.slice p (inT L r).length c z)) H' = true) → cl i_world_World_See [.s (.ptr (.at w 0)), .agg (rcC r)] H K = true
theorem B_world_World_See_ {lf : Nat} {cl : Cl} (hin : CTIn cl) {H : AH} {w : Pn} {L : List (Int × Th)} {O : Pn → Prop} {r : Rc} {K : AV → AH → Bool} (ww : WW H w L O) (hl : L.length < 10000)
    (hk : ∀ H' p c z, Le H H' → Sl H H' p (inT L r).length z (thsC ((inT L r).map (thOf L))) 11 → K (.s (.slice p (inT L r).length c z)) H' = true) : B_world_World_See lf cl (.at w 0) (rcC r) H K = true := by
  obtain ⟨g, Og, h1, h2, h3, h4, rfl⟩ := ww
  unfold B_world_World_See
  refine new_w fun ga H1 hL1 ha na ga1 => ?_
  simp only [nilK_at, fN_eq, Nat.add_eq, Nat.zero_add]
  refine rowK_w ((hL1.get _ h1).trans h2) (ldP_w rfl (rowK_w ga1 (ldG_we (ys := rcC r) (lb rfl) (lb rfl) rfl ?_)))
  refine hin H1 g L Og r _ (h3.le hL1) hl fun H2 p2 c2 z2 h2' sl2 => ?_
  rw [asSl_]
  exact hk H2 p2 c2 z2 (hL1.trans h2') ⟨sl2.len, sl2.rep.imp (fun h => h) fun ⟨g, h1, h2, h3, h4, h5⟩ => ⟨g, h1, h2, h3, h4, fun h => h5 (hL1.has _ h)⟩⟩
def CWAll (cl : Cl) : Prop := ∀ H w L O K, WW H w L O → L.length < 10000 → (∀ H' p c z, Le H H' → Sl H H' p (allT L).length z (thsC ((allT L).map (thOf L))) 11 → K (.s (.slice p (allT L).length c z)) H' = true) → cl i_world_World_All [.s (.ptr (.at w 0))] H K = true
theorem B_world_World_All_ {lf : Nat} {cl : Cl} (hall : CTAll cl) {H : AH} {w : Pn} {L : List (Int × Th)} {O : Pn → Prop} {K : AV → AH → Bool} (ww : WW H w L O) (hl : L.length < 10000)
    (hk : ∀ H' p c z, Le H H' → Sl H H' p (allT L).length z (thsC ((allT L).map (thOf L))) 11 → K (.s (.slice p (allT L).length c z)) H' = true) : B_world_World_All lf cl (.at w 0) H K = true := by
  obtain ⟨g, Og, h1, h2, h3, h4, rfl⟩ := ww
  unfold B_world_World_All
  simp only [nilK_at, fN_eq, Nat.add_eq, Nat.zero_add]
  refine rowK_w h2 (ldP_w rfl (hall H g L Og _ h3 hl fun H2 p2 c2 z2 h2' sl2 => ?_))
  rw [asSl_]
  exact hk H2 p2 c2 z2 h2' sl2
def room (L : List (Int × Th)) (c : Cm) : Prop := c.kind ≠ 1 ∨ L.length < 200
noncomputable instance (L : List (Int × Th)) (c : Cm) : Decidable (room L c) := inferInstanceAs (Decidable (_ ∨ _))
/-- Whether it is done in the world. -/
def wGo (L : List (Int × Th)) (c : Cm) : Prop := checkE L c = 0 ∨ (checkE L c = 16 ∧ room L c)
noncomputable instance (L : List (Int × Th)) (c : Cm) : Decidable (wGo L c) := inferInstanceAs (Decidable (_ ∨ _))
noncomputable def wE (L : List (Int × Th)) (c : Cm) (id : Int) : Int := if wGo L c then (if doneB L c id = true then 0 else 11) else checkE L c
noncomputable def wN (L : List (Int × Th)) (c : Cm) (id : Int) : Int := if wE L c id = 0 then doneN L c id else 0
noncomputable def wL (L : List (Int × Th)) (c : Cm) (id : Int) : List (Int × Th) := if wE L c id = 0 then doneL L c id else L
def CWDo (cl : Cl) : Prop := ∀ H w L O c id K, WW H w L O → L.length < 9000 → (∀ H' O', Fr O H H' → WW H' w (wL L c id) O' → (∀ a, O' a → O a ∨ ¬ H.has a) → K (.tup [.s (.int .i64 (wN L c id)), .s (.int .i64 (wE L c id))]) H' = true) →
  cl i_world_World_Do [.s (.ptr (.at w 0)), .agg (cmC c), .s (.int .i64 id)] H K = true
theorem B_world_World_Do_ {lf : Nat} {cl : Cl} (hcheck : CCheck cl) (hdone : CDone cl) (hlen : CTLen cl) {H : AH} {w : Pn} {L : List (Int × Th)} {O : Pn → Prop} {c : Cm} {id : Int} {K : AV → AH → Bool} (ww : WW H w L O) (hl : L.length < 9000)
    (hk : ∀ H' O', Fr O H H' → WW H' w (wL L c id) O' → (∀ a, O' a → O a ∨ ¬ H.has a) → K (.tup [.s (.int .i64 (wN L c id)), .s (.int .i64 (wE L c id))]) H' = true) : B_world_World_Do lf cl (.at w 0) (cmC c) id H K = true := by
  have ww0 := ww
  obtain ⟨g, Og, hw, gw, tt, nw, rfl⟩ := ww
  unfold B_world_World_Do
  refine new_w fun ga H1 h1 ha1 na ga1 => ?_
  simp only [nilK_at, fN_eq, Nat.add_eq, Nat.zero_add]
  refine rowK_w ((h1.get _ hw).trans gw) (ldP_w rfl (rowK_w ga1 (ldG_we (ys := cmC c) (lb rfl) (lb rfl) rfl (hcheck H1 g L Og c _ (tt.le h1) hl fun H2 h2 => arI_w ?_))))
  have hL2 := h1.trans h2
  have ga2 := (h2.get _ ha1).trans ga1
  have ha2 := h2.has _ ha1
  refine joinX_w (fun x Hx => Le H Hx ∧ x.1 = .at w 0 ∧ x.2.1 = id ∧ x.2.2.1 = .at ga 0 ∧ x.2.2.2.1 = checkE L c ∧ (x.2.2.2.2 = true ↔ room L c) ∧ Hx.has ga ∧ Hx.get ga = some (.row (cmC c))) ?_ ?_
  · rintro ⟨x1, x2, x3, x4, x5⟩ H3 ⟨hL3, e1, e2, e3, e4, e5, ha3, ga3⟩
    simp only at e1 e2 e3 e4 e5
    subst e1 e2 e3 e4
    simp only [pR_]
    have no : ¬ wGo L c → K (.tup [.s (.int .i64 (Int.ofNat 0)), .s (.int .i64 (checkE L c))]) H3 = true := fun hn => by
      have hne : checkE L c ≠ 0 := fun h => hn (.inl h)
      have e : wE L c x2 = checkE L c := by unfold wE; rw [if_neg hn]
      have := hk H3 _ (hL3.fr _) (by unfold wL; rw [e, if_neg hne]; exact ww0.le hL3) fun a h => .inl h
      unfold wN at this
      rw [e, if_neg hne] at this
      exact this
    refine joinX_w (fun x Hx => Hx = H3 ∧ x.1 = .at w 0 ∧ x.2.1 = x2 ∧ x.2.2 = .at ga 0 ∧ wGo L c) ?_ ?_
    · rintro ⟨y1, y2, y3⟩ Hy ⟨e0, e1, e2, e3, go⟩
      simp only at e1 e2 e3
      subst e0 e1 e2 e3
      simp only [pR_, nilK_at, fN_eq, Nat.add_eq, Nat.zero_add]
      refine rowK_w ((hL3.get _ hw).trans gw) (ldP_w rfl (rowK_w ga3 (ldG_we (ys := cmC c) (lb rfl) (lb rfl) rfl ?_)))
      refine hdone Hy g L Og c y2 _ (tt.le hL3) hl (pre_of (go.imp (fun h => h) fun h => h.1)) fun H4 O4 f4 t4 o4 => ?_
      rw [tup2_]
      refine arI_w (arB_w ?_)
      have f04 : Fr (ownW w Og) H H4 := (hL3.fr _).trans f4 fun a h => .inl (.inr h)
      have o4' : ∀ a, O4 a → Og a ∨ ¬ H.has a := fun a h => (o4 a h).imp (fun h => h) fun h hh => h (hL3.has _ hh)
      have nw4 : ¬ O4 w := fun h => (o4' w h).elim nw fun h => h hw
      have w4 : WW H4 w (doneL L c y2) (ownW w O4) := ⟨g, O4, f4.has _ (hL3.has _ hw), (f4.get _ (hL3.has _ hw) nw).trans ((hL3.get _ hw).trans gw), t4, nw4, rfl⟩
      have o4'' : ∀ a, ownW w O4 a → ownW w Og a ∨ ¬ H.has a := fun a h => h.elim (fun h => .inl (.inl h)) fun h => (o4' a h).imp .inr fun h => h
      rw [fB_eq]
      refine ifA_w (fun hb => ?_) (fun hb => ?_)
      · have hb : doneB L c y2 = false := by simpa using hb
        have e : wE L c y2 = 11 := by unfold wE; rw [if_pos go, if_neg (by rw [hb]; decide)]
        have := hk H4 _ f04 (by unfold wL; rw [e, if_neg (by decide), ← doneL_no hb]; exact w4) o4''
        unfold wN at this
        rw [e, if_neg (by decide)] at this
        exact this
      · have hb : doneB L c y2 = true := by simpa using hb
        have e : wE L c y2 = 0 := by unfold wE; rw [if_pos go, if_pos hb]
        have := hk H4 _ f04 (by unfold wL; rw [if_pos e]; exact w4) o4''
        unfold wN at this
        rw [e, if_pos rfl] at this
        exact this
    · intro J hJ
      rw [fB_eq, iEq_dec]
      refine ifA_w (fun h0 => ?_) (fun h0 => hJ _ _ ⟨rfl, rfl, rfl, rfl, .inl ?_⟩)
      · have h0 : checkE L c ≠ 0 := fun h => by rw [decide_eq_true (show checkE L c = Int.ofNat 0 from h)] at h0; cases h0
        rw [fB_eq, iEq_dec]
        refine ifA_w (fun h1 => no fun go => ?_) (fun h1 => ?_)
        · rcases go with go | go
          · exact h0 go
          · rw [decide_eq_true (show checkE L c = Int.ofNat 16 from go.1)] at h1; cases h1
        · have h16 : checkE L c = 16 := by
            by_cases h : checkE L c = Int.ofNat 16
            · exact h
            · rw [decide_eq_false h] at h1; cases h1
          rw [fB_eq]
          refine ifA_w (fun h2 => no fun go => ?_) (fun h2 => hJ _ _ ⟨rfl, rfl, rfl, rfl, .inr ⟨h16, e5.1 (by simpa using h2)⟩⟩)
          rcases go with go | go
          · exact h0 go
          · rw [e5.2 go.2] at h2; cases h2
      · by_cases h : checkE L c = Int.ofNat 0
        · exact h
        · rw [decide_eq_false h] at h0; cases h0
  · intro J hJ
    refine rowK_w ga2 (ldI_w (n := c.kind) rfl ?_)
    rw [fB_eq, iEq_dec]
    refine ifA_w (fun h0 => hJ _ _ ⟨hL2, rfl, rfl, rfl, rfl, ⟨fun _ => .inl fun h => ?_, fun _ => rfl⟩, ha2, ga2⟩) (fun h0 => ?_)
    · rw [decide_eq_true (show c.kind = Int.ofNat 1 from h)] at h0; cases h0
    · have k1 : c.kind = 1 := by
        by_cases h : c.kind = Int.ofNat 1
        · exact h
        · rw [decide_eq_false h] at h0; cases h0
      refine rowK_w ((hL2.get _ hw).trans gw) (ldP_w rfl (hlen H2 g L Og _ (tt.le hL2) (arI_w ?_)))
      rw [fB_eq]
      have key : iLt ((L.length : Nat) : Int) (Int.ofNat 200) = true ↔ room L c := by
        rw [iLt_dec, decide_eq_true_iff]
        unfold room
        simp only [Int.ofNat_eq_natCast]
        exact ⟨fun h => .inr (by omega), fun h => h.elim (fun h => absurd k1 h) fun h => by omega⟩
      exact hJ _ _ ⟨hL2, rfl, rfl, rfl, rfl, key, ha2, ga2⟩
end Go.Proofs
end
section
/- WorldFree: cells are never full in the world. -/
namespace Go.Proofs
open Go Go.Vw Go.Vw.Ev
set_option linter.unusedVariables false
set_option linter.unusedSimpArgs false

theorem wdo_put {L : List (Int × Th)} {p : Pt} {id : Int} (h : On p = true) (hl : L.length < 200) (h0 : 0 ≤ id) (h1 : id ≤ 1000000) (hn : (aGet L id).isSome = false) : wE L (putC p) id = 0 ∧ wL L (putC p) id = aSet L id (putT (putC p) id) := by
  have go : wGo L (putC p) := by
    unfold wGo
    rw [check_put h hl]
    by_cases hf : fullT L p = true
    · exact .inr ⟨if_pos hf, .inr hl⟩
    · exact .inl (if_neg hf)
  have hc : canPut L id = true := by rw [can_put h0 h1, hn]; rfl
  have e : wE L (putC p) id = 0 := by unfold wE; rw [if_pos go, if_pos (show doneB L (putC p) id = true from hc)]
  exact ⟨e, by unfold wL; rw [if_pos e]; exact if_pos hc⟩
theorem wdo_move {L : List (Int × Th)} {p : Pt} {k : Int} (h : On p = true) (h0 : 0 ≤ k) (h1 : k ≤ 1000000) (hn : (aGet L k).isSome = true) : wE L (moveC k p) 0 = 0 ∧ wL L (moveC k p) 0 = aSet L k { thOf L k with pt := p } := by
  have go : wGo L (moveC k p) := by
    unfold wGo
    rw [check_move h0 h1 (on_near h), hn, h]
    by_cases hf : awayB (thOf L k).pt p = true ∧ fullT L p = true
    · exact .inr ⟨by rw [if_neg (by decide), if_neg (by decide), if_pos hf], .inl fun h => absurd (show (2 : Int) = 1 from h) (by decide)⟩
    · exact .inl (by rw [if_neg (by decide), if_neg (by decide), if_neg hf])
  have e : wE L (moveC k p) 0 = 0 := by unfold wE; rw [if_pos go, if_pos (show doneB L (moveC k p) 0 = true from rfl)]
  exact ⟨e, by unfold wL; rw [if_pos e]; rfl⟩
theorem tmodE {z m : Int} (h : 0 ≤ z) : Int.tmod z m = z % m := Int.tmod_eq_emod_of_nonneg h
theorem one_rectW {p q : Pt} : RIn ⟨p.x, p.y, p.x + 1, p.y + 1⟩ q = true ↔ q = p := by
  unfold RIn
  simp only [Bool.and_eq_true, decide_eq_true_eq]
  cases p; cases q
  simp only [Pt.mk.injEq]
  omega
theorem B_law12_WorldFree_ {lf : Nat} {cl : Cl} (hlf : 1000 ≤ lf) (hkn : ∀ H K, cl i_law12_known [] H K = K (.s (.bool true)) H) (hnew : CWNew cl) (hdo : CWDo cl) (hsee : CWSee cl) (hlen : CWLen cl) {H : AH} {n p : Int} (hn : 0 ≤ n ∧ n ≤ 255) (hp : 0 ≤ p ∧ p ≤ 255) : B_law12_WorldFree lf cl n p H isT = true := by
  unfold B_law12_WorldFree
  rw [hkn]
  refine arB_w (fBf_w' rfl ?_)
  refine hnew _ _ fun H1 w O h1 w1 z1 => ?_
  rw [asP_]
  have e1 : Int.tmod n (Int.ofNat 40) = n % 40 := tmodE hn.1
  have e2 : Int.tmod p (Int.ofNat 64) = p % 64 := tmodE hp.1
  have e3 : Int.tdiv p (Int.ofNat 4) = p / 4 := Int.tdiv_eq_ediv_of_nonneg hp.1
  have e4 : IntKind.wrap .u8 (p / 4) = p / 4 := wrapu8 (by omega) (by omega)
  simp only [wrapK_eq, e1, e2, e3, e4]
  simp only [iAdd_, iSub_, Int.ofNat_eq_natCast, Int.cast_ofNat_Int]
  obtain ⟨m, hm⟩ : ∃ m : Nat, (m : Int) = n % 40 := ⟨(n % 40).toNat, by omega⟩
  obtain ⟨a, ha⟩ : ∃ a, a = p % 64 := ⟨_, rfl⟩
  obtain ⟨b, hb⟩ : ∃ b, b = p / 4 := ⟨_, rfl⟩
  rw [← hm, ← ha, ← hb]
  have m0 : m < 40 := by omega
  have a0 : 0 ≤ a ∧ a < 64 := by omega
  have b0 : 0 ≤ b ∧ b < 64 := by omega
  clear hm ha hb e1 e2 e3 e4 hn hp
  refine fI_w (w64_w (by omega) (by omega) (w64_w (by omega) (by omega) (fI_w (w64_w (by omega) (by omega) (w64_w (by omega) (by omega) ?_)))))
  have hon : On ⟨a, b⟩ = true := on_of a0.1 a0.2 b0.1 b0.2
  have hon2 : On ⟨63 - a, 63 - b⟩ = true := on_of (show 0 ≤ 63 - a by omega) (show 63 - a < 64 by omega) (show 0 ≤ 63 - b by omega) (show 63 - b < 64 by omega)
  refine tmp_w rfl rfl fun ga H2 h2 ha2 na ga2 => ?_
  have K2 : Keep H2 O ga (.row (ptC ⟨a, b⟩)) := ⟨ha2, ga2, fun h => na (w1.has _ h)⟩
  refine loopX_w (fun x Hx => x.1 = .at w 0 ∧ x.2.1 = (m : Int) + 8 ∧ x.2.2.1 = .at ga 0 ∧ ∃ i : Nat, x.2.2.2 = (i : Int) ∧ i ≤ m + 8 ∧ ∃ L O, WW Hx w L O ∧ AllAt L ⟨a, b⟩ i ∧ Keep Hx O ga (.row (ptC ⟨a, b⟩))) (fun x => 50 - x.2.2.2.toNat)
    ⟨rfl, rfl, rfl, 0, rfl, by omega, [], O, w1.le h2, ⟨rfl, fun k => ⟨fun h => (by cases h), fun h => (by omega)⟩, fun k h => (by cases h)⟩, K2⟩ (by simp; omega) ?_
  clear K2 w1 z1 h2 ga2 ha2 na h1 O H2 H1
  rintro self ⟨x1, x2, x3, x4⟩ H1 ⟨e1, e2, e3, i, e4, hi, L, O, ww, al, Ka⟩ ih
  simp only at e1 e2 e3 e4
  subst e1 e2 e3 e4
  simp only [pR_, fB_eq, iLt_dec]
  refine ifA_w (fun hx => ?_) (fun hx => ?_)
  · have hx : i < m + 8 := by have := of_decide_eq_true hx; omega
    simp only [nilK_at]
    refine rowK_w Ka.get (ldG_we (ys := ptC ⟨a, b⟩) (lb rfl) (lb rfl) rfl (okK_w rfl (fL_w ?_)))
    refine hdo H1 w L O (putC ⟨a, b⟩) i _ ww (by rw [al.len]; omega) fun H2 O2 f2 w2 o2 => ?_
    have hs : (aGet L (i : Int)).isSome = false := not_some fun h => by have := (al.keys _).1 h; omega
    obtain ⟨d1, d2⟩ := wdo_put (L := L) hon (by rw [al.len]; omega) (by omega : (0 : Int) ≤ i) (by omega) hs
    rw [d2] at w2
    rw [tup2_, d1]
    refine arI_w (arI_w ?_)
    refine (show ifA false _ _ = true from ?_)
    rw [ifA_f]
    exact w64_w (by omega) (by omega) (ih _ _ ⟨rfl, rfl, rfl, i + 1, by simp, by omega, _, O2, w2, al.add, Ka.step f2 o2⟩ (by simp; omega))
  · have hx : i = m + 8 := by have := of_decide_eq_false hx; omega
    have n999 : (999 : Int) ∉ aKeys L := fun h => by have := (al.keys _).1 h; omega
    simp only [nilK_at, fN_eq, Nat.add_eq, Nat.zero_add, Nat.add_zero]
    refine rowK_w Ka.get (ldI_w (n := a) rfl (w64_w (by omega) (by omega) (rowK_w Ka.get (ldI_w (n := b) rfl (w64_w (by omega) (by omega) (fL_w ?_))))))
    refine hdo H1 w L O (putC ⟨63 - a, 63 - b⟩) 999 _ ww (by rw [al.len]; omega) fun H2 O2 f2 w2 o2 => ?_
    obtain ⟨d1, d2⟩ := wdo_put (L := L) hon2 (by rw [al.len]; omega) (by decide : (0 : Int) ≤ 999) (by decide) (not_some n999)
    rw [d2] at w2
    rw [tup2_, d1]
    refine arI_w (arI_w ?_)
    have Ka2 := Ka.step f2 o2
    refine rowK_w Ka2.get (ldG_we (ys := ptC ⟨a, b⟩) (lb rfl) (lb rfl) rfl (okK_w rfl (fL_w ?_)))
    obtain ⟨T, hT⟩ : ∃ T, T = putT (putC ⟨63 - a, 63 - b⟩) 999 := ⟨_, rfl⟩
    rw [← hT] at w2
    have g2 : aGet (aSet L 999 T) 999 = some T := aGet_set_same _ _ _
    have k2 : aKeys (aSet L 999 T) = aKeys L ++ [999] := aKeys_set_new _ _ n999
    have l2 : (aSet L 999 T).length = i + 1 := by
      have := congrArg List.length k2
      have h2 := al.len
      simp only [aKeys, List.length_map, List.length_append, List.length_cons, List.length_nil] at this
      omega
    refine hdo H2 w _ O2 (moveC 999 ⟨a, b⟩) 0 _ w2 (by rw [l2]; omega) fun H3 O3 f3 w3 o3 => ?_
    obtain ⟨q1, q2⟩ := wdo_move (L := aSet L 999 T) hon (by decide : (0 : Int) ≤ 999) (by decide) (by rw [g2]; rfl)
    rw [q2] at w3
    rw [tup2_, q1]
    refine arI_w (arI_w ?_)
    have Ka3 := Ka2.step f3 o3
    obtain ⟨U, hU⟩ : ∃ U : Th, U = { thOf (aSet L 999 T) 999 with pt := ⟨a, b⟩ } := ⟨_, rfl⟩
    rw [← hU] at w3
    have pU : U.pt = ⟨a, b⟩ := by rw [hU]
    have k3 : aKeys (aSet (aSet L 999 T) 999 U) = aKeys L ++ [999] := by rw [aKeys_set_old _ _ (aGet_isSome.1 (by rw [g2]; rfl)), k2]
    have l3 : (aSet (aSet L 999 T) 999 U).length = i + 1 := by rw [len_old (aGet_isSome.1 (by rw [g2]; rfl)), l2]
    have p3 : ∀ k ∈ aKeys L ++ [999], (thOf (aSet (aSet L 999 T) 999 U) k).pt = ⟨a, b⟩ := fun k hk => by
      unfold thOf
      by_cases e : k = 999
      · subst e; rw [aGet_set_same]; exact pU
      · rw [aGet_set_ne _ _ e, aGet_set_ne _ _ e]
        rw [List.mem_append, List.mem_singleton] at hk
        exact al.pt k (hk.resolve_right e)
    generalize aSet (aSet L 999 T) 999 U = L3 at *
    refine (show ifA true _ _ = true from ?_)
    rw [ifA_t]
    refine (show ifA true _ _ = true from ?_)
    rw [ifA_t]
    refine rowK_w Ka3.get (ldI_w (n := a) rfl (rowK_w Ka3.get (ldI_w (n := b) rfl (rowK_w Ka3.get (ldI_w (n := a) rfl (w64_w (by omega) (by omega) (rowK_w Ka3.get (ldI_w (n := b) rfl (w64_w (by omega) (by omega) ?_)))))))))
    refine hsee H3 w L3 O3 ⟨a, b, a + 1, b + 1⟩ _ w3 (by rw [l3]; omega) fun H4 p4 c4 z4 h4 sl4 => ?_
    rw [asSl_]
    have cnt : (inT L3 ⟨a, b, a + 1, b + 1⟩).length = i + 1 := by
      unfold inT
      rw [srtI_len, List.filter_eq_self.2 fun k hk => by rw [k3] at hk; exact (one_rectW (p := ⟨a, b⟩)).2 (p3 k hk)]
      rw [← l3]; simp [aKeys]
    refine w64_w (by omega) (by omega) ?_
    rw [cnt, iEq_dec]
    refine ifA_w (fun _ => ?_) (fun h => absurd h (by simp; omega))
    refine hlen H4 w L3 O3 _ (w3.le h4) (arI_w (w64_w (by omega) (by omega) ?_))
    rw [l3, iEq_dec, decide_eq_true (by omega : (((i + 1 : Nat) : Int) = (m : Int) + 8 + 1))]
    rfl
end Go.Proofs
end
section
/- Rows of whole numbers that come in. -/
namespace Go.Proofs
open Go Go.Vw Go.Vw.Ev
set_option linter.unusedVariables false
set_option linter.unusedSimpArgs false

def InI (H : AH) (p : AP) (n : Nat) (k : IntKind) (xs : List Int) : Prop := xs.length = n ∧ (n ≠ 0 → ∃ g, p = .at g 0 ∧ H.has g ∧ H.get g = some (.fix (xs.map (AS.int k))))
theorem InI.le {H H' : AH} {p : AP} {n : Nat} {k : IntKind} {xs : List Int} (h : InI H p n k xs) (l : Le H H') : InI H' p n k xs :=
  ⟨h.1, fun hn => (h.2 hn).imp fun g hg => ⟨hg.1, l.has g hg.2.1, (l.get g hg.2.1).trans hg.2.2⟩⟩
theorem InI.read {H : AH} {p : AP} {n : Nat} {k : IntKind} {xs : List Int} (h : InI H p n k xs) {i : Nat} (hi : i < n) {K : Int → Bool} (hk : K (xs[i]'(by rw [h.1]; exact hi)) = true) :
    nilK p (fun g o => idxK (i : Int) n fun m => fN (Nat.add o (Nat.mul m 1)) fun o => rowK H g fun cs => ldI cs o k K) = true := by
  obtain ⟨g, rfl, hg, hrow⟩ := h.2 (by omega)
  simp only [nilK_at, fN_eq, Nat.add_eq, Nat.mul_eq, Nat.zero_add, Nat.mul_one]
  have hl : i < xs.length := by rw [h.1]; exact hi
  refine idxK_w (by omega) (by omega) (rowK_wf hrow (ldI_w (n := xs[i]) ?_ hk))
  rw [Int.toNat_natCast, List.getElem?_map, List.getElem?_eq_getElem hl]
  rfl
theorem sl_int (k : IntKind) : ∀ (n : Nat) (cs : List AS), LeavesV (List.replicate n [Leaf.int k]).flatten cs → ∃ l : List Int, cs = l.map (AS.int k) ∧ l.length = n ∧ ∀ x ∈ l, (Lit.int k x).wf = true
  | 0, [], _ => ⟨[], rfl, rfl, fun x h => (by cases h)⟩
  | 0, _ :: _, h => h.elim
  | n + 1, [], h => h.elim
  | n + 1, x :: r, h => by
    obtain ⟨h1, h4⟩ := h
    cases x <;> first | exact h1.elim | skip
    obtain ⟨l, rfl, hl, hw⟩ := sl_int k n r h4
    obtain ⟨rfl, hx⟩ := h1
    refine ⟨_ :: l, rfl, by simp [hl], fun y hy => ?_⟩
    rcases List.mem_cons.1 hy with rfl | hy
    · exact hx
    · exact hw y hy
theorem sl_u8 (n : Nat) (cs : List AS) (h : LeavesV (List.replicate n [Leaf.int .u8]).flatten cs) : ∃ l : List Int, cs = l.map (AS.int .u8) ∧ l.length = n ∧ ∀ x ∈ l, 0 ≤ x ∧ x ≤ 255 := by
  obtain ⟨l, h1, h2, h3⟩ := sl_int .u8 n cs h
  exact ⟨l, h1, h2, fun x hx => Go.bounds_u8 (h3 x hx)⟩
theorem sl_i16 (n : Nat) (cs : List AS) (h : LeavesV (List.replicate n [Leaf.int .i16]).flatten cs) : ∃ l : List Int, cs = l.map (AS.int .i16) ∧ l.length = n ∧ ∀ x ∈ l, -32768 ≤ x ∧ x ≤ 32767 := by
  obtain ⟨l, h1, h2, h3⟩ := sl_int .i16 n cs h
  exact ⟨l, h1, h2, fun x hx => Go.bounds_i16 (h3 x hx)⟩
/-- A thing with numbers alone in its fields. -/
def tN (id : Int) (p : Pt) (ns : Nat → Int) : Th := ⟨id, p, ⟨ns 0, []⟩, ⟨ns 1, []⟩, ⟨ns 2, []⟩, ⟨ns 3, []⟩⟩
def updN (ns : Nat → Int) (k : Nat) (v : Int) : Nat → Int := fun j => if j = k then v else ns j
def wC (ns : Nat → Int) : List AS := [.int .i64 (ns 0), .str [], .int .i64 (ns 1), .str [], .int .i64 (ns 2), .str [], .int .i64 (ns 3), .str []]
theorem setF_N (id : Int) (p : Pt) (ns : Nat → Int) (v : Int) : ∀ k : Nat, k < 4 → setF (tN id p ns) (k : Nat) ⟨v, []⟩ = tN id p (updN ns k v) := lt4 rfl rfl rfl rfl
theorem wC_set (ns : Nat → Int) (v : Int) : ∀ k : Nat, k < 4 → (wC ns).set (k * 2) (.int .i64 v) = wC (updN ns k v) := lt4 rfl rfl rfl rfl
theorem aSet_1 (k : Int) (a b : Th) : aSet [(k, a)] k b = [(k, b)] := by simp [aSet]
theorem aGet_1 (k : Int) (a : Th) : aGet [(k, a)] k = some a := by simp [aGet]
theorem thOf_1 (k : Int) (a : Th) : thOf [(k, a)] k = a := by unfold thOf; rw [aGet_1]; rfl
theorem isF_N (v : Int) : IsF ⟨v, []⟩ = true := by simp [IsF]
end Go.Proofs
end
section
/- WorldLast: of a row of moves and sets of one thing the last ones count. -/
namespace Go.Proofs
open Go Go.Vw Go.Vw.Ev
set_option linter.unusedVariables false
set_option linter.unusedSimpArgs false

theorem fr_leW {O : Pn → Prop} {H0 H H' : AH} (h : Le H0 H) (f : Fr O H H') (hz : ∀ a, O a → ¬ H0.has a) : Le H0 H' :=
  ⟨fun a ha => f.has a (h.has a ha), fun a ha => (f.get a (h.has a ha) fun h' => hz a h' ha).trans (h.get a ha)⟩
theorem wdo_set {L : List (Int × Th)} {k w : Int} {v : Fd} (h0 : 0 ≤ k) (h1 : k ≤ 1000000) (h2 : 0 ≤ w) (h3 : w < 4) (h4 : IsF v = true) (hn : (aGet L k).isSome = true) : wE L (setC k w v) 0 = 0 ∧ wL L (setC k w v) 0 = aSet L k (setF (thOf L k) w v) := by
  have ck : checkE L (setC k w v) = 0 := by rw [check_set h0 h1 (by omega) (by omega) h4, hn, if_neg (by decide), if_neg (by omega)]
  have e : wE L (setC k w v) 0 = 0 := by unfold wE; rw [if_pos (.inl ck), if_pos (show doneB L (setC k w v) 0 = true from rfl)]
  exact ⟨e, by unfold wL; rw [if_pos e]; rfl⟩
theorem allT_1 (k : Int) (t : Th) : allT [(k, t)] = [k] := rfl
theorem same_th (t : Th) : cellsEqA (thC t) (thC t) = true := by
  simp only [thC, ptC, fdC, List.cons_append, List.nil_append, cellsEqA, cellEqA, iEq_dec, sEq_dec, decide_true]
theorem leaves_th (t : Th) : leavesA [Leaf.int .i64, Leaf.int .i64, Leaf.int .i64, Leaf.int .i64, Leaf.str, Leaf.int .i64, Leaf.str, Leaf.int .i64, Leaf.str, Leaf.int .i64, Leaf.str] (thC t) = true := rfl
theorem tN_take (id : Int) (p q : Pt) (ns : Nat → Int) : (thC (tN id p ns)).take 1 ++ (ptC q ++ (thC (tN id p ns)).drop 3) = thC (tN id q ns) := rfl
theorem tN_set (id : Int) (p : Pt) (ns : Nat → Int) (v : Int) : ∀ k : Nat, k < 4 → (thC (tN id p ns)).set (3 + k * 2) (.int .i64 v) = thC (tN id p (updN ns k v)) := lt4 rfl rfl rfl rfl
theorem tN_fd (id : Int) (p : Pt) (ns : Nat → Int) : ∀ k : Nat, k < 4 → ((thC (tN id p ns)).drop (3 + k * 2)).take 2 = fdC ⟨ns k, []⟩ := lt4 rfl rfl rfl rfl
theorem B_law12_WorldLast_ {lf : Nat} {cl : Cl} (hlf : 1000 ≤ lf) (hkn : ∀ H K, cl i_law12_known [] H K = K (.s (.bool true)) H) (hnew : CWNew cl) (hdo : CWDo cl) (hall : CWAll cl) {H : AH} {p q : AP} {n m : Nat} {c d : ACap} {xs ws : List Int} (hI : InI H p n .u8 xs) (hJ : InI H q m .u8 ws)
    (hxs : ∀ x ∈ xs, 0 ≤ x ∧ x ≤ 255) (hws : ∀ x ∈ ws, 0 ≤ x ∧ x ≤ 255) : B_law12_WorldLast lf cl p n c 1 q m d 1 H isT = true := by
  unfold B_law12_WorldLast
  rw [hkn]
  refine arB_w (fBf_w' rfl ?_)
  rw [fB_eq, iLt_dec]
  refine ifA_w (fun _ => rfl) (fun h20 => ?_)
  have h20 : n ≤ 20 := by have := of_decide_eq_false h20; simp only [Int.ofNat_eq_natCast, Int.cast_ofNat_Int] at this; omega
  rw [fB_eq, iLt_dec]
  refine ifA_w (fun _ => rfl) (fun h21 => ?_)
  have h21 : m ≤ 20 := by have := of_decide_eq_false h21; simp only [Int.ofNat_eq_natCast, Int.cast_ofNat_Int] at this; omega
  refine hnew _ _ fun H1 w O h1 w1 z1 => ?_
  rw [asP_]
  have on0 : On ⟨0, 0⟩ = true := by decide
  refine hdo H1 w [] O (putC ⟨0, 0⟩) 3 _ w1 (by simp) fun H2 O2 f2 w2 o2 => ?_
  obtain ⟨_, l2⟩ := wdo_put (L := []) (id := 3) on0 (by simp) (by decide) (by decide) rfl
  rw [l2] at w2
  replace w2 : WW H2 w [(3, tN 3 ⟨0, 0⟩ fun _ => 0)] O2 := w2
  rw [tup2_]
  refine arI_w (arI_w (tmp_w rfl rfl fun gw H3 h3 hw3 nw3 gw3 => ?_))
  have hL2 : Le H H2 := fr_leW h1 f2 z1
  have z2 : ∀ a, O2 a → ¬ H.has a := fun a h => (o2 a h).elim (z1 a) fun h hh => h (h1.has _ hh)
  have nHw : ¬ H.has gw := fun h => nw3 (hL2.has _ h)
  have K3 : Keep H3 O2 gw (.row (thC (tN 3 ⟨0, 0⟩ fun _ => 0))) := ⟨hw3, gw3, fun h => nw3 (w2.has _ h)⟩
  refine loopX_w (fun x Hx => x.1 = (p, n, c, 1) ∧ x.2.1 = (q, m, d, 1) ∧ x.2.2.1 = .at w 0 ∧ x.2.2.2.1 = .at gw 0 ∧ ∃ i : Nat, x.2.2.2.2 = (i : Int) ∧ i ≤ n ∧ Le H Hx ∧ ∃ pt O, On pt = true ∧ WW Hx w [(3, tN 3 pt fun _ => 0)] O ∧ (∀ a, O a → ¬ H.has a) ∧ Keep Hx O gw (.row (thC (tN 3 pt fun _ => 0)))) (fun x => 30 - x.2.2.2.2.toNat)
    ⟨rfl, rfl, rfl, rfl, 0, rfl, by omega, hL2.trans h3, _, O2, on0, w2.le h3, z2, K3⟩ (by simp; omega) ?_
  clear K3 z2 hL2 gw3 nw3 hw3 h3 H3 l2 w2 o2 f2 O2 H2 z1 w1 h1 O H1
  rintro self ⟨x1, x2, x3, x4, x5⟩ H1 ⟨e1, e2, e3, e4, i, e5, hi, hL1, pt, O, hon, ww, hz, Kw⟩ ih
  simp only at e1 e2 e3 e4 e5
  subst e1 e2 e3 e4 e5
  simp only [pR_, fB_eq, iLt_dec, wrapK_eq]
  refine ifA_w (fun hx => ?_) (fun hx => ?_)
  · have hx : i < n := by have := of_decide_eq_true hx; simp only [Int.ofNat_eq_natCast] at this; omega
    have hil : i < xs.length := by rw [hI.1]; exact hx
    have hb := hxs _ (List.getElem_mem hil)
    refine (hI.le hL1).read hx (fI_w ?_)
    generalize hv : xs[i] = v at hb
    have e1 : Int.tmod v (Int.ofNat 64) = v % 64 := tmodE hb.1
    have e2 : Int.tdiv v (Int.ofNat 4) = v / 4 := Int.tdiv_eq_ediv_of_nonneg hb.1
    have e3 : IntKind.wrap .u8 (v / 4) = v / 4 := wrapu8 (by omega) (by omega)
    rw [e1]
    refine w64_w (by omega) (by omega) ((hI.le hL1).read hx ?_)
    rw [hv, e2, e3]
    refine w64_w (by omega) (by omega) ?_
    have hon2 : On ⟨v % 64, v / 4⟩ = true := on_of (show 0 ≤ v % 64 by omega) (show v % 64 < 64 by omega) (show 0 ≤ v / 4 by omega) (show v / 4 < 64 by omega)
    simp only [nilK_at, fN_eq, Nat.add_eq, Nat.zero_add]
    refine stoN_we (ds := thC (tN 3 ⟨v % 64, v / 4⟩ fun _ => 0)) Kw.get rfl (lb rfl) rfl ?_
    have f3 : Fr (fun a => a = gw) H1 (H1.put gw (.row (thC (tN 3 ⟨v % 64, v / 4⟩ fun _ => 0)))) := (Fr.refl (fun a => a = gw) _).put (.inl rfl) _
    have hL3 : Le H (H1.put gw (.row (thC (tN 3 ⟨v % 64, v / 4⟩ fun _ => 0)))) := hL1.put nHw _
    have K3 : Keep (H1.put gw (.row (thC (tN 3 ⟨v % 64, v / 4⟩ fun _ => 0)))) O gw (.row (thC (tN 3 ⟨v % 64, v / 4⟩ fun _ => 0))) := ⟨has_put Kw.has, get_put _ _ _, Kw.out⟩
    have w3 := ww.fr f3 fun a ha e => Kw.out (e ▸ ha)
    generalize H1.put gw (.row (thC (tN 3 ⟨v % 64, v / 4⟩ fun _ => 0))) = H3 at *
    refine rowK_w K3.get (ldG_we (ys := ptC ⟨v % 64, v / 4⟩) (lb rfl) (lb rfl) rfl (okK_w rfl (fL_w ?_)))
    refine hdo H3 w _ O (moveC 3 ⟨v % 64, v / 4⟩) 0 _ w3 (by simp) fun H4 O4 f4 w4 o4 => ?_
    obtain ⟨d1, d2⟩ := wdo_move (L := [(3, tN 3 pt fun _ => 0)]) hon2 (by decide : (0 : Int) ≤ 3) (by decide) (by rw [aGet_1]; rfl)
    have d3 : aSet [((3 : Int), tN 3 pt fun _ => 0)] 3 { thOf [(3, tN 3 pt fun _ => 0)] 3 with pt := ⟨v % 64, v / 4⟩ } = [(3, tN 3 ⟨v % 64, v / 4⟩ fun _ => 0)] := by rw [aSet_1, thOf_1]; rfl
    rw [d2, d3] at w4
    rw [tup2_, d1]
    refine arI_w (arI_w ?_)
    refine (show ifA false _ _ = true from ?_)
    rw [ifA_f]
    exact w64_w (by simp only [iAdd_, Int.ofNat_eq_natCast]; omega) (by simp only [iAdd_, Int.ofNat_eq_natCast]; omega) (ih _ _ ⟨rfl, rfl, rfl, rfl, i + 1, by simp [iAdd_], by omega, fr_leW hL3 f4 hz, _, O4, hon2, w4, fun a h => (o4 a h).elim (hz a) fun h hh => h (hL3.has _ hh), K3.step f4 o4⟩ (by simp [iAdd_]; omega))
  · refine loopX_w (fun x Hx => x.1 = (q, m, d, 1) ∧ x.2.1 = .at w 0 ∧ x.2.2.1 = .at gw 0 ∧ ∃ j : Nat, x.2.2.2 = (j : Int) ∧ j ≤ m ∧ Le H Hx ∧ ∃ ns O, WW Hx w [(3, tN 3 pt ns)] O ∧ (∀ a, O a → ¬ H.has a) ∧ Keep Hx O gw (.row (thC (tN 3 pt ns)))) (fun x => 30 - x.2.2.2.toNat)
      ⟨rfl, rfl, rfl, 0, rfl, by omega, hL1, _, O, ww, hz, Kw⟩ (by simp; omega) ?_
    clear Kw hz ww hL1 O H1
    rintro self ⟨x1, x2, x3, x4⟩ H1 ⟨e1, e2, e3, j, e4, hj, hL1, ns, O, ww, hz, Kw⟩ ih
    simp only at e1 e2 e3 e4
    subst e1 e2 e3 e4
    simp only [pR_, fB_eq, iLt_dec]
    refine ifA_w (fun hx => ?_) (fun hx => ?_)
    · have hx : j < m := by have := of_decide_eq_true hx; simp only [Int.ofNat_eq_natCast] at this; omega
      have hil : j < ws.length := by rw [hJ.1]; exact hx
      have hb := hws _ (List.getElem_mem hil)
      have em : Int.tmod (j : Int) (Int.ofNat 4) = ((j % 4 : Nat) : Int) := by rw [tmodE (by omega)]; simp
      simp only [em]
      have h4 : j % 4 < 4 := Nat.mod_lt _ (by decide)
      refine fI_w ((hJ.le hL1).read hx ?_)
      generalize hv : ws[j] = v at hb
      refine w64_w (by omega) (by omega) ?_
      simp only [nilK_at, fN_eq, Nat.add_eq, Nat.zero_add]
      refine idxK_w (by omega) (by omega) ?_
      simp only [Int.toNat_natCast, Nat.mul_eq, Nat.add_zero]
      refine sto1_w Kw.get (by rw [thC_len]; omega) ?_
      rw [tN_set 3 pt ns v (j % 4) h4]
      have f3 : Fr (fun a => a = gw) H1 (H1.put gw (.row (thC (tN 3 pt (updN ns (j % 4) v))))) := (Fr.refl (fun a => a = gw) _).put (.inl rfl) _
      have hL3 : Le H (H1.put gw (.row (thC (tN 3 pt (updN ns (j % 4) v))))) := hL1.put nHw _
      have K3 : Keep (H1.put gw (.row (thC (tN 3 pt (updN ns (j % 4) v))))) O gw (.row (thC (tN 3 pt (updN ns (j % 4) v)))) := ⟨has_put Kw.has, get_put _ _ _, Kw.out⟩
      have w3 := ww.fr f3 fun a ha e => Kw.out (e ▸ ha)
      generalize H1.put gw (.row (thC (tN 3 pt (updN ns (j % 4) v)))) = H3 at *
      refine fI_w (fI_w (idxK_w (by omega) (by omega) ?_))
      simp only [Int.toNat_natCast]
      have e5 : (updN ns (j % 4) v) (j % 4) = v := by unfold updN; rw [if_pos rfl]
      refine rowK_w K3.get (ldG_we (ys := fdC ⟨v, []⟩) (by rw [thC_len]; omega) (by decide) (by rw [tN_fd 3 pt _ (j % 4) h4, e5]) (okK_w rfl (fL_w ?_)))
      refine hdo H3 w _ O (setC 3 ((j % 4 : Nat) : Int) ⟨v, []⟩) 0 _ w3 (by simp) fun H4 O4 f4 w4 o4 => ?_
      obtain ⟨d1, d2⟩ := wdo_set (L := [(3, tN 3 pt ns)]) (k := 3) (w := ((j % 4 : Nat) : Int)) (v := ⟨v, []⟩) (by decide) (by decide) (by omega) (by omega) (isF_N v) (by rw [aGet_1]; rfl)
      rw [d2, aSet_1, thOf_1, setF_N _ _ _ _ (j % 4) h4] at w4
      rw [tup2_, d1]
      refine arI_w (arI_w ?_)
      refine (show ifA false _ _ = true from ?_)
      rw [ifA_f]
      exact w64_w (by simp only [iAdd_, Int.ofNat_eq_natCast]; omega) (by simp only [iAdd_, Int.ofNat_eq_natCast]; omega) (ih _ _ ⟨rfl, rfl, rfl, j + 1, by simp [iAdd_], by omega, fr_leW hL3 f4 hz, _, O4, w4, fun a h => (o4 a h).elim (hz a) fun h hh => h (hL3.has _ hh), K3.step f4 o4⟩ (by simp [iAdd_]; omega))
    · refine hall H1 w _ O _ ww (by simp) fun H2 p2 c2 z2 h2 sl2 => ?_
      rw [asSl_]
      rw [allT_1] at *
      have K2 := Kw.le h2
      refine (show ifA true _ _ = true from ?_)
      rw [ifA_t]
      rcases sl2.rep with ⟨h0, _⟩ | ⟨g6, rfl, _, hg6, hh6, _⟩
      · cases h0
      rw [List.map_cons, List.map_nil, thOf_1] at hg6
      simp only [nilK_at, fN_eq, Nat.add_eq, Nat.zero_add]
      refine okK_w rfl (rowK_w hg6 (ldG_we (ys := thC (tN 3 pt ns)) (lb rfl) (lb rfl) rfl (rowK_w K2.get (ldG_we (ys := thC (tN 3 pt ns)) (lb rfl) (lb rfl) rfl (okK_w ?_ ?_)))))
      · rw [leaves_th]; rfl
      · rw [same_th]; rfl
end Go.Proofs
end
section
/- Rows of things, as the reference has them. -/
namespace Go.Proofs
open Go Go.Vw Go.Vw.Ev
set_option linter.unusedVariables false
set_option linter.unusedSimpArgs false

theorem Sl.inT {H0 H : AH} {p : AP} {n z : Nat} {ts : List Th} (h : Sl H0 H p n z (thsC ts) 11) (hn : ts.length = n) : InT H p n ts :=
  ⟨hn, fun h0 => by
    rcases h.rep with ⟨h1, _⟩ | ⟨g, rfl, _, hg, hh, _⟩
    · exact absurd h1 h0
    · exact ⟨g, rfl, hh, .inr hg⟩⟩
theorem thC_inj {a b : Th} : cellsEqA (thC a) (thC b) = true ↔ a = b := by
  constructor
  · intro h
    have key : decide (a.id = b.id) = true ∧ decide (a.pt.x = b.pt.x) = true ∧ decide (a.pt.y = b.pt.y) = true ∧ decide (a.f0.n = b.f0.n) = true ∧ decide (a.f0.s = b.f0.s) = true ∧ decide (a.f1.n = b.f1.n) = true ∧ decide (a.f1.s = b.f1.s) = true ∧
        decide (a.f2.n = b.f2.n) = true ∧ decide (a.f2.s = b.f2.s) = true ∧ decide (a.f3.n = b.f3.n) = true ∧ decide (a.f3.s = b.f3.s) = true := by
      simp only [thC, ptC, fdC, List.cons_append, List.nil_append, cellsEqA, cellEqA, iEq_dec, sEq_dec] at h
      generalize decide (a.id = b.id) = b0 at *
      generalize decide (a.pt.x = b.pt.x) = b1 at *
      generalize decide (a.pt.y = b.pt.y) = b2 at *
      generalize decide (a.f0.n = b.f0.n) = b3 at *
      generalize decide (a.f0.s = b.f0.s) = b4 at *
      generalize decide (a.f1.n = b.f1.n) = b5 at *
      generalize decide (a.f1.s = b.f1.s) = b6 at *
      generalize decide (a.f2.n = b.f2.n) = b7 at *
      generalize decide (a.f2.s = b.f2.s) = b8 at *
      generalize decide (a.f3.n = b.f3.n) = b9 at *
      generalize decide (a.f3.s = b.f3.s) = b10 at *
      cases b0 <;> first | exact Bool.noConfusion h | skip
      cases b1 <;> first | exact Bool.noConfusion h | skip
      cases b2 <;> first | exact Bool.noConfusion h | skip
      cases b3 <;> first | exact Bool.noConfusion h | skip
      cases b4 <;> first | exact Bool.noConfusion h | skip
      cases b5 <;> first | exact Bool.noConfusion h | skip
      cases b6 <;> first | exact Bool.noConfusion h | skip
      cases b7 <;> first | exact Bool.noConfusion h | skip
      cases b8 <;> first | exact Bool.noConfusion h | skip
      cases b9 <;> first | exact Bool.noConfusion h | skip
      cases b10 <;> first | exact Bool.noConfusion h | skip
      exact ⟨rfl, rfl, rfl, rfl, rfl, rfl, rfl, rfl, rfl, rfl, rfl⟩
    simp only [decide_eq_true_eq] at key
    obtain ⟨e0, e1, e2, e3, e4, e5, e6, e7, e8, e9, e10⟩ := key
    obtain ⟨ai, ⟨ax, ay⟩, ⟨a0, a1⟩, ⟨a2, a3⟩, ⟨a4, a5⟩, ⟨a6, a7⟩⟩ := a
    obtain ⟨bi, ⟨bx, by_⟩, ⟨b0, b1⟩, ⟨b2, b3⟩, ⟨b4, b5⟩, ⟨b6, b7⟩⟩ := b
    simp only at e0 e1 e2 e3 e4 e5 e6 e7 e8 e9 e10
    subst e0 e1 e2 e3 e4 e5 e6 e7 e8 e9 e10
    rfl
  · rintro rfl
    simp only [thC, ptC, fdC, List.cons_append, List.nil_append, cellsEqA, cellEqA, iEq_dec, sEq_dec, decide_true]
def CSame6 (cl : Cl) : Prop := ∀ H p n c z1 q m d z2 ts us K, InT H p n ts → InT H q m us → n < 100000 → (∀ b, (b = true ↔ ts = us) → K (.s (.bool b)) H = true) → cl i_ref6_SameAll [.s (.slice p n c z1), .s (.slice q m d z2)] H K = true
theorem InT.at {H : AH} {p : AP} {n : Nat} {ts : List Th} (h : InT H p n ts) {i : Nat} (hi : i < n) : ∃ g, p = .at g 0 ∧ H.has g ∧ (H.get g = some (.fix (thsC ts)) ∨ H.get g = some (.row (thsC ts))) ∧ i * 11 + 11 ≤ (thsC ts).length ∧
    ((thsC ts).drop (i * 11)).take 11 = thC (ts[i]'(by rw [h.1]; exact hi)) ∧ (thsC ts)[i * 11]? = some (.int .i64 (ts[i]'(by rw [h.1]; exact hi)).id) := by
  obtain ⟨g, h1, h2, h3⟩ := h.2 (by omega)
  have hl : i < ts.length := by rw [h.1]; exact hi
  have ha := thsC_at ts i hl
  refine ⟨g, h1, h2, h3, by rw [thsC_len]; omega, ha, ?_⟩
  have := congrArg (·[0]?) ha
  rw [List.getElem?_take_of_lt (by decide), List.getElem?_drop, Nat.add_zero] at this
  rw [this]; rfl
theorem B_ref6_SameAll_ {lf : Nat} {cl : Cl} (hlf : 100000 ≤ lf) {H : AH} {p q : AP} {n m zz zy : Nat} {c d : ACap} {ts us : List Th} {K : AV → AH → Bool} (hp : InT H p n ts) (hq : InT H q m us) (hn : n < 100000) (hk : ∀ b, (b = true ↔ ts = us) → K (.s (.bool b)) H = true) :
    B_ref6_SameAll lf cl p n c zz q m d zy H K = true := by
  unfold B_ref6_SameAll
  rw [fB_eq, iEq_dec]
  refine ifA_w (fun h => hk false ⟨fun h => (by cases h), fun e => ?_⟩) (fun h => ?_)
  · have : n = m := by rw [← hp.1, ← hq.1, e]
    subst this
    rw [decide_eq_true rfl] at h
    cases h
  have hnm : n = m := by
    by_cases e : (Int.ofNat n) = Int.ofNat m
    · exact Int.ofNat.inj e
    · rw [decide_eq_false e] at h; cases h
  subst hnm
  refine loopX_w (fun x Hx => Hx = H ∧ x.1 = (p, n, c, zz) ∧ x.2.1 = (q, n, d, zy) ∧ ∃ i : Nat, x.2.2 = (i : Int) ∧ i ≤ n ∧ ts.take i = us.take i) (fun x => n - x.2.2.toNat) ⟨rfl, rfl, rfl, 0, rfl, by omega, rfl⟩ (by simp; omega) ?_
  rintro self ⟨x1, x2, x3⟩ Hx ⟨e0, e1, e2, i, e3, hi, ht⟩ ih
  simp only at e1 e2 e3
  subst e0 e1 e2 e3
  simp only [pR_, fB_eq, iLt_dec]
  have hlt := hp.1
  have hlu := hq.1
  refine ifA_w (fun hx => ?_) (fun hx => ?_)
  · have hx : i < n := by have := of_decide_eq_true hx; simp only [Int.ofNat_eq_natCast] at this; omega
    obtain ⟨g1, rfl, _, r1, l1, a1, _⟩ := hp.at hx
    obtain ⟨g2, rfl, _, r2, l2, a2, _⟩ := hq.at hx
    simp only [nilK_at, fN_eq, Nat.add_eq, Nat.mul_eq, Nat.zero_add]
    refine idxK_w (by omega) (by omega) (rowK_wo r1 (ldG_we (ys := thC (ts[i]'(by omega))) (by rw [Int.toNat_natCast]; exact l1) (by decide) (by rw [Int.toNat_natCast]; exact a1) ?_))
    refine idxK_w (by omega) (by omega) (rowK_wo r2 (ldG_we (ys := thC (us[i]'(by omega))) (by rw [Int.toNat_natCast]; exact l2) (by decide) (by rw [Int.toNat_natCast]; exact a2) (okK_w rfl ?_)))
    refine ifA_w (fun h => hk false ⟨fun h => (by cases h), fun e => ?_⟩) (fun h => ?_)
    · subst e
      rw [thC_inj.2 rfl] at h; cases h
    · have he : ts[i]'(by omega) = us[i]'(by omega) := thC_inj.1 (by cases h' : cellsEqA (thC (ts[i]'(by omega))) (thC (us[i]'(by omega))) with
        | true => rfl
        | false => rw [h'] at h; cases h)
      rw [iAdd_]
      refine w64_w (by simp only [Int.ofNat_eq_natCast]; omega) (by simp only [Int.ofNat_eq_natCast]; omega) (ih _ _ ⟨rfl, rfl, rfl, i + 1, by simp, by omega, ?_⟩ (by simp; omega))
      rw [List.take_succ_eq_append_getElem (by omega), List.take_succ_eq_append_getElem (by omega), ht, he]
  · have hx : i = n := by have := of_decide_eq_false hx; simp only [Int.ofNat_eq_natCast] at this; omega
    rw [hx, List.take_of_length_le (by omega), List.take_of_length_le (by omega)] at ht
    exact hk true ⟨fun _ => ht, fun _ => rfl⟩
def CAt6 (cl : Cl) : Prop := ∀ H p n c z ts id K, InT H p n ts → n < 100000 → (∀ r : Int, ((0 ≤ r ∧ ∃ (i : Nat) (hi : i < ts.length), r = (i : Int) ∧ ts[i].id = id) ∨ (r < 0 ∧ ∀ t ∈ ts, t.id ≠ id)) → K (.s (.int .i64 r)) H = true) → cl i_ref6_At [.s (.slice p n c z), .s (.int .i64 id)] H K = true
theorem B_ref6_At_ {lf : Nat} {cl : Cl} (hlf : 100000 ≤ lf) {H : AH} {p : AP} {n zz : Nat} {c : ACap} {ts : List Th} {id : Int} {K : AV → AH → Bool} (hp : InT H p n ts) (hn : n < 100000)
    (hk : ∀ r : Int, ((0 ≤ r ∧ ∃ (i : Nat) (hi : i < ts.length), r = (i : Int) ∧ ts[i].id = id) ∨ (r < 0 ∧ ∀ t ∈ ts, t.id ≠ id)) → K (.s (.int .i64 r)) H = true) : B_ref6_At lf cl p n c zz id H K = true := by
  unfold B_ref6_At
  have hlt := hp.1
  refine loopX_w (fun x Hx => Hx = H ∧ x.1 = (p, n, c, zz) ∧ x.2.1 = id ∧ ∃ i : Nat, x.2.2 = (i : Int) ∧ i ≤ n ∧ ∀ t ∈ ts.take i, t.id ≠ id) (fun x => n - x.2.2.toNat) ⟨rfl, rfl, rfl, 0, rfl, by omega, fun t h => (by simp at h)⟩ (by simp; omega) ?_
  rintro self ⟨x1, x2, x3⟩ Hx ⟨e0, e1, e2, i, e3, hi, ht⟩ ih
  simp only at e1 e2 e3
  subst e0 e1 e2 e3
  simp only [pR_, fB_eq, iLt_dec]
  refine ifA_w (fun hx => ?_) (fun hx => ?_)
  · have hx : i < n := by have := of_decide_eq_true hx; simp only [Int.ofNat_eq_natCast] at this; omega
    obtain ⟨g1, rfl, _, r1, l1, a1, i1⟩ := hp.at hx
    simp only [nilK_at, fN_eq, Nat.add_eq, Nat.mul_eq, Nat.zero_add, Nat.add_zero]
    refine idxK_w (by omega) (by omega) (rowK_wo r1 (ldI_w (by rw [Int.toNat_natCast]; exact i1) ?_))
    rw [iEq_dec]
    refine ifA_w (fun h => hk _ (.inl ⟨by omega, i, by omega, rfl, of_decide_eq_true h⟩)) (fun h => ?_)
    rw [iAdd_]
    refine w64_w (by simp only [Int.ofNat_eq_natCast]; omega) (by simp only [Int.ofNat_eq_natCast]; omega) (ih _ _ ⟨rfl, rfl, rfl, i + 1, by simp, by omega, fun t h' => ?_⟩ (by simp; omega))
    rw [List.take_succ_eq_append_getElem (by omega), List.mem_append, List.mem_singleton] at h'
    rcases h' with h' | rfl
    · exact ht t h'
    · exact of_decide_eq_false h
  · have hx : i = n := by have := of_decide_eq_false hx; simp only [Int.ofNat_eq_natCast] at this; omega
    rw [hx, List.take_of_length_le (by omega)] at ht
    exact hk _ (.inr ⟨by decide, ht⟩)
def notId (id : Int) (t : Th) : Bool := decide (t.id ≠ id)
def CWithout (cl : Cl) : Prop := ∀ H p n c z ts id K, InT H p n ts → n < 10000 → (∀ H' p' c' z', Le H H' → InT H' p' (ts.filter (notId id)).length (ts.filter (notId id)) → K (.s (.slice p' (ts.filter (notId id)).length c' z')) H' = true) → cl i_ref6_Without [.s (.slice p n c z), .s (.int .i64 id)] H K = true
theorem B_ref6_Without_ {lf : Nat} {cl : Cl} (hlf : 100000 ≤ lf) {H : AH} {p : AP} {n zz : Nat} {c : ACap} {ts : List Th} {id : Int} {K : AV → AH → Bool} (hp : InT H p n ts) (hn : n < 10000)
    (hk : ∀ H' p' c' z', Le H H' → InT H' p' (ts.filter (notId id)).length (ts.filter (notId id)) → K (.s (.slice p' (ts.filter (notId id)).length c' z')) H' = true) : B_ref6_Without lf cl p n c zz id H K = true := by
  unfold B_ref6_Without
  have hlt := hp.1
  refine loopX_w (fun x Hx => x.1 = (p, n, c, zz) ∧ x.2.1 = id ∧ Le H Hx ∧ ∃ i : Nat, x.2.2.2 = (i : Int) ∧ i ≤ n ∧ ∃ p1 c1 z1, x.2.2.1 = (p1, ((ts.take i).filter (notId id)).length, c1, z1) ∧ Sl H Hx p1 ((ts.take i).filter (notId id)).length z1 (thsC ((ts.take i).filter (notId id))) 11) (fun x => n - x.2.2.2.toNat)
    ⟨rfl, rfl, Le.refl _, 0, rfl, by omega, .nil, _, _, rfl, Sl.nil⟩ (by simp; omega) ?_
  rintro self ⟨x1, x2, x3, x4⟩ Hx ⟨e1, e2, hL, i, e4, hi, p1, c1, z1, e3, sl⟩ ih
  simp only at e1 e2 e3 e4
  subst e1 e2 e3 e4
  simp only [pR_, fB_eq, iLt_dec]
  refine ifA_w (fun hx => ?_) (fun hx => ?_)
  · have hx : i < n := by have := of_decide_eq_true hx; simp only [Int.ofNat_eq_natCast] at this; omega
    obtain ⟨g1, rfl, _, r1, l1, a1, i1⟩ := (hp.le hL).at hx
    simp only [nilK_at, fN_eq, Nat.add_eq, Nat.mul_eq, Nat.zero_add, Nat.add_zero]
    refine idxK_w (by omega) (by omega) (rowK_wo r1 (ldI_w (by rw [Int.toNat_natCast]; exact i1) ?_))
    rw [iEq_dec]
    have tk : (ts.take (i + 1)).filter (notId x2) = (ts.take i).filter (notId x2) ++ (if notId x2 (ts[i]'(by omega)) = true then [ts[i]'(by omega)] else []) := by
      rw [List.take_succ_eq_append_getElem (by omega), List.filter_append, List.filter_cons, List.filter_nil]
    have lb10 : ((ts.take i).filter (notId x2)).length ≤ i := Nat.le_trans (List.length_filter_le _ _) (by simp; omega)
    refine ifA_w (fun h => ?_) (fun h => ?_)
    · have hne : notId x2 (ts[i]'(by omega)) = true := by
        unfold notId
        by_cases e : (ts[i]'(by omega)).id = x2
        · rw [decide_eq_true e] at h; cases h
        · exact decide_eq_true e
      rw [if_pos hne] at tk
      refine idxK_w (by omega) (by omega) (rowK_wo r1 (ldG_we (ys := thC (ts[i]'(by omega))) (by rw [Int.toNat_natCast]; exact l1) (by decide) (by rw [Int.toNat_natCast]; exact a1) (okK_w rfl (fL_w ?_))))
      rw [ap_eq, List.append_nil]
      refine okK_w rfl (newK_w ?_)
      refine elK_w (ys := thC (ts[i]'(by omega))) (get_new _ _) (by rw [thC_len]; decide) rfl ?_
      refine app_w (sl.le (Le.new _ _)) (hL.newr _) (m := 1) rfl (by decide) (by omega) (by omega) fun p2 c2 z2 H2 hL2 sl2 _ => ?_
      rw [iAdd_]
      refine w64_w (by simp only [Int.ofNat_eq_natCast]; omega) (by simp only [Int.ofNat_eq_natCast]; omega) (ih _ _ ⟨rfl, rfl, hL2, i + 1, by simp, by omega, p2, c2, z2, ?_, ?_⟩ (by simp; omega))
      · rw [tk]; simp
      · rw [tk, thsC, List.flatMap_append, List.length_append]
        simpa [thsC] using sl2
    · have hne : ¬ notId x2 (ts[i]'(by omega)) = true := by
        unfold notId
        by_cases e : (ts[i]'(by omega)).id = x2
        · simp [e]
        · rw [decide_eq_false e] at h; cases h
      rw [if_neg hne, List.append_nil] at tk
      rw [iAdd_]
      exact w64_w (by simp only [Int.ofNat_eq_natCast]; omega) (by simp only [Int.ofNat_eq_natCast]; omega) (ih _ _ ⟨rfl, rfl, hL, i + 1, by simp, by omega, p1, c1, z1, by rw [tk], by rw [tk]; exact sl⟩ (by simp; omega))
  · have hx : i = n := by have := of_decide_eq_false hx; simp only [Int.ofNat_eq_natCast] at this; omega
    rw [hx, List.take_of_length_le (by omega)] at sl ⊢
    exact hk _ _ _ _ hL (Sl.inT sl rfl)
end Go.Proofs
end
section
/- Copies: of the tree, the table, the world. -/
namespace Go.Proofs
open Go Go.Vw Go.Vw.Ev
set_option linter.unusedVariables false
set_option linter.unusedSimpArgs false

theorem keys_sorted2_ {g : Nat} {gs : List Nat} (hg : memN g gs = true) {cl cl' : Cl} {H : AH} {m : Pn} {es : List (Int × AV)} {K : AV → AH → Bool} (hm : H.get m = some (.imap es)) (hh : H.has m) (hr : ∀ k ∈ keysOf es, 0 ≤ k ∧ k ≤ 9223372036854775807) (hl : es.length ≤ 1000000)
    (hk : ∀ H' p c z, Le H H' → IS H' p (srtI (keysOf es)).length z (srtI (keysOf es)) → (∀ a, ownP p a → ¬ H.has a) → K (.s (.slice p (srtI (keysOf es)).length c z)) H' = true) : keysB g cl [.s (.map (some m))] H (fun r h => sortedB gs cl' [r] h K) = true := by
  unfold keysB
  refine new_w fun b H1 h1 hb nb gb => ?_
  unfold sortedB
  refine okK_w hg ?_
  rw [show H1.t.get b = some (.one (.map (some m))) from gb]
  refine mapK_w ((h1.get _ hh).trans hm) (okK_w ?_ (fL_w ?_))
  · rw [allIn_of fun x hx => inR_of (hr x hx).1 (hr x hx).2, ln_eq, Nat.ble_eq_true_of_le hl]; rfl
  · cases e : srtI (keysOf es) with
    | nil =>
      have := hk H1 .nil (.lit 0) 1 h1
      rw [e] at this
      exact this ⟨rfl, .inl ⟨rfl, rfl⟩⟩ fun a ⟨o, h⟩ => by cases h
    | cons k r =>
      refine new_w fun c H2 h2 hc nc gc => ?_
      rw [ln_eq]
      rw [e] at hk
      refine hk H2 (.at c 0) _ 1 (h1.trans h2) ⟨rfl, .inr ⟨c, _, rfl, rfl, hc, gc, by rw [intsA_len]; exact Nat.le_refl _, ?_⟩⟩ fun a ⟨o, h⟩ => ?_
      · rw [List.take_of_length_le (by rw [intsA_len]; exact Nat.le_refl _)]
      · cases h
        exact fun h => nc (h1.has _ h)
def CQCopy (cl : Cl) : Prop := ∀ H g L O K, TR H g L O → (∀ H' g' L' O', Le H H' → TR H' g' L' O' → (∀ a, O' a → ¬ H.has a) → (∀ k, aGet L' k = aGet L k) → K (.s (.ptr (.at g' 0))) H' = true) → cl i_quad_Tree_Copy [.s (.ptr (.at g 0))] H K = true
def CKeysP (cl : Cl) : Prop := ∀ H m es K, H.get m = some (.imap es) → H.has m → (∀ k ∈ keysOf es, 0 ≤ k ∧ k ≤ 9223372036854775807) → es.length ≤ 1000000 →
  (∀ H' p c z, Le H H' → IS H' p (srtI (keysOf es)).length z (srtI (keysOf es)) → (∀ a, ownP p a → ¬ H.has a) → K (.s (.slice p (srtI (keysOf es)).length c z)) H' = true) → cl i_maps_Keys_int_Point [.s (.map (some m))] H (fun r h => cl i_slices_Sorted_int [r] h K) = true
theorem B_quad_Tree_Copy_ {lf : Nat} {cl : Cl} (hlf : 20000 ≤ lf) (hnew : CNewQ cl) (hks : CKeysP cl) (hlay : CLay cl) {H : AH} {g : Pn} {L : List (Int × Pt)} {O : Pn → Prop} {K : AV → AH → Bool} (tr : TR H g L O)
    (hk : ∀ H' g' L' O', Le H H' → TR H' g' L' O' → (∀ a, O' a → ¬ H.has a) → (∀ k, aGet L' k = aGet L k) → K (.s (.ptr (.at g' 0))) H' = true) : B_quad_Tree_Copy lf cl (.at g 0) H K = true := by
  have ton := TR.onK tr
  have nodL := TR.nodK tr
  obtain ⟨m, q, t, _⟩ := tr
  have llen : (aKeys L).length < 10000 := t.len
  have hLl : L.length = (aKeys L).length := by simp [aKeys]
  unfold B_quad_Tree_Copy
  refine hnew _ _ fun H1 g' O' h1 tr1 z1 => ?_
  rw [asP_]
  simp only [nilK_at, fN_eq, Nat.add_eq, Nat.zero_add]
  have gg1 := (h1.get _ t.has).trans t.get
  have gm1 := (h1.get _ t.hasm).trans t.map
  refine rowK_w gg1 (ldM_w rfl ?_)
  refine hks H1 m (aImg ptV L) _ gm1 (h1.has _ t.hasm) (by rw [keysOf_img]; exact fun k hk => (ton k hk).2) (by rw [aImg_length]; omega) fun H2 p c z h2 is2 own2 => ?_
  rw [asSl_]
  rw [keysOf_img] at *
  have hsl : (srtI (aKeys L)).length = (aKeys L).length := srtI_len _
  have snod : (srtI (aKeys L)).Nodup := (srtI_perm _).nodup_iff.2 nodL
  refine loopX_w (fun x Hx => x.1 = .at g 0 ∧ x.2.1 = .at g' 0 ∧ x.2.2.1 = (p, (srtI (aKeys L)).length, c, z) ∧ x.2.2.2.1 = ((srtI (aKeys L)).length : Int) ∧ Le H Hx ∧ ∃ i : Nat, x.2.2.2.2 = (i : Int) ∧ i ≤ (srtI (aKeys L)).length ∧ ∃ L' O', TR Hx g' L' O' ∧ (∀ a, O' a → ¬ H.has a) ∧
      IS Hx p (srtI (aKeys L)).length z (srtI (aKeys L)) ∧ (∀ a, ownP p a → ¬ O' a) ∧ (∀ k, k ∈ aKeys L' ↔ k ∈ (srtI (aKeys L)).take i) ∧ (∀ k ∈ aKeys L', aGet L' k = some (posOf L k)) ∧ L'.length = i) (fun x => 10000 - x.2.2.2.2.toNat)
    ⟨rfl, rfl, rfl, rfl, h1.trans h2, 0, rfl, by omega, [], O', tr1.le h2, z1, is2, fun a ha h => own2 a ha (TRq.has tr1 a h), fun k => ⟨fun h => (by cases h), fun h => (by simp at h)⟩, fun k h => (by cases h), rfl⟩ (by simp; omega) ?_
  clear tr1 z1 is2 own2 O'
  rintro self ⟨x1, x2, x3, x4, x5⟩ Hx ⟨e1, e2, e3, e4, hL, i, e5, hi, L', O', tr', hz, is, own, keys, vals, ll⟩ ih
  simp only at e1 e2 e3 e4 e5
  subst e1 e2 e3 e4 e5
  simp only [pR_, fB_eq, iLt_dec]
  refine ifA_w (fun hx => ?_) (fun hx => ?_)
  · have hx : i < (srtI (aKeys L)).length := by have := of_decide_eq_true hx; omega
    obtain ⟨g4, cs4, rfl, hh4, hg4, hc4⟩ := is.at (i := i) hx
    simp only [nilK_at, fN_eq, Nat.add_eq, Nat.mul_eq, Nat.zero_add, Nat.mul_one]
    refine idxK_w (by omega) (by omega) (rowK_w hg4 (ldI_w (by rw [Int.toNat_natCast]; exact hc4) ?_))
    have ggx := (hL.get _ t.has).trans t.get
    have gmx := (hL.get _ t.hasm).trans t.map
    refine rowK_w ggx (ldM_w rfl (asMp_w (mapK_w gmx (lkP_w ?_))))
    show asG (.agg (ptC _)) _ = true
    rw [asG_]
    have hmem : (srtI (aKeys L))[i] ∈ aKeys L := (srtI_perm _).mem_iff.1 (List.getElem_mem hx)
    have hnot : (srtI (aKeys L))[i] ∉ aKeys L' := fun h => by
      have h := (keys _).1 h
      obtain ⟨j, hj, e⟩ := List.getElem_of_mem h
      rw [List.getElem_take] at e
      have hji : j < i := by rw [List.length_take] at hj; omega
      exact absurd ((List.getElem_inj snod).1 e) (by omega)
    obtain ⟨on, k0, k1⟩ := ton _ hmem
    refine hlay Hx g' L' (aKeys L') O' _ (posOf L (srtI (aKeys L))[i]) _ tr' hnot on k0 k1 (by simp [aKeys]; omega) fun H3 O3 f3 t3 o3 => ?_
    rw [tup0_, iAdd_]
    have own3 : ∀ a, ownP (.at g4 0) a → ¬ O3 a := fun a ha h => (o3 a h).elim (own a ha) fun h => h (is.own_has a ha)
    refine w64_w (by simp only [Int.ofNat_eq_natCast]; omega) (by simp only [Int.ofNat_eq_natCast]; omega) (ih _ _ ⟨rfl, rfl, rfl, rfl, ⟨fun a ha => f3.has a (hL.has a ha), fun a ha => (f3.get a (hL.has a ha) fun h => hz a h ha).trans (hL.get a ha)⟩, i + 1, by simp, by omega,
      aSet L' (srtI (aKeys L))[i] (posOf L (srtI (aKeys L))[i]), O3, ?_, fun a h => (o3 a h).elim (hz a) fun h hh => h (hL.has a hh), is.fr f3 own, own3, fun k => ?_, fun k hk' => ?_, ?_⟩ (by simp; omega))
    · refine TRq.permute t3 ?_
      rw [aKeys_set_new _ _ hnot]
      exact (List.perm_append_singleton _ _).symm
    · rw [aKeys_set_new _ _ hnot, List.take_succ_eq_append_getElem hx, List.mem_append, List.mem_append, keys k]
    · rw [aKeys_set_new _ _ hnot, List.mem_append, List.mem_singleton] at hk'
      by_cases e : k = (srtI (aKeys L))[i]
      · rw [e, aGet_set_same]
      · rw [aGet_set_ne _ _ e]; exact vals k (hk'.resolve_right e)
    · have := congrArg List.length (aKeys_set_new L' (posOf L (srtI (aKeys L))[i]) hnot)
      simp only [aKeys, List.length_map, List.length_append, List.length_cons, List.length_nil] at this
      simp only [aKeys] at *
      omega
  · have hx : i = (srtI (aKeys L)).length := by have := of_decide_eq_false hx; omega
    rw [hx, List.take_length] at keys
    refine hk _ _ _ _ hL tr' hz fun k => ?_
    by_cases hm : k ∈ aKeys L
    · rw [vals k ((keys k).2 ((srtI_perm _).mem_iff.2 hm))]
      obtain ⟨v, hv⟩ := Option.isSome_iff_exists.1 (mem_get.1 hm)
      unfold posOf
      rw [hv]; rfl
    · rw [aGet_none.2 hm, aGet_none.2 fun h => hm ((srtI_perm _).mem_iff.1 ((keys k).1 h))]
def CCloneT (cl : Cl) : Prop := ∀ H m es K, H.get m = some (.imap es) → (∀ g H', Le H H' → H'.has g → ¬ H.has g → H'.get g = some (.imap es) → K (.s (.map (some g))) H' = true) → cl i_maps_Clone_int_Thing [.s (.map (some m))] H K = true
theorem cloneB_ {cl : Cl} {H : AH} {m : Pn} {es : List (Int × AV)} {K : AV → AH → Bool} (hm : H.get m = some (.imap es)) (hk : ∀ g H', Le H H' → H'.has g → ¬ H.has g → H'.get g = some (.imap es) → K (.s (.map (some g))) H' = true) : cloneB cl [.s (.map (some m))] H K = true := by
  unfold cloneB
  exact mapK_w hm (new_w fun g H' h1 h2 h3 h4 => hk g H' h1 h2 h3 h4)
def CTCopy (cl : Cl) : Prop := ∀ H g L O K, TT H g L O → (∀ H' g' O', Le H H' → TT H' g' L O' → (∀ a, O' a → ¬ H.has a) → K (.s (.ptr (.at g' 0))) H' = true) → cl i_table_Table_Copy [.s (.ptr (.at g 0))] H K = true
theorem B_table_Table_Copy_ {lf : Nat} {cl : Cl} (hcl : CCloneT cl) (hq : CQCopy cl) {H : AH} {g : Pn} {L : List (Int × Th)} {O : Pn → Prop} {K : AV → AH → Bool} (tt : TT H g L O)
    (hk : ∀ H' g' O', Le H H' → TT H' g' L O' → (∀ a, O' a → ¬ H.has a) → K (.s (.ptr (.at g' 0))) H' = true) : B_table_Table_Copy lf cl (.at g 0) H K = true := by
  obtain ⟨m, q, Lq, Oq, tb, rfl⟩ := tt
  unfold B_table_Table_Copy
  simp only [nilK_at, fN_eq, Nat.add_eq, Nat.zero_add]
  refine rowK_w tb.get (ldM_w rfl (getK_w tb.get (rowK_w tb.get (ldP_w rfl ?_))))
  refine hcl H m _ _ tb.map fun m' H1 h1 hm1 nm gm1 => ?_
  have tb1 := tb.le h1
  refine okK_w (kSame_p tb1.get rfl rfl) ?_
  show cl i_quad_Tree_Copy _ H1 _ = true
  refine hq H1 q Lq Oq _ tb1.tr fun H2 q' L' O' h2 t2 z2 e2 => ?_
  rw [asP_]
  refine new_w fun g' H3 h3 hg3 ng gg3 => ?_
  have hm2 := h2.has _ hm1
  have ngm : g' ≠ m' := fun e => ng (e ▸ hm2)
  refine hk H3 g' (ownT g' m' O') (h1.trans (h2.trans h3)) ⟨m', q', L', O', ⟨hg3, gg3, h3.has _ hm2, (h3.get _ hm2).trans ((h2.get _ hm1).trans gm1), t2.le h3, ngm, fun h => ng (TRq.has t2 _ h), fun h => z2 _ h hm1, tb.nod, fun k => by rw [e2, tb.pos], tb.ok⟩, rfl⟩ fun a ha => ?_
  rcases ha with rfl | rfl | ha
  · exact fun h => ng (h2.has _ (h1.has _ h))
  · exact nm
  · exact fun h => z2 _ ha (h1.has _ h)
def CWCopy (cl : Cl) : Prop := ∀ H w L O K, WW H w L O → (∀ H' w' O', Le H H' → WW H' w' L O' → (∀ a, O' a → ¬ H.has a) → K (.s (.ptr (.at w' 0))) H' = true) → cl i_world_World_Copy [.s (.ptr (.at w 0))] H K = true
theorem B_world_World_Copy_ {lf : Nat} {cl : Cl} (ht : CTCopy cl) {H : AH} {w : Pn} {L : List (Int × Th)} {O : Pn → Prop} {K : AV → AH → Bool} (ww : WW H w L O)
    (hk : ∀ H' w' O', Le H H' → WW H' w' L O' → (∀ a, O' a → ¬ H.has a) → K (.s (.ptr (.at w' 0))) H' = true) : B_world_World_Copy lf cl (.at w 0) H K = true := by
  obtain ⟨g, Og, h1, h2, h3, h4, rfl⟩ := ww
  unfold B_world_World_Copy
  simp only [nilK_at, fN_eq, Nat.add_eq, Nat.zero_add]
  refine rowK_w h2 (ldP_w rfl (ht H g L Og _ h3 fun H1 g' O' l1 t1 z1 => ?_))
  rw [asP_]
  refine new_w fun w' H2 l2 hw nw gw => ?_
  refine hk H2 w' (ownW w' O') (l1.trans l2) ⟨g', O', hw, gw, t1.le l2, fun h => nw (t1.has _ h), rfl⟩ fun a ha => ?_
  rcases ha with rfl | ha
  · exact fun h => nw (l1.has _ h)
  · exact z1 a ha
end Go.Proofs
end
section
/- WorldApart: commands of unlike things may be done in either order. -/
namespace Go.Proofs
open Go Go.Vw Go.Vw.Ev
set_option linter.unusedVariables false
set_option linter.unusedSimpArgs false

/-! What a command does to one number. -/
def keyC (c : Cm) (x : Int) : Int := if c.kind = 1 then x else c.id
noncomputable def eC (c : Cm) (x : Int) (o : Option Th) : Int :=
  if IsCm c = false ∨ 4 < c.kind then 11 else
  if c.kind = 1 then (if On c.pt = false then 14 else if (!o.isSome && (decide (0 ≤ x) && decide (x ≤ 1000000))) = true then 0 else 11) else
  if o.isSome = false then 15 else
  if c.kind = 2 ∧ On c.pt = false then 14 else
  if c.kind = 3 ∧ (c.which < 0 ∨ 4 ≤ c.which) then 18 else 0
theorem wE_no {L : List (Int × Th)} {c : Cm} {x e : Int} (h : checkE L c = e) (h0 : e ≠ 0) (h1 : e ≠ 16) : wE L c x = e := by
  unfold wE
  rw [if_neg (fun go : wGo L c => go.elim (fun g => h0 (h.symm.trans g)) fun g => h1 (h.symm.trans g.1)), h]
theorem wE_eq {L : List (Int × Th)} {c : Cm} {x : Int} (hl : L.length < 200) : wE L c x = eC c x (aGet L (keyC c x)) := by
  unfold eC
  by_cases n0 : IsCm c = false ∨ 4 < c.kind
  · have ck : checkE L c = 11 := by unfold checkE; rw [if_pos n0]
    rw [if_pos n0]
    exact wE_no ck (by decide) (by decide)
  rw [if_neg n0]
  by_cases k1 : c.kind = 1
  · rw [if_pos k1]
    unfold keyC
    rw [if_pos k1]
    cases ho : On c.pt with
    | false =>
      have ck : checkE L c = 14 := by unfold checkE; rw [if_neg n0, if_pos ⟨k1, by rw [ofE_no ho]; decide⟩, ofE_no ho]
      rw [if_pos rfl]
      exact wE_no ck (by decide) (by decide)
    | true =>
      have ck : checkE L c = 0 ∨ checkE L c = 16 := by
        unfold checkE
        rw [if_neg n0, if_neg (fun h => h.2 (ofE_of ho))]
        split
        · exact .inr rfl
        · first | exact .inl rfl | exact .inl (if_pos k1)
      have go : wGo L c := ck.imp (fun h => h) fun h => ⟨h, .inr hl⟩
      rw [if_neg (by decide)]
      unfold wE
      rw [if_pos go]
      unfold doneB canPut
      rw [if_pos k1]
  · rw [if_neg k1]
    unfold keyC
    rw [if_neg k1]
    have c1 : ∀ {P : Prop} {e f : Int} [Decidable (c.kind = 1 ∧ P)], (if c.kind = 1 ∧ P then e else f) = f := fun {P e f} _ => if_neg fun h => k1 h.1
    have hd : doneB L c x = true := by unfold doneB; rw [if_neg k1]
    cases hs : (aGet L c.id).isSome with
    | false =>
      have ck : checkE L c = 15 := by unfold checkE; rw [if_neg n0, if_neg (fun h => k1 h.1), if_neg (fun h => k1 h.1), if_neg k1, if_pos hs]
      rw [if_pos rfl]
      exact wE_no ck (by decide) (by decide)
    | true =>
      rw [if_neg (by decide)]
      by_cases k2 : c.kind = 2
      · cases ho : On c.pt with
        | false =>
          have ck : checkE L c = 14 := by
            unfold checkE
            rw [if_neg n0, if_neg (fun h => k1 h.1), if_neg (fun h => k1 h.1), if_neg k1, if_neg (by rw [hs]; decide), if_pos ⟨k2, by rw [ofE_no ho]; decide⟩, ofE_no ho]
          rw [if_pos ⟨k2, rfl⟩]
          exact wE_no ck (by decide) (by decide)
        | true =>
          have ck : checkE L c = 0 ∨ checkE L c = 16 := by
            unfold checkE
            rw [if_neg n0, if_neg (fun h => k1 h.1), if_neg (fun h => k1 h.1), if_neg k1, if_neg (by rw [hs]; decide), if_neg (fun h => h.2 (ofE_of ho))]
            split
            · exact .inr rfl
            · first | exact .inl rfl | exact .inl (if_neg fun h => by have := h.1; omega)
          have go : wGo L c := ck.imp (fun h => h) fun h => ⟨h, .inl k1⟩
          rw [if_neg (fun h => absurd h.2 (by decide)), if_neg (fun h => by have := h.1; omega)]
          unfold wE
          rw [if_pos go, if_pos hd]
      · rw [if_neg (fun h => k2 h.1)]
        by_cases k3 : c.kind = 3 ∧ (c.which < 0 ∨ 4 ≤ c.which)
        · have ck : checkE L c = 18 := by
            unfold checkE
            rw [if_neg n0, if_neg (fun h => k1 h.1), if_neg (fun h => k1 h.1), if_neg k1, if_neg (by rw [hs]; decide), if_neg (fun h => k2 h.1), if_neg (fun h => k2 h.1), if_pos k3]
          rw [if_pos k3]
          exact wE_no ck (by decide) (by decide)
        · have ck : checkE L c = 0 := by
            unfold checkE
            rw [if_neg n0, if_neg (fun h => k1 h.1), if_neg (fun h => k1 h.1), if_neg k1, if_neg (by rw [hs]; decide), if_neg (fun h => k2 h.1), if_neg (fun h => k2 h.1), if_neg k3]
          rw [if_neg k3]
          unfold wE
          rw [if_pos (.inl ck), if_pos hd]
/-- What stands behind it under its number. -/
def uC (c : Cm) (x : Int) (o : Option Th) : Option Th :=
  if c.kind = 1 then some (putT c x) else if c.kind = 2 then some { o.getD th0 with pt := c.pt } else if c.kind = 3 then some (setF (o.getD th0) c.which c.v) else none
theorem e0_put {c : Cm} {x : Int} {o : Option Th} (h : eC c x o = 0) (k1 : c.kind = 1) : (!o.isSome && (decide (0 ≤ x) && decide (x ≤ 1000000))) = true := by
  unfold eC at h
  split at h
  · exact absurd h (by decide)
  try rw [if_pos k1] at h
  split at h
  · exact absurd h (by decide)
  split at h
  · assumption
  · exact absurd h (by decide)
theorem wL_get {L : List (Int × Th)} {c : Cm} {x : Int} (hl : L.length < 200) (k : Int) : aGet (wL L c x) k = if eC c x (aGet L (keyC c x)) = 0 ∧ k = keyC c x then uC c x (aGet L (keyC c x)) else aGet L k := by
  unfold wL
  rw [wE_eq hl]
  by_cases he : eC c x (aGet L (keyC c x)) = 0
  · rw [if_pos he]
    have set : ∀ v, doneL L c x = aSet L (keyC c x) v → uC c x (aGet L (keyC c x)) = some v → aGet (doneL L c x) k = if eC c x (aGet L (keyC c x)) = 0 ∧ k = keyC c x then uC c x (aGet L (keyC c x)) else aGet L k := fun v h1 h2 => by
      rw [h1, h2]
      by_cases e : k = keyC c x
      · rw [if_pos ⟨he, e⟩, e, aGet_set_same]
      · rw [if_neg fun h => e h.2, aGet_set_ne _ _ e]
    by_cases k1 : c.kind = 1
    · have ek : keyC c x = x := by unfold keyC; rw [if_pos k1]
      have hp := e0_put he k1
      rw [ek] at hp
      exact set (putT c x) (by rw [ek]; unfold doneL; rw [if_pos k1, if_pos (show canPut L x = true from hp)]) (by unfold uC; rw [if_pos k1])
    · have ek : keyC c x = c.id := by unfold keyC; rw [if_neg k1]
      by_cases k2 : c.kind = 2
      · exact set _ (by rw [ek]; unfold doneL; rw [if_neg k1, if_pos k2]) (by rw [ek]; unfold uC; rw [if_neg k1, if_pos k2]; rfl)
      by_cases k3 : c.kind = 3
      · exact set _ (by rw [ek]; unfold doneL; rw [if_neg k1, if_neg k2, if_pos k3]) (by rw [ek]; unfold uC; rw [if_neg k1, if_neg k2, if_pos k3]; rfl)
      have h1 : doneL L c x = aDel L (keyC c x) := by rw [ek]; unfold doneL; rw [if_neg k1, if_neg k2, if_neg k3]
      have h2 : uC c x (aGet L (keyC c x)) = none := by unfold uC; rw [if_neg k1, if_neg k2, if_neg k3]
      rw [h1, h2]
      by_cases e : k = keyC c x
      · rw [if_pos ⟨he, e⟩, e, aGet_del_same]
      · rw [if_neg fun h => e h.2, aGet_del_ne _ e]
  · rw [if_neg he, if_neg fun h => he h.1]
theorem wN_eq {L : List (Int × Th)} {c : Cm} {x : Int} (hl : L.length < 200) : wN L c x = if eC c x (aGet L (keyC c x)) = 0 then keyC c x else 0 := by
  unfold wN
  rw [wE_eq hl]
  by_cases he : eC c x (aGet L (keyC c x)) = 0
  · rw [if_pos he, if_pos he]
    by_cases k1 : c.kind = 1
    · have ek : keyC c x = x := by unfold keyC; rw [if_pos k1]
      have hp := e0_put he k1
      rw [ek] at hp ⊢
      unfold doneN
      rw [if_pos k1, if_pos (show canPut L x = true from hp)]
    · unfold keyC doneN
      rw [if_neg k1, if_neg k1]
  · rw [if_neg he, if_neg he]
theorem aSet_lenW (L : List (Int × Th)) (k : Int) (v : Th) : (aSet L k v).length ≤ L.length + 1 := by
  induction L with
  | nil => simp [aSet]
  | cons x r ih => unfold aSet; split
                   · simp
                   · simp only [List.length_cons]; omega
theorem aDel_lenW (L : List (Int × Th)) (k : Int) : (aDel L k).length ≤ L.length := by
  induction L with
  | nil => simp [aDel]
  | cons x r ih => unfold aDel; split
                   · simp only [List.length_cons]; omega
                   · simp only [List.length_cons]; omega
theorem wL_len (L : List (Int × Th)) (c : Cm) (x : Int) : (wL L c x).length ≤ L.length + 1 := by
  unfold wL doneL
  split
  · split
    · split
      · exact aSet_lenW _ _ _
      · omega
    split
    · exact aSet_lenW _ _ _
    split
    · exact aSet_lenW _ _ _
    · exact Nat.le_trans (aDel_lenW _ _) (by omega)
  · omega
theorem WW.nod {H : AH} {w : Pn} {L : List (Int × Th)} {O : Pn → Prop} (h : WW H w L O) : (aKeys L).Nodup := by
  obtain ⟨g, Og, _, _, t, _⟩ := h
  obtain ⟨m, q, Lq, Oq, tb, _⟩ := t
  exact tb.nod
noncomputable def viewW (L : List (Int × Th)) : List Th := (allT L).map (thOf L)
theorem view_eq {L L' : List (Int × Th)} (hn : (aKeys L).Nodup) (hn' : (aKeys L').Nodup) (hg : ∀ k, aGet L k = aGet L' k) : viewW L = viewW L' := by
  unfold viewW allT
  have hp : (aKeys L).Perm (aKeys L') := (List.perm_ext_iff_of_nodup hn hn').2 fun k => by rw [mem_get, mem_get, hg]
  rw [srtI_perm_eq hp]
  exact List.map_congr_left fun k _ => by unfold thOf; rw [hg]
/-- Either order. -/
theorem apart_ok {L : List (Int × Th)} {a b : Cm} {x y : Int} (hl : L.length < 100) (hne : keyC a x ≠ keyC b y) :
    wE (wL L b y) a x = wE L a x ∧ wE (wL L a x) b y = wE L b y ∧ wN (wL L b y) a x = wN L a x ∧ wN (wL L a x) b y = wN L b y ∧ ∀ k, aGet (wL (wL L a x) b y) k = aGet (wL (wL L b y) a x) k := by
  have la := wL_len L a x
  have lb' := wL_len L b y
  have ga : aGet (wL L b y) (keyC a x) = aGet L (keyC a x) := by rw [wL_get (by omega), if_neg fun h => hne h.2]
  have gb : aGet (wL L a x) (keyC b y) = aGet L (keyC b y) := by rw [wL_get (by omega), if_neg fun h => hne h.2.symm]
  refine ⟨by rw [wE_eq (by omega), wE_eq (by omega), ga], by rw [wE_eq (by omega), wE_eq (by omega), gb], by rw [wN_eq (by omega), wN_eq (by omega), ga], by rw [wN_eq (by omega), wN_eq (by omega), gb], fun k => ?_⟩
  rw [wL_get (by omega), gb, wL_get (c := a) (by omega) k, wL_get (L := wL L b y) (by omega), ga, wL_get (c := b) (by omega) k]
  by_cases e1 : eC b y (aGet L (keyC b y)) = 0 ∧ k = keyC b y
  · rw [if_pos e1, if_pos e1, if_neg fun h => hne (h.2.symm.trans e1.2)]
  · rw [if_neg e1, if_neg e1]
end Go.Proofs
end
section
/- WorldApart: the walk. -/
namespace Go.Proofs
open Go Go.Vw Go.Vw.Ev
set_option linter.unusedVariables false
set_option linter.unusedSimpArgs false

def CFewC12 (cl : Cl) : Prop := ∀ c H K, (∀ H' b, Le H H' → K (.s (.bool b)) H' = true) → cl i_law12_fewCmd [.agg (cmC c)] H K = true
theorem cmC_strW (c : Cm) : ∀ k : Nat, k < 4 → (cmC c)[6 + k * 2 + 1]? = some (.str (c.fs k).s) := lt4 rfl rfl rfl rfl
theorem B_law12_fewCmd_ {lf : Nat} {cl : Cl} (hlf : 10 ≤ lf) {c : Cm} {H : AH} {K : AV → AH → Bool} (hk : ∀ H' b, Le H H' → K (.s (.bool b)) H' = true) : B_law12_fewCmd lf cl (cmC c) H K = true := by
  unfold B_law12_fewCmd
  refine new_w fun g H1 h1 hg ng gg => ?_
  refine loopX_w (fun x Hx => x.1 = .at g 0 ∧ Hx = H1 ∧ ∃ i : Nat, x.2 = (i : Int) ∧ i ≤ 4) (fun x => 4 - x.2.toNat) ⟨rfl, rfl, 0, rfl, by omega⟩ (by simp; omega) ?_
  rintro self ⟨x1, x2⟩ H2 ⟨e1, rfl, i, e2, hi⟩ ih
  simp only at e1 e2
  subst e1 e2
  simp only [pR_, fB_eq, iLt_dec]
  refine ifA_w (fun hx => ?_) (fun hx => ?_)
  · have hx : i < 4 := by have h : (i : Int) < 4 := of_decide_eq_true hx; omega
    simp only [nilK_at, fN_eq, Nat.add_eq, Nat.zero_add]
    refine idxK_w (by omega) (by omega) ?_
    simp only [Int.toNat_natCast, Nat.mul_eq]
    refine rowK_w gg (ldStr_w (cmC_strW c i hx) ?_)
    refine ifA_w (fun _ => hk _ _ h1) (fun _ => ?_)
    rw [iAdd_]
    exact w64_w (by simp only [Int.ofNat_eq_natCast]; omega) (by simp only [Int.ofNat_eq_natCast]; omega) (ih _ _ ⟨rfl, rfl, i + 1, by simp, by omega⟩ (by simp; omega))
  · simp only [nilK_at, fN_eq, Nat.add_eq, Nat.zero_add]
    exact rowK_w gg (ldStr_w (p := c.v.s) rfl (hk _ _ h1))
/-! Rows of commands. -/
def cmsC (l : List Cm) : List AS := l.flatMap cmC
theorem cmsC_len : ∀ l : List Cm, (cmsC l).length = l.length * 22
  | [] => rfl
  | r :: l => by have := cmsC_len l; simp only [cmsC, List.flatMap_cons, List.length_append] at *; rw [this, cmC_len, List.length_cons]; omega
theorem cmsC_at : ∀ (l : List Cm) (i : Nat) (h : i < l.length), ((cmsC l).drop (i * 22)).take 22 = cmC l[i]
  | p :: l, 0, _ => rfl
  | p :: l, i + 1, h => by
    have := cmsC_at l i (by simpa using h)
    simp only [List.getElem_cons_succ, cmsC, List.flatMap_cons] at *
    rw [← this, show (i + 1) * 22 = (cmC p).length + i * 22 by rw [cmC_len]; omega, ← List.drop_drop, List.drop_left]
def InC (H : AH) (p : AP) (n : Nat) (ts : List Cm) : Prop := ts.length = n ∧ (n ≠ 0 → ∃ g, p = .at g 0 ∧ H.has g ∧ H.get g = some (.fix (cmsC ts)))
theorem InC.le {H H' : AH} {p : AP} {n : Nat} {ts : List Cm} (h : InC H p n ts) (k : Le H H') : InC H' p n ts :=
  ⟨h.1, fun hn => (h.2 hn).imp fun g hg => ⟨hg.1, k.has g hg.2.1, (k.get g hg.2.1).trans hg.2.2⟩⟩
theorem InC.read {H : AH} {p : AP} {n : Nat} {ts : List Cm} (h : InC H p n ts) {i : Nat} (hi : i < n) {K : List AS → Bool} (hk : K (cmC (ts[i]'(by rw [h.1]; exact hi))) = true) :
    nilK p (fun g o => idxK (i : Int) n fun m => fN (Nat.add o (Nat.mul m 22)) fun o => rowK H g fun cs => ldG cs o 22 K) = true := by
  obtain ⟨g, rfl, hg, hrow⟩ := h.2 (by omega)
  simp only [nilK_at, fN_eq, Nat.add_eq, Nat.mul_eq, Nat.zero_add]
  have hl : (cmsC ts).length = n * 22 := by rw [cmsC_len, h.1]
  exact idxK_w (by omega) (by omega) (rowK_wf hrow (ldG_we (by rw [hl, Int.toNat_natCast]; omega) (by decide) (by rw [Int.toNat_natCast]; exact cmsC_at ts i _) hk))
def CWOf (cl : Cl) : Prop := ∀ H p n c z1 q m d z2 ts ids K, InC H p n ts → InI H q m .i64 ids → n ≤ 30 → (∀ H' w L O, Le H H' → WW H' w L O → (∀ a, O a → ¬ H.has a) → L.length ≤ n → K (.s (.ptr (.at w 0))) H' = true) → cl i_world_Of [.s (.slice p n c z1), .s (.slice q m d z2)] H K = true
theorem B_world_Of_ {lf : Nat} {cl : Cl} (hlf : 1000 ≤ lf) (hnew : CWNew cl) (hdo : CWDo cl) {H : AH} {p q : AP} {n m z1 z2 : Nat} {c d : ACap} {ts : List Cm} {ids : List Int} {K : AV → AH → Bool} (hI : InC H p n ts) (hJ : InI H q m .i64 ids) (hn : n ≤ 30)
    (hk : ∀ H' w L O, Le H H' → WW H' w L O → (∀ a, O a → ¬ H.has a) → L.length ≤ n → K (.s (.ptr (.at w 0))) H' = true) : B_world_Of lf cl p n c z1 q m d z2 H K = true := by
  unfold B_world_Of
  refine hnew _ _ fun H1 w O h1 w1 zz1 => ?_
  rw [asP_]
  refine loopX_w (fun x Hx => x.1 = (q, m, d, z2) ∧ x.2.1 = .at w 0 ∧ x.2.2.1 = (p, n, c, z1) ∧ x.2.2.2.1 = (n : Int) ∧ ∃ i : Nat, x.2.2.2.2 = (i : Int) ∧ i ≤ n ∧ Le H Hx ∧ ∃ L O, WW Hx w L O ∧ (∀ a, O a → ¬ H.has a) ∧ L.length ≤ i) (fun x => 40 - x.2.2.2.2.toNat)
    ⟨rfl, rfl, rfl, rfl, 0, rfl, by omega, h1, [], O, w1, zz1, by simp⟩ (by simp; omega) ?_
  clear w1 zz1 h1 O H1
  rintro self ⟨x1, x2, x3, x4, x5⟩ H1 ⟨e1, e2, e3, e4, i, e5, hi, hL1, L, O, ww, hz, hl⟩ ih
  simp only at e1 e2 e3 e4 e5
  subst e1 e2 e3 e4 e5
  simp only [pR_, fB_eq, iLt_dec]
  refine ifA_w (fun hx => ?_) (fun hx => hk _ _ _ _ hL1 ww hz (by omega))
  have hx : i < n := by have := of_decide_eq_true hx; omega
  refine (hI.le hL1).read hx (tmp_w rfl rfl fun gc H2 h2 hc nc gc2 => ?_)
  generalize ts[i]'(by rw [hI.1]; exact hx) = cmd at *
  have hL2 := hL1.trans h2
  refine joinX_w (fun x Hx => Hx = H2 ∧ ∃ id : Int, x = ((q, m, d, z2), .at w 0, .at gc 0, id, (p, n, c, z1), (n : Int), (i : Int))) ?_ ?_
  · rintro x Hx ⟨rfl, id, rfl⟩
    simp only [pR_, nilK_at]
    refine rowK_w gc2 (ldG_we (ys := cmC cmd) (lb rfl) (lb rfl) rfl ?_)
    refine hdo Hx w L O cmd id _ (ww.le h2) (by omega) fun H3 O3 f3 w3 o3 => ?_
    rw [tup2_]
    refine arI_w (arI_w ?_)
    have := wL_len L cmd id
    exact w64_w (by simp only [iAdd_, Int.ofNat_eq_natCast]; omega) (by simp only [iAdd_, Int.ofNat_eq_natCast]; omega) (ih _ _ ⟨rfl, rfl, rfl, rfl, i + 1, by simp [iAdd_], by omega, fr_leW hL2 f3 hz, _, O3, w3, fun a h => (o3 a h).elim (hz a) fun h hh => h (hL2.has _ hh), by omega⟩ (by simp [iAdd_]; omega))
  · intro J hJ'
    refine ifA_w (fun hy => ?_) (fun _ => hJ' _ _ ⟨rfl, _, rfl⟩)
    have hy : i < m := by have := of_decide_eq_true hy; simp only [Int.ofNat_eq_natCast] at this; omega
    exact (hJ.le hL2).read hy (hJ' _ _ ⟨rfl, _, rfl⟩)
theorem Sl.inTW {H0 H : AH} {p : AP} {z : Nat} {L : List (Int × Th)} (h : Sl H0 H p (allT L).length z (thsC ((allT L).map (thOf L))) 11) : InT H p (allT L).length (viewW L) := Sl.inT h (List.length_map _)
theorem B_law12_WorldApart_ {lf : Nat} {cl : Cl} (hlf : 1000 ≤ lf) (hkn : ∀ H K, cl i_law12_known [] H K = K (.s (.bool true)) H) (hfew : CFewC12 cl) (hof : CWOf cl) (hcopy : CWCopy cl) (hdo : CWDo cl) (hall : CWAll cl) (hsame : CSame6 cl)
    {H : AH} {p q : AP} {n m : Nat} {c d : ACap} {ts : List Cm} {ids : List Int} {a b : Cm} {x y : Int} (hI : InC H p n ts) (hJ : InI H q m .i64 ids) : B_law12_WorldApart lf cl p n c 22 q m d 1 (cmC a) (cmC b) x y H isT = true := by
  unfold B_law12_WorldApart
  refine new_w fun ga H1 h1 ha1 na ga1 => new_w fun gb H2 h2 hb2 nb gb2 => ?_
  have ha2 := h2.has _ ha1
  have ga2 := (h2.get _ ha1).trans ga1
  rw [hkn]
  refine arB_w (fBf_w' rfl ?_)
  rw [fB_eq, iLt_dec]
  refine ifA_w (fun _ => rfl) (fun h30 => ?_)
  have h30 : n ≤ 30 := by have := of_decide_eq_false h30; simp only [Int.ofNat_eq_natCast, Int.cast_ofNat_Int] at this; omega
  refine rowK_w ga2 (ldG_we (ys := cmC a) (lb rfl) (lb rfl) rfl (hfew _ _ _ fun H3 b3 h3 => arB_w ?_))
  rw [fB_eq]
  refine ifA_w (fun _ => rfl) (fun _ => ?_)
  refine rowK_w ((h3.get _ hb2).trans gb2) (ldG_we (ys := cmC b) (lb rfl) (lb rfl) rfl (hfew _ _ _ fun H4 b4 h4 => arB_w ?_))
  rw [fB_eq]
  refine ifA_w (fun _ => rfl) (fun _ => ?_)
  have hl4 := h3.trans h4
  refine loopX_w (fun s Hx => s.1 = (p, n, c, 22) ∧ s.2.1 = (q, m, d, 1) ∧ s.2.2.1 = x ∧ s.2.2.2.1 = y ∧ s.2.2.2.2.1 = .at ga 0 ∧ s.2.2.2.2.2.1 = .at gb 0 ∧ ∃ i : Nat, s.2.2.2.2.2.2 = (i : Int) ∧ i ≤ n ∧ Le H2 Hx) (fun s => 40 - s.2.2.2.2.2.2.toNat)
    ⟨rfl, rfl, rfl, rfl, rfl, rfl, 0, rfl, by omega, hl4⟩ (by simp; omega) ?_
  clear hl4 h4 h3 H4 H3
  rintro self ⟨x1, x2, x3, x4, x5, x6, x7⟩ H3 ⟨e1, e2, e3, e4, e5, e6, i, e7, hi, h3⟩ ih
  simp only at e1 e2 e3 e4 e5 e6 e7
  subst e1 e2 e3 e4 e5 e6 e7
  have ga3 := (h3.get _ ha2).trans ga2
  have gb3 := (h3.get _ hb2).trans gb2
  have ha3 := h3.has _ ha2
  have hb3 := h3.has _ hb2
  have hL3 := h1.trans (h2.trans h3)
  simp only [pR_, fB_eq, iLt_dec]
  refine ifA_w (fun hx => ?_) (fun hx => ?_)
  · have hx : i < n := by have := of_decide_eq_true hx; simp only [Int.ofNat_eq_natCast] at this; omega
    refine (hI.le hL3).read hx (hfew _ _ _ fun H4 b4 h4 => arB_w ?_)
    refine ifA_w (fun _ => rfl) (fun _ => ?_)
    exact w64_w (by simp only [iAdd_, Int.ofNat_eq_natCast]; omega) (by simp only [iAdd_, Int.ofNat_eq_natCast]; omega) (ih _ _ ⟨rfl, rfl, rfl, rfl, rfl, rfl, i + 1, by simp [iAdd_], by omega, h3.trans h4⟩ (by simp [iAdd_]; omega))
  clear ih hi hx
  simp only [nilK_at, fN_eq, Nat.add_eq, Nat.zero_add]
  refine rowK_w ga3 (ldI_w (n := a.id) rfl (rowK_w gb3 (ldI_w (n := b.id) rfl ?_)))
  refine joinX_w (fun s Hx => Hx = H3 ∧ s = ((p, n, c, 22), (q, m, d, 1), x3, x4, .at ga 0, .at gb 0, keyC a x3, b.id)) ?_ ?_
  · rintro s Hx ⟨rfl, rfl⟩
    simp only [pR_]
    refine joinX_w (fun s Hy => Hy = Hx ∧ s = ((p, n, c, 22), (q, m, d, 1), x3, x4, .at ga 0, .at gb 0, keyC a x3, keyC b x4)) ?_ ?_
    · rintro s Hy ⟨rfl, rfl⟩
      simp only [pR_, nilK_at]
      rw [iEq_dec]
      refine ifA_w (fun _ => rfl) (fun hne => ?_)
      have hne : keyC a x3 ≠ keyC b x4 := of_decide_eq_false hne
      refine hof _ _ _ _ _ _ _ _ _ _ _ _ (hI.le hL3) (hJ.le hL3) h30 fun H4 w L O h4 ww zO lL => ?_
      rw [asP_]
      refine hcopy H4 w L O _ ww fun H5 w' O' h5 ww' zO' => ?_
      rw [asP_]
      have le5 := h4.trans h5
      have zO5 : ∀ t, O' t → ¬ Hy.has t := fun t h hh => zO' t h (h4.has _ hh)
      have w5 := ww.le h5
      have apa : ∀ t, O' t → ¬ O t := fun t h h' => zO' t h (ww.has t h')
      obtain ⟨q1, q2, q3, q4, q5⟩ := apart_ok (L := L) (a := a) (b := b) (x := x3) (y := x4) (by omega) hne
      have la := wL_len L a x3
      have lab := wL_len (wL L a x3) b x4
      have lb' := wL_len L b x4
      have lba := wL_len (wL L b x4) a x3
      refine rowK_w ((le5.get _ ha3).trans ga3) (ldG_we (ys := cmC a) (lb rfl) (lb rfl) rfl ?_)
      refine hdo H5 w L O a x3 _ w5 (by omega) fun H6 O6 f6 w6 o6 => ?_
      rw [tup2_]
      refine arI_w (arI_w ?_)
      have le6 := fr_leW le5 f6 zO
      have zO6 : ∀ t, O6 t → ¬ Hy.has t := fun t h => (o6 t h).elim (zO t) fun h hh => h (le5.has _ hh)
      have ww6 := ww'.fr f6 apa
      have apa6 : ∀ t, O' t → ¬ O6 t := fun t h h' => (o6 t h').elim (apa t h) fun h' => h' (ww'.has t h)
      refine rowK_w ((le6.get _ hb3).trans gb3) (ldG_we (ys := cmC b) (lb rfl) (lb rfl) rfl ?_)
      refine hdo H6 w _ O6 b x4 _ w6 (by omega) fun H7 O7 f7 w7 o7 => ?_
      rw [tup2_]
      refine arI_w (arI_w ?_)
      have le7 := fr_leW le6 f7 zO6
      have zO7 : ∀ t, O7 t → ¬ Hy.has t := fun t h => (o7 t h).elim (zO6 t) fun h hh => h (le6.has _ hh)
      have ww7 := ww6.fr f7 apa6
      have apa7 : ∀ t, O' t → ¬ O7 t := fun t h h' => (o7 t h').elim (apa6 t h) fun h' => h' (ww6.has t h)
      refine rowK_w ((le7.get _ hb3).trans gb3) (ldG_we (ys := cmC b) (lb rfl) (lb rfl) rfl ?_)
      refine hdo H7 w' L O' b x4 _ ww7 (by omega) fun H8 O8 f8 w8 o8 => ?_
      rw [tup2_]
      refine arI_w (arI_w ?_)
      have le8 := fr_leW le7 f8 zO5
      have zO8 : ∀ t, O8 t → ¬ Hy.has t := fun t h => (o8 t h).elim (zO5 t) fun h hh => h (le7.has _ hh)
      have w78 := w7.fr f8 fun t h h' => apa7 t h' h
      have apa8 : ∀ t, O7 t → ¬ O8 t := fun t h h' => (o8 t h').elim (fun h' => apa7 t h' h) fun h' => h' (w7.has t h)
      refine rowK_w ((le8.get _ ha3).trans ga3) (ldG_we (ys := cmC a) (lb rfl) (lb rfl) rfl ?_)
      refine hdo H8 w' _ O8 a x3 _ w8 (by omega) fun H9 O9 f9 w9 o9 => ?_
      rw [tup2_]
      refine arI_w (arI_w ?_)
      have w79 := w78.fr f9 apa8
      rw [q1, q2, q3, q4]
      simp only [iEq_dec, decide_true]
      refine (show ifA true _ _ = true from ?_)
      rw [ifA_t]
      refine (show ifA true _ _ = true from ?_)
      rw [ifA_t]
      refine (show ifA true _ _ = true from ?_)
      rw [ifA_t]
      refine (show ifA true _ _ = true from ?_)
      rw [ifA_t]
      refine hall H9 w _ O7 _ w79 (by omega) fun H10 p10 c10 z10 h10 sl10 => ?_
      rw [asSl_]
      refine hall H10 w' _ O9 _ (w9.le h10) (by omega) fun H11 p11 c11 z11 h11 sl11 => ?_
      rw [asSl_]
      have e : viewW (wL (wL L a x3) b x4) = viewW (wL (wL L b x4) a x3) := view_eq w79.nod w9.nod q5
      refine hsame _ _ _ _ _ _ _ _ _ _ _ _ ((Sl.inTW sl10).le h11) (Sl.inTW sl11) (by rw [allT_len]; omega) fun bb hb => arB_w ?_
      rw [hb.2 e]
      rfl
    · intro J hJ'
      refine rowK_w gb3 (ldI_w (n := b.kind) rfl ?_)
      rw [iEq_dec]
      refine ifA_w (fun h => hJ' _ _ ⟨rfl, by unfold keyC; rw [if_pos (show b.kind = 1 from of_decide_eq_true h)]⟩) (fun h => hJ' _ _ ⟨rfl, by rw [show keyC b x4 = b.id by unfold keyC; rw [if_neg (show ¬ b.kind = 1 from of_decide_eq_false h)]]⟩)
  · intro J hJ'
    refine rowK_w ga3 (ldI_w (n := a.kind) rfl ?_)
    rw [iEq_dec]
    refine ifA_w (fun h => hJ' _ _ ⟨rfl, by unfold keyC; rw [if_pos (show a.kind = 1 from of_decide_eq_true h)]⟩) (fun h => hJ' _ _ ⟨rfl, by rw [show keyC a x3 = a.id by unfold keyC; rw [if_neg (show ¬ a.kind = 1 from of_decide_eq_false h)]]⟩)
end Go.Proofs
end
