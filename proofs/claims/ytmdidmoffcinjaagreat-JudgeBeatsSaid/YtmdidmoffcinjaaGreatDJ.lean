import Derived.Test.YtmdidmoffcinjaaGreatDG
import Derived.Test.YtmdidmoffcinjaaGreatDY
import Derived.Test.YtmdidmoffcinjaaGreatBR
import Derived.Test.YtmdidmoffcinjaaGreatBlaw26
section
/- Judge: who watches what, the world that accepted commands make. -/
namespace Go.Proofs
open Go Go.Vw Go.Vw.Ev
set_option linter.unusedVariables false
set_option linter.unusedSimpArgs false

def CJWat (cl : Cl) : Prop := ∀ c H K, (∀ H', Le H H' → K (.s (.bool (watB c))) H' = true) → cl i_judge_watches [.agg (cmC c)] H K = true
theorem B_judge_watches_ {lf : Nat} {cl : Cl} {c : Cm} {H : AH} {K : AV → AH → Bool} (hk : ∀ H', Le H H' → K (.s (.bool (watB c))) H' = true) : B_judge_watches lf cl (cmC c) H K = true := by
  unfold B_judge_watches
  refine new_w fun g H1 h1 hg ng gg => ?_
  refine rowK_w gg (ldI_w (n := c.kind) rfl ?_)
  have := hk H1 h1
  unfold watB at this
  simp only [fB_eq, iLe_dec, Int.ofNat_eq_natCast]
  refine ifA_w (fun hx => ?_) (fun hx => ?_)
  · refine rowK_w gg (ldI_w (n := c.kind) rfl ?_)
    rw [show decide (6 ≤ c.kind) = true from hx, Bool.true_and] at this
    exact this
  · rw [show decide (6 ≤ c.kind) = false from hx, Bool.false_and] at this
    exact this
def bkOf (l : List Wt) (q : Int) : Wt := if 0 ≤ q ∧ q < 4 then l.getD q.toNat wt0 else wt0
def CBkOf (cl : Cl) : Prop := ∀ H g l q K, BK H g l → (∀ H', Le H H' → K (.agg (wtC (bkOf l q))) H' = true) → cl i_watch_Book_Of [.s (.ptr (.at g 0)), .s (.int .i64 q)] H K = true
theorem B_watch_Book_Of_ {lf : Nat} {cl : Cl} {H : AH} {g : Pn} {l : List Wt} {q : Int} {K : AV → AH → Bool} (bk : BK H g l) (hk : ∀ H', Le H H' → K (.agg (wtC (bkOf l q))) H' = true) : B_watch_Book_Of lf cl (.at g 0) q H K = true := by
  unfold B_watch_Book_Of
  have none : ∀ {H' : AH} {g' : Pn}, Le H H' → ¬ H.has g' → H'.get g' = some (.row (wtC wt0)) → bkOf l q = wt0 → (stoN H' g' 0 7 [AS.bool false, AS.int .i64 (Int.ofNat 0), AS.int .i64 (Int.ofNat 0), AS.int .i64 (Int.ofNat 0), AS.int .i64 (Int.ofNat 0), AS.int .i64 (Int.ofNat 0), AS.int .i64 (Int.ofNat 0)] fun h5 => rowK h5 g' fun cs6 => ldG cs6 0 7 fun cs7 => K (AV.agg cs7) h5) = true := by
    intro H' g' h' ng gg e
    refine stoN_we (ds := wtC wt0) gg rfl (Nat.le_refl 7) rfl (rowK_w (get_put _ _ _) (ldG_we (ys := wtC wt0) (Nat.le_refl 7) (by decide) rfl ?_))
    have := hk (H'.put g' (.row (wtC wt0))) (h'.put ng _)
    rwa [e] at this
  refine new_w fun g1 H1 h1 hg1 ng1 gg1 => ?_
  simp only [fB_eq, iLt_dec, iLe_dec]
  refine ifA_w (fun hx => none h1 ng1 gg1 (by unfold bkOf; rw [if_neg (fun e => by have := of_decide_eq_true hx; simp only [Int.ofNat_eq_natCast] at this; omega)])) (fun hx => ?_)
  refine ifA_w (fun hy => none h1 ng1 gg1 (by unfold bkOf; rw [if_neg (fun e => by have := of_decide_eq_true hy; simp only [Int.ofNat_eq_natCast] at this; omega)])) (fun hy => ?_)
  have hx := of_decide_eq_false hx
  have hy := of_decide_eq_false hy
  simp only [Int.ofNat_eq_natCast] at hx hy
  have hq : q.toNat < l.length := by rw [bk.len]; omega
  have e : bkOf l q = l[q.toNat] := by unfold bkOf; rw [if_pos (by omega), List.getD_eq_getElem?_getD, List.getElem?_eq_getElem hq]; rfl
  have hseg := flat_at wtC_len l _ hq
  rw [← e] at hseg
  have hl := bk.len
  simp only [nilK_at, fN_eq, Nat.add_eq, Nat.mul_eq, Nat.zero_add, Nat.add_zero]
  refine idxK_w (by omega) (by omega) ?_
  refine rowK_w ((h1.get _ bk.has).trans bk.get) (ldG_we (ys := wtC (bkOf l q)) (by rw [wtsC, flat_len wtC_len]; omega) (by decide) hseg ?_)
  refine stoN_we (ds := wtC (bkOf l q)) gg1 rfl (Nat.le_refl 7) (by simp [wtC]) (rowK_w (get_put _ _ _) (ldG_we (ys := wtC (bkOf l q)) (Nat.le_refl 7) (by decide) rfl ?_))
  exact hk _ (h1.put ng1 _)
/-- A row of what was accepted, to be read. -/
def InK (H : AH) (p : AP) (n : Nat) (os : List Tkn) : Prop := os.length = n ∧ (n ≠ 0 → ∃ g, p = .at g 0 ∧ H.has g ∧ (H.get g = some (.fix (os.flatMap tkC)) ∨ H.get g = some (.row (os.flatMap tkC))))
theorem InK.fr {F : Pn → Prop} {H H' : AH} {p : AP} {n : Nat} {os : List Tkn} (h : InK H p n os) (k : Fr F H H') (hf : ∀ a, ownP p a → ¬ F a) : InK H' p n os :=
  ⟨h.1, fun hn => (h.2 hn).imp fun g ⟨e, hg, gg⟩ => ⟨e, k.has _ hg, by rw [k.get _ hg (hf g ⟨0, e⟩)]; exact gg⟩⟩
theorem InK.le {H H' : AH} {p : AP} {n : Nat} {os : List Tkn} (h : InK H p n os) (k : Le H H') : InK H' p n os := h.fr (k.fr fun _ => False) fun _ _ h => h
theorem InK.of {H : AH} {p : AP} {z : Nat} {os : List Tkn} (h : SR 25 H p os.length z (os.flatMap tkC)) : InK H p os.length os := ⟨rfl, fun hn => by
  obtain ⟨b, e, hb, gb⟩ := h.at (by omega)
  exact ⟨b, e, hb, .inr gb⟩⟩
theorem InK.read {H Hx : AH} {p : AP} {n : Nat} {os : List Tkn} (h : InK H p n os) {i : Nat} (hi : i < os.length) (hx : Le H Hx) {K : List AS → Bool} (hk : K (tkC os[i]) = true) : nilK p (fun g o => idxK (i : Int) n fun m => fN (Nat.add o (Nat.mul m 25)) fun o => rowK Hx g fun cs => ldG cs o 25 K) = true := by
  obtain ⟨g, rfl, hg, gg⟩ := (h.le hx).2 (by rw [← h.1]; omega)
  have hl : (os.flatMap tkC).length = os.length * 25 := flat_len tkC_len os
  have hn := h.1
  simp only [nilK_at, fN_eq, Nat.add_eq, Nat.mul_eq, Nat.zero_add]
  refine idxK_w (by omega) (by omega) ?_
  rw [Int.toNat_natCast]
  exact rowK_wo gg (ldG_we (ys := tkC os[i]) (by omega) (by decide) (flat_at tkC_len os i hi) hk)
/-! Who watches what. -/
noncomputable def rcStep (beat : Int) (L : List Wt) (t : Tkn) : List Wt := if t.beat < beat ∧ watB t.c = true then bkL L t.c (t.beat + 1) else L
noncomputable def rcJ (os : List Tkn) (beat : Int) : List Wt := os.foldl (rcStep beat) (List.replicate 4 wt0)
noncomputable def rectJ (os : List Tkn) (client ses beat : Int) : Rc × Bool := if (bkOf (rcJ os beat) client).on = true ∧ (bkOf (rcJ os beat) client).ses = ses then ((bkOf (rcJ os beat) client).r, true) else (⟨0, 0, 0, 0⟩, false)
theorem fold_take {α β : Type} (f : β → α → β) (b : β) {l : List α} {i : Nat} (h : i < l.length) : (l.take (i + 1)).foldl f b = f ((l.take i).foldl f b) l[i] := by
  rw [List.take_succ_eq_append_getElem h, List.foldl_append]; rfl
def CJRect (cl : Cl) : Prop := ∀ H p n c z os client ses beat K, InK H p n os → n ≤ 1000 → (∀ t ∈ os, -9223372036854775808 ≤ t.beat) → beat ≤ 9223372036854775807 → (∀ H', Le H H' → K (.tup [.agg (rcC (rectJ os client ses beat).1), .s (.bool (rectJ os client ses beat).2)]) H' = true) →
  cl i_judge_Rect [.s (.slice p n c z), .s (.int .i64 client), .s (.int .i64 ses), .s (.int .i64 beat)] H K = true
theorem B_judge_Rect_ {lf : Nat} {cl : Cl} (hlf : 100000 ≤ lf) (hnew : CBkNew cl) (hwat : CJWat cl) (hdo : CBkDo cl) (hof : CBkOf cl) {H : AH} {p : AP} {n z : Nat} {c : ACap} {os : List Tkn} {client ses beat : Int} {K : AV → AH → Bool}
    (ik : InK H p n os) (hn : n ≤ 1000) (hb : ∀ t ∈ os, -9223372036854775808 ≤ t.beat) (hbt : beat ≤ 9223372036854775807) (hk : ∀ H', Le H H' → K (.tup [.agg (rcC (rectJ os client ses beat).1), .s (.bool (rectJ os client ses beat).2)]) H' = true) : B_judge_Rect lf cl p n c z client ses beat H K = true := by
  unfold B_judge_Rect
  have hon := ik.1
  refine new_w fun g1 H1 h1 hg1 ng1 gg1 => ?_
  refine hnew _ _ fun H2 gb h2 bk ngb => ?_
  rw [asP_]
  have h12 := h1.trans h2
  have ngbH : ¬ H.has gb := fun h => ngb (h1.has _ h)
  have g12 := (h2.get _ hg1).trans gg1
  have hg12 := h2.has _ hg1
  have d1 : g1 ≠ gb := fun e => ngb (e ▸ hg1)
  refine loopX_w (fun x Hx => ∃ i : Nat, x = (client, ses, beat, .at g1 0, .at gb 0, (p, n, c, z), (n : Int), (i : Int)) ∧ i ≤ n ∧ Fr (fun a => a = gb) H2 Hx ∧ BK Hx gb ((os.take i).foldl (rcStep beat) (List.replicate 4 wt0))) (fun x => n - x.2.2.2.2.2.2.2.toNat)
    ⟨0, rfl, by omega, Fr.refl _ _, bk⟩ (by simp; omega) ?_
  rintro self x Hx ⟨i, rfl, hi, fx, bkx⟩ ih
  simp only [pR_, fB_eq, iLt_dec]
  have hL : Le H Hx := ⟨fun a h => fx.has a (h12.has a h), fun a h => (fx.get a (h12.has a h) fun e => ngbH (e ▸ h)).trans (h12.get a h)⟩
  have g1x := (fx.get _ hg12 d1).trans g12
  have hg1x := fx.has _ hg12
  refine ifA_w (fun hx => ?_) (fun hx => ?_)
  · have hx : i < os.length := by have := of_decide_eq_true hx; omega
    have hst := fold_take (rcStep beat) (List.replicate 4 wt0) hx
    have htb := hb _ (List.getElem_mem hx)
    refine ik.read hx hL ?_
    generalize os[i] = t at *
    refine tmp_w rfl rfl fun gt H3 h3 hgt ngt ggt => ?_
    refine joinX_w (fun y Hy => Le H3 Hy ∧ y = (client, ses, beat, .at g1 0, .at gb 0, .at gt 0, (p, n, c, z), (n : Int), (i : Int), decide (t.beat < beat) && watB t.c)) ?_ ?_
    · rintro y Hy ⟨hy, rfl⟩
      simp only [pR_]
      have ggy := (hy.get _ hgt).trans ggt
      have fy := fx.trans ((h3.trans hy).fr fun a => a = gb) fun _ h => .inl h
      have bky := bkx.le (h3.trans hy)
      refine ifA_w (fun hw => ?_) (fun hw => ?_)
      · rw [Bool.and_eq_true, decide_eq_true_eq] at hw
        simp only [nilK_at, fN_eq, Nat.add_eq, Nat.zero_add, Nat.add_zero]
        refine rowK_w ggy (ldG_we (ys := cmC t.c) (lb rfl) (by decide) rfl ?_)
        refine rowK_w ggy (ldI_w (n := t.beat) rfl ?_)
        rw [iAdd_]
        refine w64_w (by simp only [Int.ofNat_eq_natCast]; omega) (by simp only [Int.ofNat_eq_natCast]; omega) ?_
        refine hdo _ _ _ _ _ _ bky fun H4 f4 bk4 => arI_w ?_
        rw [iAdd_]
        refine w64_w (by simp only [Int.ofNat_eq_natCast]; omega) (by simp only [Int.ofNat_eq_natCast]; omega) (ih _ _ ⟨i + 1, by simp, by omega, fy.trans f4 fun _ h => .inl h, ?_⟩ (by simp; omega))
        rw [hst]; unfold rcStep; rw [if_pos hw]; exact bk4
      · rw [iAdd_]
        refine w64_w (by simp only [Int.ofNat_eq_natCast]; omega) (by simp only [Int.ofNat_eq_natCast]; omega) (ih _ _ ⟨i + 1, by simp, by omega, fy, ?_⟩ (by simp; omega))
        rw [hst]; unfold rcStep
        rw [if_neg (fun e => by rw [decide_eq_true e.1, e.2] at hw; cases hw)]
        exact bky
    · intro J hJ
      refine rowK_w ggt (ldI_w (n := t.beat) rfl ?_)
      refine ifA_w (fun hx => ?_) (fun hx => ?_)
      · refine rowK_w ggt (ldG_we (ys := cmC t.c) (lb rfl) (by decide) rfl ?_)
        refine hwat _ _ _ fun H4 h4 => arB_w (hJ _ _ ⟨h4, ?_⟩)
        rw [hx, Bool.true_and]
      · exact hJ _ _ ⟨Le.refl _, by rw [hx, Bool.false_and]⟩
  · have hx : i = os.length := by have := of_decide_eq_false hx; omega
    rw [hx, List.take_length] at bkx
    change BK Hx gb (rcJ os beat) at bkx
    refine hof _ _ _ _ _ bkx fun H3 h3 => ?_
    rw [asG_]
    generalize hw' : bkOf (rcJ os beat) client = w
    refine tmp_w rfl rfl fun gw H4 h4 hgw ngw ggw => ?_
    have g14 := (h4.get _ (h3.has _ hg1x)).trans ((h3.get _ hg1x).trans g1x)
    have fin : ∀ (us : List AS) (K' : List AS → AH → Bool), us.length = 4 → (∀ H', (∀ a, H.has a → H'.has a) → Le H H' → K' us H' = true) → (nilK (.at g1 0) fun g o => stoN H4 g o 4 us fun h => nilK (.at g1 0) fun g2 o2 => rowK h g2 fun cs => ldG cs o2 4 fun cs => K' cs h) = true := by
      intro us K' hus hK
      simp only [nilK_at]
      refine stoN_we (ds := us) g14 hus (Nat.le_refl 4) (by rw [List.take_zero, List.nil_append]; show us ++ [] = us; rw [List.append_nil]) (rowK_w (get_put _ _ _) (ldG_we (ys := us) (by rw [hus]; decide) (by decide) (by rw [List.drop_zero, ← hus, List.take_length]) ?_))
      have hL4 := hL.trans (h3.trans h4)
      exact hK _ (fun a h => hL4.has a h) (hL4.put ng1 _)
    simp only [iEq_dec]
    refine rowK_w ggw (ldB_w (b := w.on) rfl ?_)
    refine ifA_w (fun hx => ?_) (fun hx => ?_)
    · refine fin (rcC ⟨0, 0, 0, 0⟩) _ rfl fun H' _ hH => ?_
      have : w.on = false := by simpa using hx
      have hk' := hk H' hH
      unfold rectJ at hk'
      rw [hw', if_neg (fun e => by rw [this] at e; cases e.1)] at hk'
      exact hk'
    · have hon' : w.on = true := by simpa using hx
      refine rowK_w ggw (ldI_w (n := w.ses) rfl ?_)
      refine ifA_w (fun hy => ?_) (fun hy => ?_)
      · refine fin (rcC ⟨0, 0, 0, 0⟩) _ rfl fun H' _ hH => ?_
        have : ¬ w.ses = ses := by simpa using hy
        have hk' := hk H' hH
        unfold rectJ at hk'
        rw [hw', if_neg (fun e => this e.2)] at hk'
        exact hk'
      · have : w.ses = ses := by simpa using hy
        refine rowK_w ggw (ldG_we (ys := rcC w.r) (lb rfl) (by decide) rfl ?_)
        refine fin (rcC w.r) _ rfl fun H' _ hH => ?_
        have hk' := hk H' hH
        unfold rectJ at hk'
        rw [hw', if_pos ⟨hon', this⟩] at hk'
        exact hk'
/-! The world. -/
def keepJ (beat : Int) (t : Tkn) : Bool := !decide (beat < t.beat) && (!watB t.c && !decide (t.c.kind = 5))
noncomputable def wT (l : List Tkn) : List (Int × Th) := l.foldl (fun L t => wL L t.c t.id) []
theorem aSet_leJ {β : Type} : ∀ (L : List (Int × β)) (k : Int) (v : β), (aSet L k v).length ≤ L.length + 1
  | [], _, _ => by simp [aSet]
  | x :: r, k, v => by
    have := aSet_leJ r k v
    unfold aSet
    split
    · simp
    · simp only [List.length_cons]; omega
theorem aDel_leJ {β : Type} : ∀ (L : List (Int × β)) (k : Int), (aDel L k).length ≤ L.length
  | [], _ => Nat.le_refl _
  | x :: r, k => by
    have := aDel_leJ r k
    unfold aDel
    split
    · simp only [List.length_cons]; omega
    · simp only [List.length_cons]; omega
theorem wL_leJ (L : List (Int × Th)) (c : Cm) (x : Int) : (wL L c x).length ≤ L.length + 1 := by
  unfold wL doneL
  split
  · split
    · split
      · exact aSet_leJ _ _ _
      · omega
    split
    · exact aSet_leJ _ _ _
    split
    · exact aSet_leJ _ _ _
    · exact Nat.le_trans (aDel_leJ _ _) (by omega)
  · omega
theorem wT_le (l : List Tkn) {i : Nat} (h : i < l.length) : wT (l.take (i + 1)) = wL (wT (l.take i)) l[i].c l[i].id := by
  unfold wT
  exact fold_take (fun (L : List (Int × Th)) (t : Tkn) => wL L t.c t.id) ([] : List (Int × Th)) h
theorem wT_len (l : List Tkn) : ∀ i, i ≤ l.length → (wT (l.take i)).length ≤ i
  | 0, _ => Nat.le_refl 0
  | i + 1, h => by
    rw [wT_le l (by omega)]
    have := wT_len l i (by omega)
    have := wL_leJ (wT (l.take i)) (l[i]'(by omega)).c (l[i]'(by omega)).id
    omega
def idsC (l : List Tkn) : List AS := l.flatMap fun t => [AS.int .i64 t.id]
theorem idsC_len (t : Tkn) : [AS.int .i64 t.id].length = 1 := rfl
def cmsK (l : List Tkn) : List AS := l.flatMap fun t => cmC t.c
theorem cmsK_len (t : Tkn) : (cmC t.c).length = 22 := rfl
def CWOfT (cl : Cl) : Prop := ∀ H p n c z1 q m d z2 (l : List Tkn) K, SR 22 H p n z1 (cmsK l) → SR 1 H q m z2 (idsC l) → n ≤ 1000 → (∀ H' w O, Le H H' → WW H' w (wT l) O → (∀ a, O a → ¬ H.has a) → K (.s (.ptr (.at w 0))) H' = true) → cl i_world_Of [.s (.slice p n c z1), .s (.slice q m d z2)] H K = true
theorem W_world_OfT_ {lf : Nat} {cl : Cl} (hlf : 100000 ≤ lf) (hnew : CWNew cl) (hdo : CWDo cl) {H : AH} {p q : AP} {n m z1 z2 : Nat} {c d : ACap} {l : List Tkn} {K : AV → AH → Bool} (sp : SR 22 H p n z1 (cmsK l)) (sq : SR 1 H q m z2 (idsC l)) (hn : n ≤ 1000)
    (hk : ∀ H' w O, Le H H' → WW H' w (wT l) O → (∀ a, O a → ¬ H.has a) → K (.s (.ptr (.at w 0))) H' = true) : B_world_Of lf cl p n c z1 q m d z2 H K = true := by
  have hln : l.length = n := hds_n cmsK_len (by decide) sp
  have hlm : l.length = m := hds_n idsC_len (by decide) sq
  unfold B_world_Of
  refine hnew _ _ fun H1 w O h1 w1 zz1 => ?_
  rw [asP_]
  refine loopX_w (fun x Hx => ∃ (i : Nat) (O : Pn → Prop), x = ((q, m, d, z2), .at w 0, (p, n, c, z1), (n : Int), (i : Int)) ∧ i ≤ n ∧ Le H Hx ∧ WW Hx w (wT (l.take i)) O ∧ (∀ a, O a → ¬ H.has a)) (fun x => n - x.2.2.2.2.toNat)
    ⟨0, O, rfl, by omega, h1, w1, zz1⟩ (by simp; omega) ?_
  clear w1 zz1 h1 O H1
  rintro self x H1 ⟨i, O, rfl, hi, hL1, ww, hz⟩ ih
  simp only [pR_, fB_eq, iLt_dec]
  refine ifA_w (fun hx => ?_) (fun hx => ?_)
  case refine_2 =>
    have hx : i = l.length := by have := of_decide_eq_false hx; omega
    rw [hx, List.take_length] at ww
    exact hk _ _ _ hL1 ww hz
  have hx : i < l.length := by have := of_decide_eq_true hx; omega
  have hst := wT_le l hx
  have hlen := wT_len l i (by omega)
  have hseg := flat_at (f := fun t : Tkn => cmC t.c) cmsK_len l i hx
  have hsegi := flat_cell (f := fun t : Tkn => [AS.int .i64 t.id]) (k := 0) idsC_len hx (by decide)
  change ((cmsK l).drop (i * 22)).take 22 = _ at hseg
  change (idsC l)[i * 1 + 0]? = _ at hsegi
  obtain ⟨bp, rfl, hbp, gbp⟩ := (sp.le hL1).at (by omega)
  have hfl := sp.1
  generalize l[i] = t at *
  simp only [nilK_at, fN_eq, Nat.add_eq, Nat.mul_eq, Nat.zero_add]
  refine idxK_w (by omega) (by omega) ?_
  rw [Int.toNat_natCast]
  refine rowK_w gbp (ldG_we (ys := cmC t.c) (by omega) (by decide) hseg ?_)
  refine tmp_w rfl rfl fun gc H2 h2 hc nc gc2 => ?_
  have hL2 := hL1.trans h2
  refine joinX_w (fun x Hx => Hx = H2 ∧ x = ((q, m, d, z2), .at w 0, .at gc 0, t.id, (.at bp 0, n, c, z1), (n : Int), (i : Int))) ?_ ?_
  · rintro x Hx ⟨rfl, rfl⟩
    simp only [pR_, nilK_at]
    refine rowK_w gc2 (ldG_we (ys := cmC t.c) (lb rfl) (lb rfl) rfl ?_)
    refine hdo Hx w _ O t.c t.id _ (ww.le h2) (by omega) fun H3 O3 f3 w3 o3 => ?_
    rw [tup2_]
    refine arI_w (arI_w ?_)
    rw [iAdd_]
    refine w64_w (by simp only [Int.ofNat_eq_natCast]; omega) (by simp only [Int.ofNat_eq_natCast]; omega) (ih _ _ ⟨i + 1, O3, by simp, by omega, ⟨fun a h => f3.has _ (hL2.has _ h), fun a h => (f3.get a (hL2.has _ h) fun h' => hz a h' h).trans (hL2.get a h)⟩, by rw [hst]; exact w3, fun a h h' => (o3 a h).elim (fun e => hz a e h') fun e => e (hL2.has _ h')⟩ (by simp; omega))
  · intro J hJ'
    refine ifA_w (fun hy => ?_) (fun hy => ?_)
    · obtain ⟨bq, rfl, hbq, gbq⟩ := (sq.le hL2).at (by omega)
      simp only [nilK_at, fN_eq, Nat.add_eq, Nat.mul_eq, Nat.zero_add]
      refine idxK_w (by omega) (by omega) ?_
      rw [Int.toNat_natCast]
      refine rowK_w gbq (ldI_w (n := t.id) (by rw [show i * 1 = i * 1 + 0 from rfl, hsegi]; rfl) (hJ' _ _ ⟨rfl, rfl⟩))
    · have := of_decide_eq_false hy
      simp only [Int.ofNat_eq_natCast] at this
      omega
noncomputable def worldJ (os : List Tkn) (beat : Int) : List (Int × Th) := wT (os.filter (keepJ beat))
def CJWorld (cl : Cl) : Prop := ∀ H p n c z os beat K, InK H p n os → n ≤ 1000 → (∀ H' p' c' z', Le H H' → SR 11 H' p' (allT (worldJ os beat)).length z' (thsC ((allT (worldJ os beat)).map (thOf (worldJ os beat)))) → K (.s (.slice p' (allT (worldJ os beat)).length c' z')) H' = true) →
  cl i_judge_World [.s (.slice p n c z), .s (.int .i64 beat)] H K = true
theorem B_judge_World_ {lf : Nat} {cl : Cl} (hlf : 100000 ≤ lf) (hwat : CJWat cl) (hof : CWOfT cl) (hall : CWAll cl) {H : AH} {p : AP} {n z : Nat} {c : ACap} {os : List Tkn} {beat : Int} {K : AV → AH → Bool}
    (ik : InK H p n os) (hn : n ≤ 1000) (hk : ∀ H' p' c' z', Le H H' → SR 11 H' p' (allT (worldJ os beat)).length z' (thsC ((allT (worldJ os beat)).map (thOf (worldJ os beat)))) → K (.s (.slice p' (allT (worldJ os beat)).length c' z')) H' = true) : B_judge_World lf cl p n c z beat H K = true := by
  unfold B_judge_World
  have hon := ik.1
  refine loopX_w (fun x Hx => ∃ (i : Nat) (p1 p2 : AP) (c1 c2 : ACap) (z1 z2 : Nat), x = (beat, (p1, ((os.take i).filter (keepJ beat)).length, c1, z1), (p2, ((os.take i).filter (keepJ beat)).length, c2, z2), (p, n, c, z), (n : Int), (i : Int)) ∧ i ≤ n ∧ Le H Hx ∧ SR 22 Hx p1 ((os.take i).filter (keepJ beat)).length z1 (cmsK ((os.take i).filter (keepJ beat))) ∧ CapOk c1 ((os.take i).filter (keepJ beat)).length ∧
      SR 1 Hx p2 ((os.take i).filter (keepJ beat)).length z2 (idsC ((os.take i).filter (keepJ beat))) ∧ CapOk c2 ((os.take i).filter (keepJ beat)).length ∧ (∀ a, ownP p1 a → ¬ H.has a ∧ ¬ ownP p2 a) ∧ (∀ a, ownP p2 a → ¬ H.has a)) (fun x => n - x.2.2.2.2.2.toNat)
    ⟨0, .nil, .nil, .lit 0, .lit 0, 1, 1, rfl, by omega, Le.refl _, SR.nil, Nat.le_refl 0, SR.nil, Nat.le_refl 0, fun a ⟨o, e⟩ => (by cases e), fun a ⟨o, e⟩ => (by cases e)⟩ (by simp; omega) ?_
  rintro self x Hx ⟨i, p1, p2, c1, c2, z1, z2, rfl, hi, hL, s1, k1, s2, k2, o1, o2⟩ ih
  simp only [pR_, fB_eq, iLt_dec, iEq_dec]
  refine ifA_w (fun hx => ?_) (fun hx => ?_)
  · have hx : i < os.length := by have := of_decide_eq_true hx; omega
    have hst : (os.take (i + 1)).filter (keepJ beat) = (os.take i).filter (keepJ beat) ++ (if keepJ beat os[i] = true then [os[i]] else []) := by
      rw [List.take_succ_eq_append_getElem hx, List.filter_append]
      congr 1
      by_cases h : keepJ beat os[i] = true
      · rw [if_pos h]; simp [h]
      · rw [if_neg h]; simp [h]
    have hfl : ((os.take i).filter (keepJ beat)).length ≤ i := by
      have := List.length_filter_le (keepJ beat) (os.take i)
      rw [List.length_take] at this
      omega
    refine ik.read hx hL ?_
    generalize os[i] = t at *
    refine tmp_w rfl rfl fun gt H3 h3 hgt ngt ggt => ?_
    have skip : ∀ Hy, Le H3 Hy → keepJ beat t = false → (w64 (iAdd (i : Int) (Int.ofNat 1)) fun n48 => self (beat, (p1, ((os.take i).filter (keepJ beat)).length, c1, z1), (p2, ((os.take i).filter (keepJ beat)).length, c2, z2), (p, n, c, z), (n : Int), n48) Hy) = true := by
      intro Hy hy e
      rw [iAdd_]
      have hL3 := h3.trans hy
      have e2 : (os.take (i + 1)).filter (keepJ beat) = (os.take i).filter (keepJ beat) := by rw [hst, e, if_neg (by decide), List.append_nil]
      exact w64_w (by simp only [Int.ofNat_eq_natCast]; omega) (by simp only [Int.ofNat_eq_natCast]; omega) (ih _ _ ⟨i + 1, p1, p2, c1, c2, z1, z2, by rw [e2]; simp, by omega, hL.trans hL3, by rw [e2]; exact s1.le hL3, by rw [e2]; exact k1, by rw [e2]; exact s2.le hL3, by rw [e2]; exact k2, o1, o2⟩ (by simp; omega))
    refine rowK_w ggt (ldI_w (n := t.beat) rfl ?_)
    refine ifA_w (fun h1 => skip _ (Le.refl _) (by unfold keepJ; rw [h1]; rfl)) (fun h1 => ?_)
    refine rowK_w ggt (ldG_we (ys := cmC t.c) (lb rfl) (by decide) rfl ?_)
    refine hwat _ _ _ fun H4 h4 => arB_w ?_
    refine ifA_w (fun h2 => skip _ h4 (by unfold keepJ; rw [h2, Bool.not_true, Bool.false_and, Bool.and_false])) (fun h2 => ?_)
    have gg4 := (h4.get _ hgt).trans ggt
    have hg4 := h4.has _ hgt
    refine rowK_w gg4 (ldI_w (n := t.c.kind) rfl ?_)
    refine ifA_w (fun h5 => skip _ h4 (by unfold keepJ; rw [show decide (t.c.kind = 5) = true from h5, Bool.not_true, Bool.and_false, Bool.and_false])) (fun h5 => ?_)
    have hkeep : keepJ beat t = true := by unfold keepJ; rw [h1, h2, show decide (t.c.kind = 5) = false from h5]; rfl
    rw [hkeep, if_pos rfl] at hst
    refine rowK_w gg4 (ldG_we (ys := cmC t.c) (lb rfl) (by decide) rfl (okK_w rfl (fL_w ?_)))
    rw [ap_eq, List.append_nil]
    refine okK_w rfl (newK_w (elK_w (ys := cmC t.c) (get_new _ _) (lb rfl) rfl ?_))
    have h45 := Le.new H4 (.row (cmC t.c))
    change appA (H4.new (.row (cmC t.c))) _ _ _ _ _ _ _ _ _ = true
    generalize H4.new (.row (cmC t.c)) = H5 at *
    have hX5 := h3.trans (h4.trans h45)
    have n1t : ¬ ownP p1 gt := fun h => ngt (s1.has _ h)
    have n2t : ¬ ownP p2 gt := fun h => ngt (s2.has _ h)
    refine appT_w (s1.le hX5) k1 (m := 1) rfl (by omega) (by omega) fun p6 c6 z6 H6 f6 s6 k6 o6 => ?_
    have gg6 := (f6.get _ (h45.has _ hg4) n1t).trans ((h45.get _ hg4).trans gg4)
    refine rowK_w gg6 (ldI_w (n := t.id) rfl ?_)
    refine newK_w (elK_w (ys := [AS.int .i64 t.id]) (get_new _ _) (lb rfl) rfl ?_)
    have h67 := Le.new H6 (.row [AS.int .i64 t.id])
    change appA (H6.new (.row [AS.int .i64 t.id])) _ _ _ _ _ _ _ _ _ = true
    generalize H6.new (.row [AS.int .i64 t.id]) = H7 at *
    have n21 : ∀ a, ownP p2 a → ¬ ownP p1 a := fun a h h' => (o1 a h').2 h
    refine appT_w (((s2.le hX5).fr f6 n21).le h67) k2 (m := 1) rfl (by omega) (by omega) fun p8 c8 z8 H8 f8 s8 k8 o8 => ?_
    have n62 : ∀ a, ownP p6 a → ¬ ownP p2 a := fun a h h' => (o6 a h).elim (fun e => (o1 a e).2 h') fun e => e (hX5.has _ (s2.has a h'))
    have hL8 : Le H H8 := ⟨fun a h => f8.has _ (h67.has _ (f6.has _ (hX5.has _ (hL.has _ h)))), fun a h => (f8.get a (h67.has _ (f6.has _ (hX5.has _ (hL.has _ h)))) fun h' => o2 a h' h).trans ((h67.get a (f6.has _ (hX5.has _ (hL.has _ h)))).trans ((f6.get a (hX5.has _ (hL.has _ h)) fun h' => (o1 a h').1 h).trans ((hX5.get a (hL.has _ h)).trans (hL.get a h))))⟩
    have hlen : ((os.take (i + 1)).filter (keepJ beat)).length = ((os.take i).filter (keepJ beat)).length + 1 := by rw [hst, List.length_append]; rfl
    rw [iAdd_]
    refine w64_w (by simp only [Int.ofNat_eq_natCast]; omega) (by simp only [Int.ofNat_eq_natCast]; omega) (ih _ _ ⟨i + 1, p6, p8, c6, c8, z6, z8, by rw [hlen]; simp, by omega, hL8, ?_, by rw [hlen]; exact k6, ?_, by rw [hlen]; exact k8, fun a h => ⟨fun h' => ?_, fun h' => ?_⟩, fun a h h' => ?_⟩ (by simp; omega))
    · rw [hlen, hst, cmsK, List.flatMap_append]
      exact (s6.le h67).fr f8 n62
    · rw [hlen, hst, idsC, List.flatMap_append]
      exact s8
    · exact (o6 a h).elim (fun e => (o1 a e).1 h') fun e => e (hX5.has _ (hL.has _ h'))
    · exact (o8 a h').elim (n62 a h) fun e => e (h67.has _ (s6.has a h))
    · exact (o8 a h).elim (fun e => o2 a e h') fun e => e (h67.has _ (f6.has _ (hX5.has _ (hL.has _ h'))))
  · have hx : i = os.length := by have := of_decide_eq_false hx; omega
    rw [hx, List.take_length] at s1 s2 ⊢
    have hfl := List.length_filter_le (keepJ beat) os
    refine hof _ _ _ _ _ _ _ _ _ (os.filter (keepJ beat)) _ s1 s2 (by omega) fun H3 w O h3 ww _ => ?_
    rw [asP_]
    change WW H3 w (worldJ os beat) O at ww
    have hwl : (worldJ os beat).length ≤ (os.filter (keepJ beat)).length := by
      have := wT_len (os.filter (keepJ beat)) _ (Nat.le_refl _)
      rwa [List.take_length] at this
    refine hall _ _ _ _ _ ww (by omega) fun H4 p4 c4 z4 h4 sl4 => ?_
    rw [asSl_]
    exact hk _ _ _ _ (hL.trans (h3.trans h4)) (Sl.sr sl4)
end Go.Proofs
end
section
/- JudgeBeats: the world grows beat by beat; what joins is seen from the beat behind. -/
namespace Go.Proofs
open Go Go.Vw Go.Vw.Ev
set_option linter.unusedVariables false
set_option linter.unusedSimpArgs false
set_option maxRecDepth 100000

def pk (j : Nat) : Tkn := ⟨j, 0, 4 * (j : Int), putC ⟨j, 0⟩⟩
def pks (k : Nat) : List Tkn := (List.range k).map pk
def jcm : Cm := ⟨6, 0, 0, 0, ⟨0, 0⟩, fdZ, fdZ, fdZ, fdZ, fdZ, 1, 2, ⟨0, 0, 64, 64⟩⟩
def jn (s : Int) : Tkn := ⟨s, 0, 0, jcm⟩
theorem pks_succ (k : Nat) : pks (k + 1) = pks k ++ [pk k] := by simp [pks, List.range_succ]
theorem pks_len (k : Nat) : (pks k).length = k := by simp [pks]
/-! Who watches. -/
theorem isCm_jcm : IsCm jcm = true := by
  have e : coreC jcm = jcm := rfl
  unfold IsCm fldB kindB whoB whatB placeB
  rw [e, same_cm]
  simp [jcm, isF_Z, nearB]
theorem rc_puts (beat : Int) (L : List Wt) : ∀ k : Nat, (pks k).foldl (rcStep beat) L = L
  | 0 => rfl
  | k + 1 => by
    rw [pks_succ, List.foldl_append, rc_puts beat L k]
    show rcStep beat L (pk k) = L
    unfold rcStep
    rw [if_neg (fun e => by cases (show watB (pk k).c = false from rfl).symm.trans e.2)]
theorem rc_all (k : Nat) (s beat : Int) : bkOf (rcJ (pks k ++ [jn s]) beat) 1 = if s < beat then ⟨true, 2, s + 1, clipR ⟨0, 0, 64, 64⟩⟩ else wt0 := by
  unfold rcJ
  rw [List.foldl_append, rc_puts]
  show bkOf (rcStep beat (List.replicate 4 wt0) (jn s)) 1 = _
  unfold rcStep
  by_cases h : s < beat
  · rw [if_pos (show (jn s).beat < beat ∧ watB (jn s).c = true from ⟨h, rfl⟩), if_pos h]
    show bkOf (bkL (List.replicate 4 wt0) jcm (s + 1)) 1 = _
    have e : bkE (List.replicate 4 wt0) jcm = 0 := by
      unfold bkE
      rw [if_neg (fun e => by rw [isCm_jcm] at e; rcases e with e | e <;> cases e), if_pos (show jcm.kind = 6 from rfl)]
      rfl
    unfold bkL
    rw [if_neg (fun e' => e' e)]
    rfl
  · rw [if_neg (fun e => h e.1), if_neg h]
    rfl
theorem rect_2 (k : Nat) (s beat : Int) : (rectJ (pks k ++ [jn s]) 1 2 beat).2 = decide (s < beat) := by
  unfold rectJ
  rw [rc_all]
  by_cases h : s < beat
  · rw [if_pos h, if_pos ⟨rfl, rfl⟩, decide_eq_true h]
  · rw [if_neg h, if_neg (fun e => by cases e.1), decide_eq_false h]
theorem rect_1 (k : Nat) (s beat : Int) : (rectJ (pks k ++ [jn s]) 1 1 beat).2 = false := by
  unfold rectJ
  rw [rc_all]
  by_cases h : s < beat
  · rw [if_pos h, if_neg (fun e => absurd (show (2 : Int) = 1 from e.2) (by decide))]
  · rw [if_neg h, if_neg (fun e => by cases e.1)]
/-! The world. -/
theorem range_lt (m : Nat) : ∀ k : Nat, (List.range k).filter (fun j => decide (j < m)) = List.range (min k m)
  | 0 => by simp
  | k + 1 => by
    rw [List.range_succ, List.filter_append, range_lt m k]
    by_cases h : k < m
    · have e : min (k + 1) m = min k m + 1 := by omega
      have e2 : min k m = k := by omega
      rw [e, List.range_succ, e2]
      simp [h]
    · have e : min (k + 1) m = min k m := by omega
      rw [e]
      simp [h]
theorem keep_puts (k : Nat) (beat : Int) (s : Int) : (pks k ++ [jn s]).filter (keepJ beat) = pks (min k (beat + 1).toNat) := by
  have e1 : keepJ beat (jn s) = false := by
    unfold keepJ
    rw [show watB (jn s).c = true from rfl]
    simp
  have e2 : ∀ j : Nat, keepJ beat (pk j) = decide (j < (beat + 1).toNat) := fun j => by
    unfold keepJ
    rw [show watB (pk j).c = false from rfl, show decide ((pk j).c.kind = 5) = false from rfl]
    show (!decide (beat < (j : Int)) && true) = _
    rw [Bool.and_true, ← decide_not]
    exact decide_eq_decide.2 (by omega)
  rw [List.filter_append, List.filter_cons, e1, if_neg (by decide), List.filter_nil, List.append_nil]
  unfold pks
  rw [List.filter_map, ← range_lt]
  congr 1
  exact List.filter_congr fun j _ => e2 j
def LP (i : Nat) : List (Int × Th) := (List.range i).map fun j : Nat => (4 * (j : Int), putT (putC ⟨j, 0⟩) (4 * (j : Int)))
theorem LP_len (i : Nat) : (LP i).length = i := by simp [LP]
theorem LP_no (i : Nat) : 4 * (i : Int) ∉ aKeys (LP i) := by
  intro h
  unfold aKeys LP at h
  rw [List.map_map] at h
  obtain ⟨j, hj, e⟩ := List.mem_map.1 h
  have := List.mem_range.1 hj
  have e : 4 * (j : Int) = 4 * (i : Int) := e
  omega
theorem aSet_newJ {β : Type} : ∀ {l : List (Int × β)} {k : Int} {v : β}, k ∉ aKeys l → aSet l k v = l ++ [(k, v)]
  | [], _, _, _ => rfl
  | (j, w) :: r, k, v, h => by
    have h1 : j ≠ k := fun e => h (by simp [aKeys, e])
    have h2 : k ∉ aKeys r := fun e => h (by simp only [aKeys, List.map_cons, List.mem_cons] at e ⊢; exact .inr e)
    have := aSet_newJ (v := v) h2
    simp [aSet, h1, this]
theorem wT_puts : ∀ i : Nat, i ≤ 12 → wT (pks i) = LP i
  | 0, _ => rfl
  | i + 1, h => by
    have ih := wT_puts i (by omega)
    have e : wT (pks (i + 1)) = wL (wT (pks i)) (putC ⟨i, 0⟩) (4 * (i : Int)) := by
      unfold wT
      rw [pks_succ, List.foldl_append]; rfl
    rw [e, ih, (wdo_put (on_of (show (0 : Int) ≤ (i : Int) by omega) (show (i : Int) < 64 by omega) (show (0 : Int) ≤ 0 by decide) (show (0 : Int) < 64 by decide)) (by rw [LP_len]; omega) (by omega) (by omega) (by
      rw [aGet_none.2 (LP_no i)]; rfl)).2, aSet_newJ (LP_no i)]
    simp [LP, List.range_succ]
theorem world_len {k : Nat} (hk : k ≤ 12) (s beat : Int) : ((allT (worldJ (pks k ++ [jn s]) beat)).length : Int) = max 0 (min (beat + 1) k) := by
  unfold worldJ
  rw [keep_puts, wT_puts _ (by omega), allT_len, LP_len]
  omega
/-! The walk. -/
theorem B_law26_JudgeBeats_ {lf : Nat} {cl : Cl} (hlf : 1000 ≤ lf) (hkn : ∀ H K, cl i_law26_known [] H K = K (.s (.bool true)) H) (hrect : CJRect cl) (hworld : CJWorld cl) {H : AH} {a b : Int} (ha : 0 ≤ a ∧ a ≤ 255) (hb : 0 ≤ b ∧ b ≤ 255) : B_law26_JudgeBeats lf cl a b H isT = true := by
  unfold B_law26_JudgeBeats
  rw [hkn]
  refine arB_w ?_
  simp only [fB_eq, iLt_dec, iEq_dec, iLe_dec]
  refine ifA_w (fun h => by cases h) (fun _ => ?_)
  have eK : Int.tmod a (Int.ofNat 12) = a % 12 := Int.tmod_eq_emod_of_nonneg ha.1
  have eS : Int.tmod b (Int.ofNat 12) = b % 12 := Int.tmod_eq_emod_of_nonneg hb.1
  rw [eK, eS]
  obtain ⟨k, hk⟩ : ∃ k : Nat, a % 12 = (k : Int) := ⟨(a % 12).toNat, by omega⟩
  have hk12 : k < 12 := by omega
  have hs : 0 ≤ b % 12 ∧ b % 12 < 12 := by omega
  rw [hk]
  generalize b % 12 = s at *
  clear hk eK eS ha hb
  refine fI_w (w64_w (by omega) (by omega) (fI_w (w64_w (by omega) (by omega) ?_)))
  refine loopX_w (fun x Hx => ∃ (i : Nat) (p : AP) (c : ACap) (z : Nat), x = ((k : Int), s, (p, i, c, z), (i : Int)) ∧ i ≤ k ∧ SR 25 Hx p i z ((pks i).flatMap tkC) ∧ CapOk c i) (fun x => k - x.2.2.2.toNat)
    ⟨0, .nil, .lit 0, 1, rfl, by omega, SR.nil, Nat.le_refl 0⟩ (by simp; omega) ?_
  rintro self x Hx ⟨i, p, c, z, rfl, hi, sr, hc⟩ ih
  simp only [pR_]
  refine ifA_w (fun hx => ?_) (fun hx => ?_)
  · have hx : i < k := by have := of_decide_eq_true hx; omega
    rw [iMul_]
    refine w64_w (by simp only [Int.ofNat_eq_natCast]; omega) (by simp only [Int.ofNat_eq_natCast]; omega) ?_
    refine fL_w (okK_w rfl (fL_w (okK_w rfl (fL_w (okK_w rfl ?_)))))
    refine newK_w (elK_w (ys := tkC (pk i)) (get_new _ _) (lb rfl) rfl ?_)
    have h1 := Le.new Hx (.row (tkC (pk i)))
    change appA (Hx.new (.row (tkC (pk i)))) _ _ _ _ _ _ _ _ _ = true
    generalize Hx.new (.row (tkC (pk i))) = H1 at *
    refine appT_w (sr.le h1) hc (m := 1) rfl (by omega) (by omega) fun p2 c2 z2 H2 f2 s2 k2 o2 => ?_
    rw [iAdd_]
    refine w64_w (by simp only [Int.ofNat_eq_natCast]; omega) (by simp only [Int.ofNat_eq_natCast]; omega) (ih _ _ ⟨i + 1, p2, c2, z2, by simp, by omega, ?_, k2⟩ (by simp; omega))
    rw [pks_succ, List.flatMap_append]
    exact s2
  have hx : i = k := by have := of_decide_eq_false hx; omega
  subst hx
  clear ih self hi
  refine fL_w (okK_w rfl (fL_w (okK_w rfl (fL_w (okK_w rfl ?_)))))
  refine newK_w (elK_w (ys := tkC (jn s)) (get_new _ _) (lb rfl) rfl ?_)
  have h1 := Le.new Hx (.row (tkC (jn s)))
  change appA (Hx.new (.row (tkC (jn s)))) _ _ _ _ _ _ _ _ _ = true
  generalize Hx.new (.row (tkC (jn s))) = H1 at *
  refine appT_w (sr.le h1) hc (m := 1) rfl (by omega) (by omega) fun p2 c2 z2 H2 f2 s2 k2 o2 => ?_
  have ik : InK H2 p2 (i + 1) (pks i ++ [jn s]) := by
    have hl : (pks i ++ [jn s]).length = i + 1 := by rw [List.length_append, pks_len]; rfl
    have : SR 25 H2 p2 (pks i ++ [jn s]).length z2 ((pks i ++ [jn s]).flatMap tkC) := by rw [hl, List.flatMap_append]; exact s2
    have := InK.of this
    rwa [hl] at this
  have hbeats : ∀ t ∈ pks i ++ [jn s], -9223372036854775808 ≤ t.beat := fun t ht => by
    rcases List.mem_append.1 ht with h | h
    · obtain ⟨j, _, rfl⟩ := List.mem_map.1 h
      show (-9223372036854775808 : Int) ≤ (j : Int)
      omega
    · rw [List.mem_singleton] at h; subst h
      show (-9223372036854775808 : Int) ≤ s
      omega
  refine loopX_w (fun x Hx => ∃ b : Int, x = ((i : Int), s, (p2, i + 1, c2, z2), b) ∧ -1 ≤ b ∧ b ≤ 14 ∧ Le H2 Hx) (fun x => (14 - x.2.2.2).toNat) ⟨-1, rfl, by decide, by decide, Le.refl _⟩ (by simp; omega) ?_
  rintro self x Hx ⟨b, rfl, hb0, hb1, hL⟩ ih
  simp only [pR_]
  refine ifA_w (fun hx => ?_) (fun _ => rfl)
  have hx : b < 14 := of_decide_eq_true hx
  refine hrect _ _ _ _ _ _ 1 2 b _ (ik.le hL) (by omega) hbeats (by omega) fun H3 h3 => ?_
  rw [tup2_, asG_]
  refine arB_w (tmp_w rfl rfl fun g4 H4 h4 _ _ _ => ?_)
  have hL4 := hL.trans (h3.trans h4)
  refine hrect _ _ _ _ _ _ 1 1 b _ (ik.le hL4) (by omega) hbeats (by omega) fun H5 h5 => ?_
  rw [tup2_, asG_]
  refine arB_w (tmp_w rfl rfl fun g6 H6 h6 _ _ _ => ?_)
  have hL6 := hL4.trans (h5.trans h6)
  refine hworld _ _ _ _ _ _ _ _ (ik.le hL6) (by omega) fun H7 p7 c7 z7 h7 _ => ?_
  rw [asSl_, iAdd_]
  have hL7 := hL6.trans h7
  have wl := world_len (k := i) (by omega) s b
  refine w64_w (by simp only [Int.ofNat_eq_natCast]; omega) (by simp only [Int.ofNat_eq_natCast]; omega) ?_
  rw [mnA_, fI_eq, mxA_, fI_eq]
  refine ifA_w (fun h => ?_) (fun _ => ?_)
  · exfalso
    rw [show decide ((Int.ofNat (allT (worldJ (pks i ++ [jn s]) b)).length : Int) = max (Int.ofNat 0) (min (b + Int.ofNat 1) (i : Int))) = true from decide_eq_true wl] at h
    cases h
  rw [rect_2, rect_1]
  refine ifA_w (fun h => ?_) (fun _ => ?_)
  · exfalso
    cases hd : decide (s < b) <;> rw [hd] at h <;> cases h
  refine ifA_w (fun h => by cases h) (fun _ => ?_)
  exact w64_w (by simp only [Int.ofNat_eq_natCast]; omega) (by simp only [Int.ofNat_eq_natCast]; omega) (ih _ _ ⟨b + 1, rfl, by omega, by omega, hL7⟩ (by simp; omega))
end Go.Proofs
end
