import Derived.Test.YtmdidmoffcinjaaGreatDG
import Derived.Test.YtmdidmoffcinjaaGreatDY
import Derived.Test.YtmdidmoffcinjaaGreatBR
import Derived.Test.YtmdidmoffcinjaaGreatDX
import Derived.KernelRfl
import Derived.Test.YtmdidmoffcinjaaGreatDI
import Derived.Test.YtmdidmoffcinjaaGreatVwRead2
import Derived.OpenShut
import Derived.Test.YtmdidmoffcinjaaGreatBlaw26
import Derived.Test.YtmdidmoffcinjaaGreatVwRead3
section
namespace Go.Proofs
open Go Go.Vw Go.Vw.Ev
set_option linter.unusedVariables false
set_option linter.unusedSimpArgs false
def CJWat (cl : Cl) : Prop := ∀ c H K, (∀ H', Le H H' → K (.s (.bool (watB c))) H' = true) → cl i_judge_watches [.agg (cmC c)] H K = true
theorem B_judge_watches_ {lf : Nat} {cl : Cl} {c : Cm} {H : AH} {K : AV → AH → Bool} (hk : ∀ H', Le H H' → K (.s (.bool (watB c))) H' = true) : B_judge_watches lf cl (cmC c) H K = true := by
 unfold B_judge_watches
 refine new_w fun g H1 h1 hg ng gg => ?_
 refine rowK_w gg (ldI_w (n := c.kind) rfl ?_)
 have := hk H1 h1
 unfold watB at this
 simp only [fB_eq, iLe_dec, Int.ofNat_eq_natCast]
 refine ifA_w (fun hx => ?_) (fun hx => ?_)
 ·refine rowK_w gg (ldI_w (n := c.kind) rfl ?_)
  rw [show decide (6 ≤ c.kind) = true from hx, Bool.true_and] at this
  exact this
 ·rw [show decide (6 ≤ c.kind) = false from hx, Bool.false_and] at this
  exact this
def InK (H : AH) (p : AP) (n : Nat) (os : List Tkn) : Prop := os.length = n ∧ (n ≠ 0 → ∃ g, p = .at g 0 ∧ H.has g ∧ (H.get g = some (.fix (os.flatMap tkC)) ∨ H.get g = some (.row (os.flatMap tkC))))
theorem InK.fr {F : Pn → Prop} {H H' : AH} {p : AP} {n : Nat} {os : List Tkn} (h : InK H p n os) (k : Fr F H H') (hf : ∀ a, ownP p a → ¬ F a) : InK H' p n os :=
 ⟨h.1, fun hn => (h.2 hn).imp fun g ⟨e, hg, gg⟩ => ⟨e, k.has _ hg, by rw [k.get _ hg (hf g ⟨0, e⟩)]; exact gg⟩⟩
theorem InK.le {H H' : AH} {p : AP} {n : Nat} {os : List Tkn} (h : InK H p n os) (k : Le H H') : InK H' p n os := h.fr (k.fr fun _ => False) fun _ _ h => h
theorem InK.of {H : AH} {p : AP} {z : Nat} {os : List Tkn} (h : SR 25 H p os.length z (os.flatMap tkC)) : InK H p os.length os := ⟨rfl, fun hn => by
 obtain ⟨b, e, hb, gb⟩ := h.at (by omega)
 exact ⟨b, e, hb, .inr gb⟩⟩
theorem InK.read {H Hx : AH} {p : AP} {n : Nat} {os : List Tkn} (h : InK H p n os) {i : Nat} (hi : i < os.length) (hx : Le H Hx) {K : List AS → Bool} (hk : K (tkC os[i]) = true) : nilK p (fun g o => idxK (i : Int) n fun m => fN (Nat.add o (Nat.mul m 25)) fun o => rowK Hx g fun cs => ldG cs o 25 K) = true := by
 obtain ⟨g, rfl, hg, gg⟩ := (h.le hx).2 (by rw [← h.1]; omega)
 have hl : (os.flatMap tkC).length = os.length * 25 := flat_len tkC_len os
 have hn := h.1
 simp only [nilK_at, fN_eq, Nat.add_eq, Nat.mul_eq, Nat.zero_add]
 refine idxK_w (by omega) (by omega) ?_
 rw [Int.toNat_natCast]
 exact rowK_wo gg (ldG_we (ys := tkC os[i]) (by omega) (by decide) (flat_at tkC_len os i hi) hk)
theorem fold_take {α β : Type} (f : β → α → β) (b : β) {l : List α} {i : Nat} (h : i < l.length) : (l.take (i + 1)).foldl f b = f ((l.take i).foldl f b) l[i] := by
 rw [List.take_succ_eq_append_getElem h, List.foldl_append]; rfl
def keepJ (beat : Int) (t : Tkn) : Bool := !decide (beat < t.beat) && (!watB t.c && !decide (t.c.kind = 5))
noncomputable def wT (l : List Tkn) : List (Int × Th) := l.foldl (fun L t => wL L t.c t.id) []
theorem aSet_leJ {β : Type} : ∀ (L : List (Int × β)) (k : Int) (v : β), (aSet L k v).length ≤ L.length + 1
 | [], _, _ => by simp [aSet]
 | x :: r, k, v => by
  have := aSet_leJ r k v
  unfold aSet
  split
  ·simp
  ·simp only [List.length_cons]; omega
theorem aDel_leJ {β : Type} : ∀ (L : List (Int × β)) (k : Int), (aDel L k).length ≤ L.length
 | [], _ => Nat.le_refl _
 | x :: r, k => by
  have := aDel_leJ r k
  unfold aDel
  split
  ·simp only [List.length_cons]; omega
  ·simp only [List.length_cons]; omega
theorem wL_leJ (L : List (Int × Th)) (c : Cm) (x : Int) : (wL L c x).length ≤ L.length + 1 := by
 unfold wL doneL
 split
 ·split
  ·split
   ·exact aSet_leJ _ _ _
   ·omega
  split
  ·exact aSet_leJ _ _ _
  split
  ·exact aSet_leJ _ _ _
  ·exact Nat.le_trans (aDel_leJ _ _) (by omega)
 ·omega
theorem wT_le (l : List Tkn) {i : Nat} (h : i < l.length) : wT (l.take (i + 1)) = wL (wT (l.take i)) l[i].c l[i].id := by
 unfold wT
 exact fold_take (fun (L : List (Int × Th)) (t : Tkn) => wL L t.c t.id) ([] : List (Int × Th)) h
theorem wT_len (l : List Tkn) : ∀ i, i ≤ l.length → (wT (l.take i)).length ≤ i
 | 0, _ => Nat.le_refl 0
 | i + 1, h => by
  rw [wT_le l (by omega)]
  have := wT_len l i (by omega)
  have := wL_leJ (wT (l.take i)) (l[i]'(by omega)).c (l[i]'(by omega)).id
  omega
def idsC (l : List Tkn) : List AS := l.flatMap fun t => [AS.int .i64 t.id]
theorem idsC_len (t : Tkn) : [AS.int .i64 t.id].length = 1 := rfl
def cmsK (l : List Tkn) : List AS := l.flatMap fun t => cmC t.c
theorem cmsK_len (t : Tkn) : (cmC t.c).length = 22 := rfl
def CWOfT (cl : Cl) : Prop := ∀ H p n c z1 q m d z2 (l : List Tkn) K, SR 22 H p n z1 (cmsK l) → SR 1 H q m z2 (idsC l) → n ≤ 1000 → (∀ H' w O, Le H H' → WW H' w (wT l) O → (∀ a, O a → ¬ H.has a) → K (.s (.ptr (.at w 0))) H' = true) → cl i_world_Of [.s (.slice p n c z1), .s (.slice q m d z2)] H K = true
theorem W_world_OfT_ {lf : Nat} {cl : Cl} (hlf : 100000 ≤ lf) (hnew : CWNew cl) (hdo : CWDo cl) {H : AH} {p q : AP} {n m z1 z2 : Nat} {c d : ACap} {l : List Tkn} {K : AV → AH → Bool} (sp : SR 22 H p n z1 (cmsK l)) (sq : SR 1 H q m z2 (idsC l)) (hn : n ≤ 1000)
  (hk : ∀ H' w O, Le H H' → WW H' w (wT l) O → (∀ a, O a → ¬ H.has a) → K (.s (.ptr (.at w 0))) H' = true) : B_world_Of lf cl p n c z1 q m d z2 H K = true := by
 have hln : l.length = n := hds_n cmsK_len (by decide) sp
 have hlm : l.length = m := hds_n idsC_len (by decide) sq
 unfold B_world_Of
 refine hnew _ _ fun H1 w O h1 w1 zz1 => ?_
 rw [asP_]
 refine loopX_w (fun x Hx => ∃ (i : Nat) (O : Pn → Prop), x = ((q, m, d, z2), .at w 0, (p, n, c, z1), (n : Int), (i : Int)) ∧ i ≤ n ∧ Le H Hx ∧ WW Hx w (wT (l.take i)) O ∧ (∀ a, O a → ¬ H.has a)) (fun x => n - x.2.2.2.2.toNat)
  ⟨0, O, rfl, by omega, h1, w1, zz1⟩ (by simp; omega) ?_
 clear w1 zz1 h1 O H1
 rintro self x H1 ⟨i, O, rfl, hi, hL1, ww, hz⟩ ih
 simp only [pR_, fB_eq, iLt_dec]
 refine ifA_w (fun hx => ?_) (fun hx => ?_)
 case refine_2 =>
  have hx : i = l.length := by have := of_decide_eq_false hx; omega
  rw [hx, List.take_length] at ww
  exact hk _ _ _ hL1 ww hz
 have hx : i < l.length := by have := of_decide_eq_true hx; omega
 have hst := wT_le l hx
 have hlen := wT_len l i (by omega)
 have hseg := flat_at (f := fun t : Tkn => cmC t.c) cmsK_len l i hx
 have hsegi := flat_cell (f := fun t : Tkn => [AS.int .i64 t.id]) (k := 0) idsC_len hx (by decide)
 change ((cmsK l).drop (i * 22)).take 22 = _ at hseg
 change (idsC l)[i * 1 + 0]? = _ at hsegi
 obtain ⟨bp, rfl, hbp, gbp⟩ := (sp.le hL1).at (by omega)
 have hfl := sp.1
 generalize l[i] = t at *
 simp only [nilK_at, fN_eq, Nat.add_eq, Nat.mul_eq, Nat.zero_add]
 refine idxK_w (by omega) (by omega) ?_
 rw [Int.toNat_natCast]
 refine rowK_w gbp (ldG_we (ys := cmC t.c) (by omega) (by decide) hseg ?_)
 refine tmp_w rfl rfl fun gc H2 h2 hc nc gc2 => ?_
 have hL2 := hL1.trans h2
 refine joinX_w (fun x Hx => Hx = H2 ∧ x = ((q, m, d, z2), .at w 0, .at gc 0, t.id, (.at bp 0, n, c, z1), (n : Int), (i : Int))) ?_ ?_
 ·rintro x Hx ⟨rfl, rfl⟩
  simp only [pR_, nilK_at]
  refine rowK_w gc2 (ldG_we (ys := cmC t.c) (lb rfl) (lb rfl) rfl ?_)
  refine hdo Hx w _ O t.c t.id _ (ww.le h2) (by omega) fun H3 O3 f3 w3 o3 => ?_
  rw [tup2_]
  refine arI_w (arI_w ?_)
  rw [iAdd_]
  refine w64_w (by simp only [Int.ofNat_eq_natCast]; omega) (by simp only [Int.ofNat_eq_natCast]; omega) (ih _ _ ⟨i + 1, O3, by simp, by omega, ⟨fun a h => f3.has _ (hL2.has _ h), fun a h => (f3.get a (hL2.has _ h) fun h' => hz a h' h).trans (hL2.get a h)⟩, by rw [hst]; exact w3, fun a h h' => (o3 a h).elim (fun e => hz a e h') fun e => e (hL2.has _ h')⟩ (by simp; omega))
 ·intro J hJ'
  refine ifA_w (fun hy => ?_) (fun hy => ?_)
  ·obtain ⟨bq, rfl, hbq, gbq⟩ := (sq.le hL2).at (by omega)
   simp only [nilK_at, fN_eq, Nat.add_eq, Nat.mul_eq, Nat.zero_add]
   refine idxK_w (by omega) (by omega) ?_
   rw [Int.toNat_natCast]
   refine rowK_w gbq (ldI_w (n := t.id) (by rw [show i * 1 = i * 1 + 0 from rfl, hsegi]; rfl) (hJ' _ _ ⟨rfl, rfl⟩))
  ·have := of_decide_eq_false hy
   simp only [Int.ofNat_eq_natCast] at this
   omega
noncomputable def worldJ (os : List Tkn) (beat : Int) : List (Int × Th) := wT (os.filter (keepJ beat))
def CJWorld (cl : Cl) : Prop := ∀ H p n c z os beat K, InK H p n os → n ≤ 1000 → (∀ H' p' c' z', Le H H' → SR 11 H' p' (allT (worldJ os beat)).length z' (thsC ((allT (worldJ os beat)).map (thOf (worldJ os beat)))) → K (.s (.slice p' (allT (worldJ os beat)).length c' z')) H' = true) →
 cl i_judge_World [.s (.slice p n c z), .s (.int .i64 beat)] H K = true
theorem B_judge_World_ {lf : Nat} {cl : Cl} (hlf : 100000 ≤ lf) (hwat : CJWat cl) (hof : CWOfT cl) (hall : CWAll cl) {H : AH} {p : AP} {n z : Nat} {c : ACap} {os : List Tkn} {beat : Int} {K : AV → AH → Bool}
  (ik : InK H p n os) (hn : n ≤ 1000) (hk : ∀ H' p' c' z', Le H H' → SR 11 H' p' (allT (worldJ os beat)).length z' (thsC ((allT (worldJ os beat)).map (thOf (worldJ os beat)))) → K (.s (.slice p' (allT (worldJ os beat)).length c' z')) H' = true) : B_judge_World lf cl p n c z beat H K = true := by
 unfold B_judge_World
 have hon := ik.1
 refine loopX_w (fun x Hx => ∃ (i : Nat) (p1 p2 : AP) (c1 c2 : ACap) (z1 z2 : Nat), x = (beat, (p1, ((os.take i).filter (keepJ beat)).length, c1, z1), (p2, ((os.take i).filter (keepJ beat)).length, c2, z2), (p, n, c, z), (n : Int), (i : Int)) ∧ i ≤ n ∧ Le H Hx ∧ SR 22 Hx p1 ((os.take i).filter (keepJ beat)).length z1 (cmsK ((os.take i).filter (keepJ beat))) ∧ CapOk c1 ((os.take i).filter (keepJ beat)).length ∧
   SR 1 Hx p2 ((os.take i).filter (keepJ beat)).length z2 (idsC ((os.take i).filter (keepJ beat))) ∧ CapOk c2 ((os.take i).filter (keepJ beat)).length ∧ (∀ a, ownP p1 a → ¬ H.has a ∧ ¬ ownP p2 a) ∧ (∀ a, ownP p2 a → ¬ H.has a)) (fun x => n - x.2.2.2.2.2.toNat)
  ⟨0, .nil, .nil, .lit 0, .lit 0, 1, 1, rfl, by omega, Le.refl _, SR.nil, Nat.le_refl 0, SR.nil, Nat.le_refl 0, fun a ⟨o, e⟩ => (by cases e), fun a ⟨o, e⟩ => (by cases e)⟩ (by simp; omega) ?_
 rintro self x Hx ⟨i, p1, p2, c1, c2, z1, z2, rfl, hi, hL, s1, k1, s2, k2, o1, o2⟩ ih
 simp only [pR_, fB_eq, iLt_dec, iEq_dec]
 refine ifA_w (fun hx => ?_) (fun hx => ?_)
 ·have hx : i < os.length := by have := of_decide_eq_true hx; omega
  have hst : (os.take (i + 1)).filter (keepJ beat) = (os.take i).filter (keepJ beat) ++ (if keepJ beat os[i] = true then [os[i]] else []) := by
   rw [List.take_succ_eq_append_getElem hx, List.filter_append]
   congr 1
   by_cases h : keepJ beat os[i] = true
   ·rw [if_pos h]; simp [h]
   ·rw [if_neg h]; simp [h]
  have hfl : ((os.take i).filter (keepJ beat)).length ≤ i := by
   have := List.length_filter_le (keepJ beat) (os.take i)
   rw [List.length_take] at this
   omega
  refine ik.read hx hL ?_
  generalize os[i] = t at *
  refine tmp_w rfl rfl fun gt H3 h3 hgt ngt ggt => ?_
  have skip : ∀ Hy, Le H3 Hy → keepJ beat t = false → (w64 (iAdd (i : Int) (Int.ofNat 1)) fun n48 => self (beat, (p1, ((os.take i).filter (keepJ beat)).length, c1, z1), (p2, ((os.take i).filter (keepJ beat)).length, c2, z2), (p, n, c, z), (n : Int), n48) Hy) = true := by
   intro Hy hy e
   rw [iAdd_]
   have hL3 := h3.trans hy
   have e2 : (os.take (i + 1)).filter (keepJ beat) = (os.take i).filter (keepJ beat) := by rw [hst, e, if_neg (by decide), List.append_nil]
   exact w64_w (by simp only [Int.ofNat_eq_natCast]; omega) (by simp only [Int.ofNat_eq_natCast]; omega) (ih _ _ ⟨i + 1, p1, p2, c1, c2, z1, z2, by rw [e2]; simp, by omega, hL.trans hL3, by rw [e2]; exact s1.le hL3, by rw [e2]; exact k1, by rw [e2]; exact s2.le hL3, by rw [e2]; exact k2, o1, o2⟩ (by simp; omega))
  refine rowK_w ggt (ldI_w (n := t.beat) rfl ?_)
  refine ifA_w (fun h1 => skip _ (Le.refl _) (by unfold keepJ; rw [h1]; rfl)) (fun h1 => ?_)
  refine rowK_w ggt (ldG_we (ys := cmC t.c) (lb rfl) (by decide) rfl ?_)
  refine hwat _ _ _ fun H4 h4 => arB_w ?_
  refine ifA_w (fun h2 => skip _ h4 (by unfold keepJ; rw [h2, Bool.not_true, Bool.false_and, Bool.and_false])) (fun h2 => ?_)
  have gg4 := (h4.get _ hgt).trans ggt
  have hg4 := h4.has _ hgt
  refine rowK_w gg4 (ldI_w (n := t.c.kind) rfl ?_)
  refine ifA_w (fun h5 => skip _ h4 (by unfold keepJ; rw [show decide (t.c.kind = 5) = true from h5, Bool.not_true, Bool.and_false, Bool.and_false])) (fun h5 => ?_)
  have hkeep : keepJ beat t = true := by unfold keepJ; rw [h1, h2, show decide (t.c.kind = 5) = false from h5]; rfl
  rw [hkeep, if_pos rfl] at hst
  refine rowK_w gg4 (ldG_we (ys := cmC t.c) (lb rfl) (by decide) rfl (okK_w rfl (fL_w ?_)))
  rw [ap_eq, List.append_nil]
  refine okK_w rfl (newK_w (elK_w (ys := cmC t.c) (get_new _ _) (lb rfl) rfl ?_))
  have h45 := Le.new H4 (.row (cmC t.c))
  change appA (H4.new (.row (cmC t.c))) _ _ _ _ _ _ _ _ _ = true
  generalize H4.new (.row (cmC t.c)) = H5 at *
  have hX5 := h3.trans (h4.trans h45)
  have n1t : ¬ ownP p1 gt := fun h => ngt (s1.has _ h)
  have n2t : ¬ ownP p2 gt := fun h => ngt (s2.has _ h)
  refine appT_w (s1.le hX5) k1 (m := 1) rfl (by omega) (by omega) fun p6 c6 z6 H6 f6 s6 k6 o6 => ?_
  have gg6 := (f6.get _ (h45.has _ hg4) n1t).trans ((h45.get _ hg4).trans gg4)
  refine rowK_w gg6 (ldI_w (n := t.id) rfl ?_)
  refine newK_w (elK_w (ys := [AS.int .i64 t.id]) (get_new _ _) (lb rfl) rfl ?_)
  have h67 := Le.new H6 (.row [AS.int .i64 t.id])
  change appA (H6.new (.row [AS.int .i64 t.id])) _ _ _ _ _ _ _ _ _ = true
  generalize H6.new (.row [AS.int .i64 t.id]) = H7 at *
  have n21 : ∀ a, ownP p2 a → ¬ ownP p1 a := fun a h h' => (o1 a h').2 h
  refine appT_w (((s2.le hX5).fr f6 n21).le h67) k2 (m := 1) rfl (by omega) (by omega) fun p8 c8 z8 H8 f8 s8 k8 o8 => ?_
  have n62 : ∀ a, ownP p6 a → ¬ ownP p2 a := fun a h h' => (o6 a h).elim (fun e => (o1 a e).2 h') fun e => e (hX5.has _ (s2.has a h'))
  have hL8 : Le H H8 := ⟨fun a h => f8.has _ (h67.has _ (f6.has _ (hX5.has _ (hL.has _ h)))), fun a h => (f8.get a (h67.has _ (f6.has _ (hX5.has _ (hL.has _ h)))) fun h' => o2 a h' h).trans ((h67.get a (f6.has _ (hX5.has _ (hL.has _ h)))).trans ((f6.get a (hX5.has _ (hL.has _ h)) fun h' => (o1 a h').1 h).trans ((hX5.get a (hL.has _ h)).trans (hL.get a h))))⟩
  have hlen : ((os.take (i + 1)).filter (keepJ beat)).length = ((os.take i).filter (keepJ beat)).length + 1 := by rw [hst, List.length_append]; rfl
  rw [iAdd_]
  refine w64_w (by simp only [Int.ofNat_eq_natCast]; omega) (by simp only [Int.ofNat_eq_natCast]; omega) (ih _ _ ⟨i + 1, p6, p8, c6, c8, z6, z8, by rw [hlen]; simp, by omega, hL8, ?_, by rw [hlen]; exact k6, ?_, by rw [hlen]; exact k8, fun a h => ⟨fun h' => ?_, fun h' => ?_⟩, fun a h h' => ?_⟩ (by simp; omega))
  ·rw [hlen, hst, cmsK, List.flatMap_append]
   exact (s6.le h67).fr f8 n62
  ·rw [hlen, hst, idsC, List.flatMap_append]
   exact s8
  ·exact (o6 a h).elim (fun e => (o1 a e).1 h') fun e => e (hX5.has _ (hL.has _ h'))
  ·exact (o8 a h').elim (n62 a h) fun e => e (h67.has _ (s6.has a h))
  ·exact (o8 a h).elim (fun e => o2 a e h') fun e => e (h67.has _ (f6.has _ (hX5.has _ (hL.has _ h'))))
 ·have hx : i = os.length := by have := of_decide_eq_false hx; omega
  rw [hx, List.take_length] at s1 s2 ⊢
  have hfl := List.length_filter_le (keepJ beat) os
  refine hof _ _ _ _ _ _ _ _ _ (os.filter (keepJ beat)) _ s1 s2 (by omega) fun H3 w O h3 ww _ => ?_
  rw [asP_]
  change WW H3 w (worldJ os beat) O at ww
  have hwl : (worldJ os beat).length ≤ (os.filter (keepJ beat)).length := by
   have := wT_len (os.filter (keepJ beat)) _ (Nat.le_refl _)
   rwa [List.take_length] at this
  refine hall _ _ _ _ _ ww (by omega) fun H4 p4 c4 z4 h4 sl4 => ?_
  rw [asSl_]
  exact hk _ _ _ _ (hL.trans (h3.trans h4)) (Sl.sr sl4)
end Go.Proofs
end
section
namespace Go.Proofs
open Go Go.Vw Go.Vw.Ev
set_option linter.unusedVariables false
set_option linter.unusedSimpArgs false
def cmpI (a b : Int) : Int := if a < b then -1 else if b < a then 1 else 0
def CIsNaN (cl : Cl) : Prop := ∀ a H K, K (.s (.bool false)) H = true → cl i_cmp_isNaN_int [.s (.int .i64 a)] H K = true
theorem B_cmp_isNaN_int_ {lf : Nat} {cl : Cl} {a : Int} {H : AH} {K : AV → AH → Bool} (hk : K (.s (.bool false)) H = true) : B_cmp_isNaN_int lf cl a H K = true := by
 unfold B_cmp_isNaN_int
 rw [fB_eq, iEq_dec, decide_eq_true rfl]
 exact hk
def CCmpI (cl : Cl) : Prop := ∀ a b H K, K (.s (.int .i64 (cmpI a b))) H = true → cl i_cmp_Compare_int [.s (.int .i64 a), .s (.int .i64 b)] H K = true
theorem B_cmp_Compare_int_ {lf : Nat} {cl : Cl} (hnan : CIsNaN cl) {a b : Int} {H : AH} {K : AV → AH → Bool} (hk : K (.s (.int .i64 (cmpI a b))) H = true) : B_cmp_Compare_int lf cl a b H K = true := by
 unfold B_cmp_Compare_int
 refine hnan _ _ _ (arB_w (hnan _ _ _ (arB_w ?_)))
 simp only [fB_eq, iLt_dec]
 refine ifA_w (fun h => by cases h) (fun _ => ifA_w (fun h => by cases h) (fun _ => ?_))
 unfold cmpI at hk
 refine ifA_w (fun h => ?_) (fun h => ifA_w (fun h2 => ?_) (fun h2 => ?_))
 ·rw [if_pos (of_decide_eq_true h)] at hk; exact hk
 ·rw [if_neg (of_decide_eq_false h), if_pos (of_decide_eq_true h2)] at hk; exact hk
 ·rw [if_neg (of_decide_eq_false h), if_neg (of_decide_eq_false h2)] at hk; exact hk
def orI (a b : Int) : Int := if a = 0 then b else a
def COrI (cl : Cl) : Prop := ∀ a b g H K, H.get g = some (.row [.int .i64 a, .int .i64 b]) → K (.s (.int .i64 (orI a b))) H = true → cl i_cmp_Or_int [.s (.slice (.at g 0) 2 (.lit 2) 1)] H K = true
theorem B_cmp_Or_int_ {lf : Nat} {cl : Cl} (hlf : 10 ≤ lf) {a b : Int} {g : Pn} {H : AH} {K : AV → AH → Bool} (gg : H.get g = some (.row [.int .i64 a, .int .i64 b])) (hk : K (.s (.int .i64 (orI a b))) H = true) : B_cmp_Or_int lf cl (.at g 0) 2 (.lit 2) 1 H K = true := by
 unfold B_cmp_Or_int
 refine loopX_w (fun x Hx => Hx = H ∧ ∃ i : Nat, x = (Int.ofNat 0, (.at g 0, 2, .lit 2, 1), Int.ofNat 2, (i : Int)) ∧ i ≤ 2 ∧ (0 < i → a = 0) ∧ (1 < i → b = 0)) (fun x => 2 - x.2.2.2.toNat) ⟨rfl, 0, rfl, by omega, fun h => absurd h (by omega), fun h => absurd h (by omega)⟩ (by simp; omega) ?_
 rintro self x Hx ⟨rfl, i, rfl, hi, h0, h1⟩ ih
 simp only [pR_, fB_eq, iLt_dec, iEq_dec, nilK_at, fN_eq, Nat.add_eq, Nat.mul_eq, Nat.zero_add, Nat.mul_one]
 refine ifA_w (fun hx => ?_) (fun hx => ?_)
 ·have hx : i < 2 := by have := of_decide_eq_true hx; simp only [Int.ofNat_eq_natCast] at this; omega
  refine idxK_w (by omega) (by omega) ?_
  rw [Int.toNat_natCast]
  rcases (show i = 0 ∨ i = 1 by omega) with rfl | rfl
  ·refine rowK_w gg (ldI_w (n := a) rfl ?_)
   refine ifA_w (fun h => ?_) (fun h => ?_)
   ·have : a ≠ 0 := by simpa using h
    unfold orI at hk
    rw [if_neg this] at hk
    exact hk
   ·have : a = 0 := by simpa using h
    rw [iAdd_]
    exact w64_w (by decide) (by decide) (ih _ _ ⟨rfl, 1, rfl, by omega, fun _ => this, fun h => absurd h (by omega)⟩ (by simp))
  ·refine rowK_w gg (ldI_w (n := b) rfl ?_)
   have ha := h0 (by omega)
   unfold orI at hk
   rw [if_pos ha] at hk
   refine ifA_w (fun h => hk) (fun h => ?_)
   have : b = 0 := by simpa using h
   rw [iAdd_]
   exact w64_w (by decide) (by decide) (ih _ _ ⟨rfl, 2, rfl, by omega, fun _ => ha, fun _ => this⟩ (by simp))
 ·have hx : i = 2 := by have := of_decide_eq_false hx; simp only [Int.ofNat_eq_natCast] at this; omega
  subst hx
  unfold orI at hk
  rw [if_pos (h0 (by omega)), h1 (by omega)] at hk
  exact hk
def cT (a b : Tkn) : Int := orI (cmpI a.beat b.beat) (cmpI a.srv b.srv)
def CCmpT (cl : Cl) : Prop := ∀ a b H K, (∀ H', Le H H' → K (.s (.int .i64 (cT a b))) H' = true) → cl i_judge_Order_1 [.agg (tkC a), .agg (tkC b)] H K = true
theorem B_judge_Order_1_ {lf : Nat} {cl : Cl} (hcmp : CCmpI cl) (hor : COrI cl) {a b : Tkn} {H : AH} {K : AV → AH → Bool} (hk : ∀ H', Le H H' → K (.s (.int .i64 (cT a b))) H' = true) : B_judge_Order_1 lf cl (tkC a) (tkC b) H K = true := by
 unfold B_judge_Order_1
 refine new_w fun g1 H1 h1 hg1 ng1 gg1 => ?_
 refine new_w fun g2 H2 h2 hg2 ng2 gg2 => ?_
 have g12 := (h2.get _ hg1).trans gg1
 have tl : ∀ t : Tkn, (tkC t).all leafy = true := fun t => by
  show ([AS.int .i64 t.beat, AS.int .i64 t.srv, AS.int .i64 t.id] ++ cmC t.c).all leafy = true
  rw [List.all_append, leafy_cm]; rfl
 refine rowK_w g12 (ldI_w (n := a.beat) rfl (rowK_w gg2 (ldI_w (n := b.beat) rfl ?_)))
 refine getK_w g12 (rowK_w g12 (ldI_w (n := a.srv) rfl (getK_w gg2 (rowK_w gg2 (ldI_w (n := b.srv) rfl ?_)))))
 refine hcmp _ _ _ _ (okK_w (kSame_row gg2 (tl b) (kSame_row g12 (tl a) rfl)) (arI_w ?_))
 refine hcmp _ _ _ _ (arI_w ?_)
 refine new_w fun g3 H3 h3 hg3 ng3 gg3 => ?_
 exact hor _ _ _ _ _ gg3 (arI_w (hk _ (h1.trans (h2.trans h3))))
def insT (x : Tkn) : List Tkn → List Tkn
 | [] => [x]
 | y :: r => if cT x y < 0 then y :: insT x r else x :: y :: r
def srtRvT : List Tkn → List Tkn → List Tkn
 | acc, [] => acc
 | acc, x :: r => srtRvT (insT x acc) r
def srtT (l : List Tkn) : List Tkn := (srtRvT [] l).reverse
def CInsT (cl : Cl) : Prop := ∀ H b n c l K, l.length = n → 0 < n → n < 1000 → H.has b → H.get b = some (.row (l.flatMap tkC)) → (∀ H', Fr (fun a => a = b) H H' → H'.get b = some (.row ((srtT l).flatMap tkC)) → K (.tup []) H' = true) →
 cl i_slices_insertionSortCmpFunc_Taken [.s (.slice (.at b 0) n c 25), .s (.int .i64 (Int.ofNat 0)), .s (.int .i64 (Int.ofNat n)), .s (.func i_judge_Order_1 [] [])] H K = true
theorem insT_len (x : Tkn) : ∀ l : List Tkn, (insT x l).length = l.length + 1
 | [] => rfl
 | y :: r => by unfold insT; split <;> simp [insT_len x r]
theorem srtRvT_len : ∀ (l acc : List Tkn), (srtRvT acc l).length = acc.length + l.length
 | [], acc => by simp [srtRvT]
 | x :: r, acc => by rw [srtRvT, srtRvT_len r, insT_len, List.length_cons]; omega
theorem srtT_len (l : List Tkn) : (srtT l).length = l.length := by unfold srtT; rw [List.length_reverse, srtRvT_len]; simp
theorem B_slices_insertionSortCmpFunc_Taken_ {lf : Nat} {cl : Cl} (hlf : 100000 ≤ lf) (hif : IntF i_judge_Order_1) (hcmp : CCmpT cl) {H : AH} {b : Pn} {n : Nat} {c : ACap} {l : List Tkn} {K : AV → AH → Bool} (hl : l.length = n) (hpos : 0 < n) (hn : n < 1000) (hb : H.has b) (gb : H.get b = some (.row (l.flatMap tkC)))
  (hk : ∀ H', Fr (fun a => a = b) H H' → H'.get b = some (.row ((srtT l).flatMap tkC)) → K (.tup []) H' = true) :
  B_slices_insertionSortCmpFunc_Taken lf cl (.at b 0) n c 25 (Int.ofNat 0) (Int.ofNat n) (.s (.func i_judge_Order_1 [] [])) H K = true := by
 unfold B_slices_insertionSortCmpFunc_Taken
 rw [iAdd_]
 refine w64_w (by decide) (by decide) ?_
 refine loopX_w (fun x Hx => ∃ (i : Nat) (P : List Tkn), x = ((.at b 0, n, c, 25), Int.ofNat 0, (n : Int), .s (.func i_judge_Order_1 [] []), (i : Int)) ∧ 1 ≤ i ∧ i ≤ n ∧ Fr (fun a => a = b) H Hx ∧ P.length = i ∧ Hx.get b = some (.row ((P.reverse ++ l.drop i).flatMap tkC)) ∧ srtRvT [] l = srtRvT P (l.drop i)) (fun x => n - x.2.2.2.2.toNat)
  ⟨1, (l.take 1), rfl, by omega, by omega, Fr.refl _ _, by simp; omega, ?_, ?_⟩ (by simp; omega) ?_
 ·cases l with
  | nil => simp at hl; omega
  | cons x r => exact gb
 ·cases l with
  | nil => simp at hl; omega
  | cons x r => rfl
 rintro self x Hx ⟨i, P, rfl, h1, hi, fx, hP, gx, hS⟩ ih
 simp only [pR_, fB_eq, iLt_dec]
 refine ifA_w (fun hx => ?_) (fun hx => ?_)
 ·have hx : i < n := by have := of_decide_eq_true hx; omega
  have hxl : i < l.length := by omega
  have ed := List.drop_eq_getElem_cons hxl
  rw [ed] at gx hS
  rw [srtRvT] at hS
  generalize l[i] = e at *
  refine loopX_w (fun y Hy => ∃ (j : Nat) (A B : List Tkn), y = ((.at b 0, n, c, 25), Int.ofNat 0, (n : Int), .s (.func i_judge_Order_1 [] []), (i : Int), (j : Int)) ∧ A.length = j ∧ A.length + B.length = i ∧ Fr (fun a => a = b) H Hy ∧ Hy.get b = some (.row ((A ++ e :: (B ++ l.drop (i + 1))).flatMap tkC)) ∧ insT e P = B.reverse ++ insT e A.reverse) (fun y => y.2.2.2.2.2.toNat)
   ⟨i, P.reverse, [], rfl, by simp [hP], by simp [hP], fx, by simpa using gx, by simp⟩ (by simp; omega) ?_
  rintro self2 y Hy ⟨j, A, B, rfl, hA, hAB, fy, gy, hI⟩ ih2
  simp only [pR_, fB_eq, iLt_dec]
  have bk : H.has b → Hy.has b := fy.has b
  have stop : ∀ {Hz : AH}, Fr (fun a => a = b) H Hz → Hz.get b = some (.row ((A ++ e :: (B ++ l.drop (i + 1))).flatMap tkC)) → insT e A.reverse = e :: A.reverse →
    w64 (iAdd (i : Int) (Int.ofNat 1)) (fun n70 => self ((.at b 0, n, c, 25), Int.ofNat 0, (n : Int), .s (.func i_judge_Order_1 [] []), n70) Hz) = true := by
   intro Hz fz gz he
   rw [iAdd_]
   refine w64_w (by simp only [Int.ofNat_eq_natCast]; omega) (by simp only [Int.ofNat_eq_natCast]; omega) (ih _ _ ⟨i + 1, insT e P, by simp, by omega, by omega, fz, by rw [insT_len, hP], ?_, hS⟩ (by simp; omega))
   rw [hI, he, gz]
   simp
  refine ifA_w (fun hx2 => ?_) (fun hx2 => ?_)
  ·have hj : 0 < j := by have := of_decide_eq_true hx2; simp only [Int.ofNat_eq_natCast] at this; omega
   obtain ⟨A', y', rfl⟩ : ∃ A' y', A = A' ++ [y'] := by
    have hne : A ≠ [] := fun h => by rw [h] at hA; simp at hA; omega
    exact ⟨A.dropLast, A.getLast hne, (List.dropLast_concat_getLast hne).symm⟩
   have hA' : A'.length = j - 1 := by simp at hA; omega
   have hlen : ((A' ++ [y'] ++ e :: (B ++ l.drop (i + 1))).flatMap tkC).length = n * 25 := by
    rw [flat_len tkC_len]
    simp only [List.length_append, List.length_cons, List.length_drop, List.length_nil] at *
    congr 1
    omega
   have at0 : (((A' ++ [y'] ++ e :: (B ++ l.drop (i + 1))).flatMap tkC).drop (j * 25)).take 25 = tkC e := by
    have hj' : j < (A' ++ [y'] ++ e :: (B ++ l.drop (i + 1))).length := by simp at hA ⊢; omega
    rw [flat_at tkC_len _ j hj', List.getElem_append_right (by omega)]
    simp [hA]
   have at1 : (((A' ++ [y'] ++ e :: (B ++ l.drop (i + 1))).flatMap tkC).drop ((j - 1) * 25)).take 25 = tkC y' := by
    have hj' : j - 1 < (A' ++ [y'] ++ e :: (B ++ l.drop (i + 1))).length := by simp at hA ⊢; omega
    rw [flat_at tkC_len _ (j - 1) hj', List.getElem_append_left (by omega), List.getElem_append_right (by omega)]
    simp [hA']
   simp only [nilK_at, fN_eq, Nat.add_eq, Nat.mul_eq, Nat.zero_add, iSub_]
   refine idxK_w (by omega) (by omega) ?_
   rw [Int.toNat_natCast]
   refine rowK_w gy (ldG_we (ys := tkC e) (by omega) (by decide) at0 ?_)
   have ej : (j : Int) - Int.ofNat 1 = ((j - 1 : Nat) : Int) := by simp only [Int.ofNat_eq_natCast]; omega
   rw [ej]
   refine w64_w (by omega) (by omega) ?_
   refine idxK_w (by omega) (by omega) ?_
   rw [Int.toNat_natCast]
   refine rowK_w gy (ldG_we (ys := tkC y') (by omega) (by decide) at1 ?_)
   refine callV_int hif (hcmp e y' _ _ fun H2 h2 => arI_w ?_)
   show fB (iLt (cT e y') (Int.ofNat 0)) _ = true
   rw [fB_eq, iLt_dec]
   have gy2 := (h2.get _ (bk hb)).trans gy
   have f2 : Fr (fun a => a = b) H H2 := fy.trans (h2.fr _) fun _ h => .inl h
   show ifA _ _ _ = true
   refine ifA_w (fun hlt => ?_) (fun hlt => ?_)
   ·have hlt : cT e y' < 0 := of_decide_eq_true hlt
    refine w64_w (by omega) (by omega) (w64_w (by omega) (by omega) ?_)
    refine idxK_w (by omega) (by omega) ?_
    rw [Int.toNat_natCast]
    refine rowK_w gy2 (ldG_we (ys := tkC y') (by omega) (by decide) at1 ?_)
    refine idxK_w (by omega) (by omega) ?_
    rw [Int.toNat_natCast]
    refine rowK_w gy2 (ldG_we (ys := tkC e) (by omega) (by decide) at0 ?_)
    refine idxK_w (by omega) (by omega) ?_
    rw [Int.toNat_natCast]
    have p1 := flat_put (f := tkC) (k := 0) (m := 25) tkC_len (A := A' ++ [y']) (B := B ++ l.drop (i + 1)) (w := e) (v := y') (us := tkC y') hA (by decide) (by rw [List.take_zero, List.nil_append, List.drop_eq_nil_of_le (by rw [tkC_len]; decide), List.append_nil])
    refine stoN_we (ds := (A' ++ [y'] ++ y' :: (B ++ l.drop (i + 1))).flatMap tkC) gy2 rfl (by omega) p1 ?_
    refine idxK_w (by omega) (by omega) ?_
    rw [Int.toNat_natCast]
    have e2 : A' ++ [y'] ++ y' :: (B ++ l.drop (i + 1)) = A' ++ y' :: (y' :: (B ++ l.drop (i + 1))) := by simp
    have p2 := flat_put (f := tkC) (k := 0) (m := 25) tkC_len (A := A') (B := y' :: (B ++ l.drop (i + 1))) (w := y') (v := e) (us := tkC e) hA' (by decide) (by rw [List.take_zero, List.nil_append, List.drop_eq_nil_of_le (by rw [tkC_len]; decide), List.append_nil])
    rw [← e2] at p2
    refine stoN_we (ds := (A' ++ e :: (y' :: (B ++ l.drop (i + 1)))).flatMap tkC) (get_put _ _ _) rfl ?_ p2 ?_
    ·rw [flat_len tkC_len]
     simp only [List.length_append, List.length_cons, List.length_nil] at *
     omega
    refine w64_w (by omega) (by omega) (ih2 _ _ ⟨j - 1, A', y' :: B, rfl, hA', by simp at hAB ⊢; omega, (f2.put (.inl rfl) _).put (.inl rfl) _, by rw [get_put]; simp, ?_⟩ (by simp; omega))
    rw [hI, List.reverse_append, List.reverse_singleton, List.singleton_append, insT, if_pos hlt]
    simp
   ·have hlt : ¬ cT e y' < 0 := of_decide_eq_false hlt
    refine stop f2 gy2 ?_
    rw [List.reverse_append, List.reverse_singleton, List.singleton_append, insT, if_neg hlt]
  ·have hj : j = 0 := by have := of_decide_eq_false hx2; simp only [Int.ofNat_eq_natCast] at this; omega
   have hA0 : A = [] := List.length_eq_zero_iff.1 (by omega)
   exact stop fy gy (by rw [hA0]; rfl)
 ·have hx : i = n := by have := of_decide_eq_false hx; omega
  rw [hx, ← hl, List.drop_length] at gx hS
  refine hk Hx fx ?_
  unfold srtT
  rw [hS, srtRvT, gx, List.append_nil]
def CInsZ (cl : Cl) : Prop := ∀ H p n c z m v K, m ≤ 1000 → K (.tup []) H = true → cl i_slices_insertionSortCmpFunc_Taken [.s (.slice p n c z), .s (.int .i64 (Int.ofNat m)), .s (.int .i64 (Int.ofNat m)), v] H K = true
theorem W_slices_insertionSortZ_ {lf : Nat} {cl : Cl} (hlf : 10 ≤ lf) {H : AH} {p : AP} {n z m : Nat} {c : ACap} {v : AV} {K : AV → AH → Bool} (hm : m ≤ 1000) (hk : K (.tup []) H = true) : B_slices_insertionSortCmpFunc_Taken lf cl p n c z (Int.ofNat m) (Int.ofNat m) v H K = true := by
 unfold B_slices_insertionSortCmpFunc_Taken
 rw [iAdd_]
 refine w64_w (by simp only [Int.ofNat_eq_natCast]; omega) (by simp only [Int.ofNat_eq_natCast]; omega) ?_
 refine loopX_w (fun x Hx => Hx = H ∧ x = ((p, n, c, z), Int.ofNat m, Int.ofNat m, v, Int.ofNat m + Int.ofNat 1)) (fun _ => 0) ⟨rfl, rfl⟩ (by omega) ?_
 rintro self x Hx ⟨rfl, rfl⟩ _
 simp only [pR_, fB_eq, iLt_dec]
 exact ifA_w (fun h => absurd (of_decide_eq_true h) (by simp only [Int.ofNat_eq_natCast]; omega)) (fun _ => hk)
def CStbT (cl : Cl) : Prop := ∀ H p n c z (l : List Tkn) K, SR 25 H p n z (l.flatMap tkC) → n ≤ 20 → (∀ H', Fr (ownP p) H H' → SR 25 H' p n z ((srtT l).flatMap tkC) → K (.tup []) H' = true) →
 cl i_slices_stableCmpFunc_Taken [.s (.slice p n c z), .s (.int .i64 (Int.ofNat n)), .s (.func i_judge_Order_1 [] [])] H K = true
theorem B_slices_stableCmpFunc_Taken_ {lf : Nat} {cl : Cl} (hlf : 100000 ≤ lf) (hins : CInsT cl) (hinz : CInsZ cl) {H : AH} {p : AP} {n z : Nat} {c : ACap} {l : List Tkn} {K : AV → AH → Bool} (sr : SR 25 H p n z (l.flatMap tkC)) (hn : n ≤ 20)
  (hk : ∀ H', Fr (ownP p) H H' → SR 25 H' p n z ((srtT l).flatMap tkC) → K (.tup []) H' = true) :
  B_slices_stableCmpFunc_Taken lf cl p n c z (Int.ofNat n) (.s (.func i_judge_Order_1 [] [])) H K = true := by
 have hl : l.length = n := hds_n tkC_len (by decide) sr
 unfold B_slices_stableCmpFunc_Taken
 have fin : ∀ H1, Fr (ownP p) H H1 → SR 25 H1 p n z ((srtT l).flatMap tkC) → (loopX lf (fun (self22 : ((AP × Nat × ACap × Nat) × Int × AV × Int) → AH → Bool) (x20 : (AP × Nat × ACap × Nat) × Int × AV × Int) (h21 : AH) => pR x20 fun u23 r23 => pR u23 fun p23 r23a => pR r23a fun l23 r23b => pR r23b fun c23 z23 => pR r23 fun n24 r25 => pR r25 fun v26 r27 => fB (iLt r27 n24) fun b29 => ifA b29 (w64 (iMul (Int.ofNat 2) r27) fun n30 => (loopX lf (fun (self33 : ((AP × Nat × ACap × Nat) × Int × AV × Int × Int × Int) → AH → Bool) (x31 : (AP × Nat × ACap × Nat) × Int × AV × Int × Int × Int) (h32 : AH) => pR x31 fun u34 r34 => pR u34 fun p34 r34a => pR r34a fun l34 r34b => pR r34b fun c34 z34 => pR r34 fun n35 r36 => pR r36 fun v37 r38 => pR r38 fun n39 r40 => pR r40 fun n41 r42 => fB (iLe r42 n35) fun b44 => ifA b44 (w64 (iAdd n41 n39) fun n45 => cl i_slices_symMergeCmpFunc_Taken [AV.s (AS.slice p34 l34 c34 z34), AV.s (AS.int .i64 n41), AV.s (AS.int .i64 n45), AV.s (AS.int .i64 r42), v37] h32 fun r46 h47 => tup0 r46 (w64 (iMul (Int.ofNat 2) n39) fun n48 => w64 (iAdd r42 n48) fun n49 => self33 ((p34, l34, c34, z34), n35, v37, n39, r42, n49) h47)) (w64 (iAdd n41 n39) fun n50 => fB (iLt n50 n35) fun b51 => ifA b51 (cl i_slices_symMergeCmpFunc_Taken [AV.s (AS.slice p34 l34 c34 z34), AV.s (AS.int .i64 n41), AV.s (AS.int .i64 n50), AV.s (AS.int .i64 n35), v37] h32 fun r52 h53 => tup0 r52 (w64 (iMul n39 (Int.ofNat 2)) fun n54 => self22 ((p34, l34, c34, z34), n35, v37, n54) h53)) (w64 (iMul n39 (Int.ofNat 2)) fun n55 => self22 ((p34, l34, c34, z34), n35, v37, n55) h32))) ((p23, l23, c23, z23), n24, v26, r27, (Int.ofNat 0), n30) h21)) (K (AV.tup []) h21)) ((p, n, c, z), Int.ofNat n, .s (.func i_judge_Order_1 [] []), Int.ofNat 20) H1) = true := by
  intro H1 f1 s1
  refine loopX_w (fun x Hx => Hx = H1 ∧ x = ((p, n, c, z), Int.ofNat n, .s (.func i_judge_Order_1 [] []), Int.ofNat 20)) (fun _ => 0) ⟨rfl, rfl⟩ (by omega) ?_
  rintro self2 x Hy ⟨rfl, rfl⟩ _
  simp only [pR_, fB_eq, iLt_dec]
  exact ifA_w (fun h => absurd (of_decide_eq_true h) (by simp only [Int.ofNat_eq_natCast]; omega)) (fun _ => hk _ f1 s1)
 have one : ∀ (K' : AV → AH → Bool), (∀ H1, Fr (ownP p) H H1 → SR 25 H1 p n z ((srtT l).flatMap tkC) → K' (.tup []) H1 = true) → cl i_slices_insertionSortCmpFunc_Taken [.s (.slice p n c z), .s (.int .i64 (Int.ofNat 0)), .s (.int .i64 (Int.ofNat n)), .s (.func i_judge_Order_1 [] [])] H K' = true := by
  intro K' hK'
  rcases Nat.eq_zero_or_pos n with h0 | h0
  ·subst h0
   have hl0 : l = [] := List.length_eq_zero_iff.1 hl
   subst hl0
   exact hinz _ _ _ _ _ 0 _ _ (by omega) (hK' _ (Fr.refl _ _) sr)
  ·obtain ⟨b, rfl, hb, gb⟩ := sr.at h0
   have hz : z = 25 := by
    rcases sr.2 with ⟨h, _⟩ | ⟨_, _, hz, _⟩
    ·omega
    ·exact hz
   subst hz
   refine hins _ _ _ _ _ _ hl h0 (by omega) hb gb fun H1 f1 g1 => hK' H1 (f1.mono fun a e => ⟨0, by rw [e]⟩) ⟨?_, .inr ⟨b, rfl, rfl, f1.has _ hb, g1⟩⟩
   rw [flat_len tkC_len, srtT_len, hl]
 refine loopX_w (fun x Hx => (Hx = H ∧ x = ((p, n, c, z), Int.ofNat n, .s (.func i_judge_Order_1 [] []), Int.ofNat 20, Int.ofNat 0, Int.ofNat 20)) ∨ (n = 20 ∧ Fr (ownP p) H Hx ∧ SR 25 Hx p n z ((srtT l).flatMap tkC) ∧ x = ((p, n, c, z), Int.ofNat n, .s (.func i_judge_Order_1 [] []), Int.ofNat 20, Int.ofNat 20, (40 : Int)))) (fun x => 50 - x.2.2.2.2.2.toNat) (.inl ⟨rfl, rfl⟩) (by simp; omega) ?_
 rintro self x Hx (⟨rfl, rfl⟩ | ⟨h20, fx, sx, rfl⟩) ih
 ·simp only [pR_]
  rw [fB_eq, iLe_dec]
  refine ifA_w (fun h => ?_) (fun _ => ?_)
  ·have h20 : n = 20 := by have := of_decide_eq_true h; simp only [Int.ofNat_eq_natCast] at this; omega
   have := one (fun r15 h16 => tup0 r15 (w64 (iAdd (Int.ofNat 20) (Int.ofNat 20)) fun n17 => self ((p, n, c, z), Int.ofNat n, .s (.func i_judge_Order_1 [] []), Int.ofNat 20, Int.ofNat 20, n17) h16)) fun H1 f1 s1 => by
    rw [tup0_, iAdd_]
    exact w64_w (by decide) (by decide) (ih _ _ (.inr ⟨h20, f1, s1, rfl⟩) (by simp))
   rw [show (Int.ofNat n) = Int.ofNat 20 by rw [h20]] at this
   rw [show (Int.ofNat n) = Int.ofNat 20 by rw [h20]]
   exact this
  ·exact one _ fun H1 f1 s1 => by rw [tup0_]; exact fin H1 f1 s1
 ·simp only [pR_]
  rw [fB_eq, iLe_dec]
  refine ifA_w (fun h => absurd (of_decide_eq_true h) (by simp only [Int.ofNat_eq_natCast]; omega)) (fun _ => ?_)
  have hf := fin Hx fx sx
  have e : (Int.ofNat n) = Int.ofNat 20 := by rw [h20]
  rw [e] at hf ⊢
  exact hinz Hx p n c z 20 _ _ (by omega) (by rw [tup0_]; exact hf)
def CSrtT (cl : Cl) : Prop := ∀ H p n c z (l : List Tkn) K, SR 25 H p n z (l.flatMap tkC) → n ≤ 20 → (∀ H', Fr (ownP p) H H' → SR 25 H' p n z ((srtT l).flatMap tkC) → K (.tup []) H' = true) →
 cl i_slices_SortStableFunc_Taken [.s (.slice p n c z), .s (.func i_judge_Order_1 [] [])] H K = true
theorem B_slices_SortStableFunc_Taken_ {lf : Nat} {cl : Cl} (hst : CStbT cl) {H : AH} {p : AP} {n z : Nat} {c : ACap} {l : List Tkn} {K : AV → AH → Bool} (sr : SR 25 H p n z (l.flatMap tkC)) (hn : n ≤ 20)
  (hk : ∀ H', Fr (ownP p) H H' → SR 25 H' p n z ((srtT l).flatMap tkC) → K (.tup []) H' = true) : B_slices_SortStableFunc_Taken lf cl p n c z (.s (.func i_judge_Order_1 [] [])) H K = true := by
 unfold B_slices_SortStableFunc_Taken
 exact hst _ _ _ _ _ _ _ sr hn fun H1 f1 g1 => by rw [tup0_]; exact hk _ f1 g1
def COrdG (cl : Cl) : Prop := ∀ H g s O K, RgS H g s O → s.order.length ≤ 1000000 → (∀ H' p c z, Le H H' → SR 25 H' p s.order.length z (s.order.flatMap tkC) → (∀ a, ownP p a → ¬ H.has a) → K (.s (.slice p s.order.length c z)) H' = true) → cl i_region_Region_Order [.s (.ptr (.at g 0))] H K = true
theorem W_region_OrderG_ {lf : Nat} {cl : Cl} (hck : CCl 25 i_slices_Clone_Taken cl) {H : AH} {g : Pn} {s : RgSt} {O : Pn → Prop} {K : AV → AH → Bool} (rg : RgS H g s O) (hl : s.order.length ≤ 1000000)
  (hk : ∀ H' p c z, Le H H' → SR 25 H' p s.order.length z (s.order.flatMap tkC) → (∀ a, ownP p a → ¬ H.has a) → K (.s (.slice p s.order.length c z)) H' = true) : B_region_Region_Order lf cl (.at g 0) H K = true := by
 obtain ⟨f, Q, rb, hg, gg, q0, ho⟩ := rg
 obtain ⟨p, c, z, e38, _, sr⟩ := rb.s38
 unfold B_region_Region_Order
 simp only [nilK_at, fN_eq, Nat.add_eq, Nat.zero_add, Nat.add_zero]
 refine rowK_w gg (ldSl_w (by rw [c48_get _ (by decide), e38]) ?_)
 refine hck _ _ _ _ _ _ _ sr hl fun H' p' c' z' h' sr' _ fr' => ?_
 rw [asSl_]
 exact hk _ _ _ _ h' sr' fr'
def ooL (a b : List Tkn) (i : Nat) : List Tkn := if i = 0 then [] else if i = 1 then a else a ++ b
def CJOrder2 (cl : Cl) : Prop := ∀ H g ga sa Oa gb sb Ob K, H.get g = some (.row [.ptr (.at ga 0), .ptr (.at gb 0)]) → H.has g → RgS H ga sa Oa → RgS H gb sb Ob → sa.order.length + sb.order.length ≤ 20 →
 (∀ H' p c z, Le H H' → SR 25 H' p (sa.order ++ sb.order).length z ((srtT (sa.order ++ sb.order)).flatMap tkC) → K (.s (.slice p (sa.order ++ sb.order).length c z)) H' = true) → cl i_judge_Order [.s (.slice (.at g 0) 2 (.lit 2) 1)] H K = true
theorem W_judge_Order2_ {lf : Nat} {cl : Cl} (hlf : 10 ≤ lf) (hord : COrdG cl) (hsrt : CSrtT cl) {H : AH} {g ga gb : Pn} {sa sb : RgSt} {Oa Ob : Pn → Prop} {K : AV → AH → Bool} (gg : H.get g = some (.row [.ptr (.at ga 0), .ptr (.at gb 0)])) (hg : H.has g) (ra : RgS H ga sa Oa) (rb : RgS H gb sb Ob) (hn : sa.order.length + sb.order.length ≤ 20)
  (hk : ∀ H' p c z, Le H H' → SR 25 H' p (sa.order ++ sb.order).length z ((srtT (sa.order ++ sb.order)).flatMap tkC) → K (.s (.slice p (sa.order ++ sb.order).length c z)) H' = true) : B_judge_Order lf cl (.at g 0) 2 (.lit 2) 1 H K = true := by
 unfold B_judge_Order
 refine loopX_w (fun x Hx => ∃ (i : Nat) (p : AP) (c : ACap) (z : Nat), x = ((p, (ooL sa.order sb.order i).length, c, z), (.at g 0, 2, .lit 2, 1), (2 : Int), (i : Int)) ∧ i ≤ 2 ∧ Le H Hx ∧ SR 25 Hx p (ooL sa.order sb.order i).length z ((ooL sa.order sb.order i).flatMap tkC) ∧ CapOk c (ooL sa.order sb.order i).length ∧ (∀ a, ownP p a → ¬ H.has a)) (fun x => 2 - x.2.2.2.toNat)
  ⟨0, .nil, .lit 0, 1, rfl, by omega, Le.refl _, SR.nil, Nat.le_refl 0, fun a ⟨o, e⟩ => (by cases e)⟩ (by simp; omega) ?_
 rintro self x Hx ⟨i, p, c, z, rfl, hi, hL, sr, hc, fo⟩ ih
 simp only [pR_, fB_eq, iLt_dec, nilK_at, fN_eq, Nat.add_eq, Nat.mul_eq, Nat.zero_add, Nat.mul_one]
 have ggx := (hL.get _ hg).trans gg
 refine ifA_w (fun hx => ?_) (fun hx => ?_)
 ·have hx : i < 2 := by have := of_decide_eq_true hx; omega
  refine idxK_w (by omega) (by omega) ?_
  rw [Int.toNat_natCast]
  have step : ∀ (gr : Pn) (s : RgSt) (O : Pn → Prop) (K' : AV → AH → Bool), RgS H gr s O → ooL sa.order sb.order (i + 1) = ooL sa.order sb.order i ++ s.order → s.order.length ≤ 20 →
    cl i_region_Region_Order [AV.s (AS.ptr (.at gr 0))] Hx (fun r16 h17 => asSl r16 fun p18 l18 c18 z18 => elK h17 p18 l18 25 fun ys19 => appA h17 p (ooL sa.order sb.order i).length z 25 240 ys19 l18 c fun p21 l21 c21 z21 h20 => w64 (iAdd (i : Int) (Int.ofNat 1)) fun n22 => self ((p21, l21, c21, z21), (.at g 0, 2, .lit 2, 1), (2 : Int), n22) h20) = true := by
   intro gr s O K' rg e hs
   refine hord _ _ _ _ _ (rg.le hL) (by omega) fun H1 p1 c1 z1 h1 s1 f1 => ?_
   rw [asSl_]
   refine s1.el ?_
   have hlen : (ooL sa.order sb.order (i + 1)).length = (ooL sa.order sb.order i).length + s.order.length := by rw [e, List.length_append]
   have hb : (ooL sa.order sb.order i).length ≤ 20 := by
    unfold ooL
    split
    ·exact Nat.zero_le _
    ·split
     ·omega
     ·rw [List.length_append]; exact hn
   refine appT_w (sr.le h1) hc (m := s.order.length) (by rw [flat_len tkC_len]) (by omega) (by omega) fun p2 c2 z2 H2 f2 s2 k2 o2 => ?_
   rw [iAdd_]
   have hL2 : Le H H2 := ⟨fun a h => f2.has _ (h1.has _ (hL.has _ h)), fun a h => (f2.get a (h1.has _ (hL.has _ h)) fun h' => fo a h' h).trans ((h1.get a (hL.has _ h)).trans (hL.get a h))⟩
   refine w64_w (by simp only [Int.ofNat_eq_natCast]; omega) (by simp only [Int.ofNat_eq_natCast]; omega) (ih _ _ ⟨i + 1, p2, c2, z2, by rw [hlen]; simp, by omega, hL2, ?_, by rw [hlen]; exact k2, fun a h h' => (o2 a h).elim (fun e => fo a e h') fun e => e (h1.has _ (hL.has _ h'))⟩ (by simp; omega))
   rw [hlen, e, List.flatMap_append]
   exact s2
  rcases (show i = 0 ∨ i = 1 by omega) with rfl | rfl
  ·refine rowK_w ggx (ldP_w (p := .at ga 0) rfl ?_)
   exact step ga sa Oa K ra rfl (by omega)
  ·refine rowK_w ggx (ldP_w (p := .at gb 0) rfl ?_)
   exact step gb sb Ob K rb rfl (by omega)
 ·have hx : i = 2 := by have := of_decide_eq_false hx; omega
  subst hx
  have sr2 : SR 25 Hx p (sa.order ++ sb.order).length z ((sa.order ++ sb.order).flatMap tkC) := sr
  refine hsrt _ _ _ _ _ (sa.order ++ sb.order) _ sr2 (show (sa.order ++ sb.order).length ≤ 20 by rw [List.length_append]; exact hn) fun H1 f1 s1 => ?_
  rw [tup0_]
  exact hk _ _ _ _ ⟨fun a h => f1.has _ (hL.has _ h), fun a h => (f1.get a (hL.has _ h) fun h' => fo a h' h).trans (hL.get a h)⟩ s1
end Go.Proofs
end
section
namespace Go.Proofs
open Go Go.Vw Go.Vw.Ev
set_option linter.unusedVariables false
set_option linter.unusedSimpArgs false
structure NS (me k : Int) (p : Pt) (i live : Nat) (s : RgSt) : Prop where
 id : s.id = me
 given : s.given = i
 t0 : 0 ≤ s.took
 t1 : s.took ≤ 2 * i
 ow : s.ow = owInit k
 h1 : s.hands = []
 h2 : s.last.hands = []
 ol : s.order.length ≤ 2 * i
 len : s.th.length = live
 pt : ∀ j t, aGet s.th j = some t → t.pt = p
 lt : ∀ j ∈ aKeys s.th, j < 4 * i
 li : live ≤ i
theorem owInit_at {k : Int} {c : Nat} (hc : c < 16) : owAt (owInit k) c = (Int.tmod c k, 0) := by
 unfold owAt owInit
 rw [if_pos (isC_iff.2 ⟨by omega, by omega⟩), Int.toNat_natCast]
 simp [hc]
end Go.Proofs
end
section
namespace Go.Proofs
open Go Go.Vw Go.Vw.Ev
set_option linter.unusedVariables false
set_option linter.unusedSimpArgs false
structure Sx (s : RgSt) (id n beat : Int) (th : List (Int × Th)) (was : List Th) (last : Nt) (k : Nat) : Prop where
 ow : s.ow = owInit n
 id : s.id = id
 n : s.n = n
 beat : s.beat = beat
 th : s.th = th
 was : s.was = was
 last : s.last = last
 h : s.hands = []
 w : s.watch = []
 off : ∀ w ∈ s.wat, w.on = false
 t0 : 0 ≤ s.took
 tk : s.took ≤ k
 g0 : 0 ≤ s.given
 g1 : s.given ≤ k
 ol : s.order.length ≤ k
theorem Sx.sm {s : RgSt} {id n beat : Int} {th : List (Int × Th)} {was : List Th} {last : Nt} {k : Nat} (x : Sx s id n beat th was last k) (hk : k ≤ 1000) (hl : th.length < 9000) (hh : last.hands = []) : Sm s :=
 ⟨by rw [x.th]; exact hl, x.g0, by have := x.g1; omega, by rw [x.h]; decide, by rw [x.last, hh]; decide, by have := x.ol; omega, x.t0⟩
theorem Sx.quiet {s : RgSt} {id n beat : Int} {th : List (Int × Th)} {was : List Th} {last : Nt} {k : Nat} (x : Sx s id n beat th was last k) : Quiet s := ⟨x.h, x.w, x.off⟩
theorem Sx.new {id n : Int} (hn : clamp4 n = n) (hi : 0 ≤ id ∧ id < n) : Sx (newS id n) id n 0 [] [] nt0 0 :=
 ⟨by show owInit (clamp4 n) = _; rw [hn], by show min (max id 0) (clamp4 n - 1) = id; rw [hn]; omega, hn, rfl, rfl, rfl, rfl, rfl, rfl, fun w hw => by
  have : w = wt0 := List.eq_of_mem_replicate hw
  rw [this]; rfl, Int.le_refl _, Int.le_refl _, Int.le_refl _, Int.le_refl _, Nat.le_refl _⟩
theorem Sx.has {s : RgSt} {id n beat : Int} {th : List (Int × Th)} {was : List Th} {last : Nt} {k : Nat} (x : Sx s id n beat th was last k) {c : Nat} (hc : c < 16) : hasB s c = decide (Int.tmod c n = id) := by
 unfold hasB
 rw [x.ow, owInit_at hc, x.id, isC_iff.2 ⟨by omega, by omega⟩, Bool.true_and]
theorem take_ok {s : RgSt} {c : Cm} (h : takeE s c = 0) : takeI s c = (if c.kind = 1 then putN s else c.id) ∧
  takeS s c = upS (if c.kind = 1 then { s with th := aSet s.th (putN s) (putT c (putN s)), given := s.given + 1 } else { s with th := doneL s.th c 0 }) (if c.kind = 1 then putN s else c.id) c := by
 have hd : doesE s c = 0 := by
  unfold takeE at h
  split at h
  ·cases h
  ·split at h
   ·cases h
   ·exact h
 have e1 : doesI s c = (if c.kind = 1 then putN s else c.id) := by unfold doesI; rw [if_neg (fun e => e hd)]
 have e2 : doesS s c = (if c.kind = 1 then { s with th := aSet s.th (putN s) (putT c (putN s)), given := s.given + 1 } else { s with th := doneL s.th c 0 }) := by unfold doesS; rw [if_neg (fun e => e hd)]
 exact ⟨by unfold takeI; rw [if_neg (fun e => e h), e1], by unfold takeS; rw [if_neg (fun e => e h), e1, e2]⟩
theorem Sx.take {s : RgSt} {id n beat : Int} {th : List (Int × Th)} {was : List Th} {last : Nt} {k : Nat} (x : Sx s id n beat th was last k) {c : Cm} (h : takeE s c = 0) :
  Sx (takeS s c) id n beat (if c.kind = 1 then aSet th (putN s) (putT c (putN s)) else doneL th c 0) was last (k + 1) := by
 rw [(take_ok h).2]
 have t0 := x.t0
 have tk := x.tk
 have g0 := x.g0
 have g1 := x.g1
 have ol := x.ol
 by_cases hk : c.kind = 1
 ·rw [if_pos hk, if_pos hk]
  exact ⟨x.ow, x.id, x.n, x.beat, by show aSet s.th _ _ = _; rw [x.th, if_pos hk], x.was, x.last, x.h, x.w, x.off, by show 0 ≤ s.took + 1; omega, by show s.took + 1 ≤ _; omega, by show 0 ≤ s.given + 1; omega, by show s.given + 1 ≤ _; omega, by show (s.order ++ [_]).length ≤ _; rw [List.length_append, List.length_singleton]; omega⟩
 ·rw [if_neg hk, if_neg hk]
  exact ⟨x.ow, x.id, x.n, x.beat, by show doneL s.th _ _ = _; rw [x.th, if_neg hk], x.was, x.last, x.h, x.w, x.off, by show 0 ≤ s.took + 1; omega, by show s.took + 1 ≤ _; omega, g0, by show s.given ≤ _; omega, by show (s.order ++ [_]).length ≤ _; rw [List.length_append, List.length_singleton]; omega⟩
theorem take_no {s : RgSt} {c : Cm} (h : takeE s c ≠ 0) : takeS s c = s := by unfold takeS; rw [if_pos h]
theorem Sx.done {s : RgSt} {id n beat : Int} {th : List (Int × Th)} {was : List Th} {last : Nt} {k : Nat} (x : Sx s id n beat th was last k) (nts : List Nt) {go : List Th} (hg : goneL { s with th := layT s.th (comesL s nts) } = go) :
  Sx (endS s nts) id n (beat + 1) (dropT (layT th (comesL s nts)) go) ((allT (dropT (layT th (comesL s nts)) go)).map (thOf (dropT (layT th (comesL s nts)) go))) ⟨id, beat, go, [], [], []⟩ k := by
 unfold endS leavesS
 rw [hg, x.th]
 have g1 := x.g1
 have ol := x.ol
 refine ⟨x.ow, x.id, x.n, by show s.beat + 1 = _; rw [x.beat], rfl, rfl, ?_, rfl, rfl, x.off, Int.le_refl _, by show (0 : Int) ≤ k; omega, x.g0, g1, ol⟩
 show (⟨s.id, s.beat, go, s.hands, [], s.watch⟩ : Nt) = _
 rw [x.id, x.beat, x.h, x.w]
structure CS (H0 H : AH) (ga : Pn) (sa : RgSt) (Oa : Pn → Prop) (gb : Pn) (sb : RgSt) (Ob : Pn → Prop) (P : Pn → Prop) : Prop where
 le : Le H0 H
 a : RgS H ga sa Oa
 b : RgS H gb sb Ob
 an : ∀ x, Oa x → ¬ H0.has x
 bn : ∀ x, Ob x → ¬ H0.has x
 ap : ∀ x, Oa x → ¬ Ob x
 kp : ∀ x, P x → H.has x ∧ ¬ Oa x ∧ ¬ Ob x
section
variable {H0 H H' : AH} {ga gb : Pn} {sa sb s' : RgSt} {Oa Ob O' P P' : Pn → Prop}
theorem CS.le' (c : CS H0 H ga sa Oa gb sb Ob P) (k : Le H H') : CS H0 H' ga sa Oa gb sb Ob P := ⟨c.le.trans k, c.a.le k, c.b.le k, c.an, c.bn, c.ap, fun x h => ⟨k.has _ (c.kp x h).1, (c.kp x h).2⟩⟩
theorem CS.opA (c : CS H0 H ga sa Oa gb sb Ob P) (f : Fr Oa H H') (r : RgS H' ga s' O') (o : ∀ x, O' x → Oa x ∨ ¬ H.has x) : CS H0 H' ga s' O' gb sb Ob P :=
 ⟨⟨fun x h => f.has x (c.le.has x h), fun x h => (f.get x (c.le.has x h) fun h' => c.an x h' h).trans (c.le.get x h)⟩, r, c.b.fr f fun x h h' => c.ap x h' h, fun x h h' => (o x h).elim (fun e => c.an x e h') fun e => e (c.le.has x h'), c.bn,
  fun x h h' => (o x h).elim (fun e => c.ap x e h') fun e => e (c.b.has x h'), fun x h => ⟨f.has _ (c.kp x h).1, fun h' => (o x h').elim (c.kp x h).2.1 fun e => e (c.kp x h).1, (c.kp x h).2.2⟩⟩
theorem CS.opB (c : CS H0 H ga sa Oa gb sb Ob P) (f : Fr Ob H H') (r : RgS H' gb s' O') (o : ∀ x, O' x → Ob x ∨ ¬ H.has x) : CS H0 H' ga sa Oa gb s' O' P :=
 ⟨⟨fun x h => f.has x (c.le.has x h), fun x h => (f.get x (c.le.has x h) fun h' => c.bn x h' h).trans (c.le.get x h)⟩, c.a.fr f fun x h h' => c.ap x h h', r, c.an, fun x h h' => (o x h).elim (fun e => c.bn x e h') fun e => e (c.le.has x h'),
  fun x h h' => (o x h').elim (fun e => c.ap x h e) fun e => e (c.a.has x h), fun x h => ⟨f.has _ (c.kp x h).1, (c.kp x h).2.1, fun h' => (o x h').elim (c.kp x h).2.2 fun e => e (c.kp x h).1⟩⟩
theorem CS.add (c : CS H0 H ga sa Oa gb sb Ob P) (h : ∀ x, P' x → H.has x ∧ ¬ Oa x ∧ ¬ Ob x) : CS H0 H ga sa Oa gb sb Ob (fun x => P x ∨ P' x) := { c with kp := fun x hx => hx.elim (c.kp x) (h x) }
theorem CS.gA (c : CS H0 H ga sa Oa gb sb Ob P) (f : Fr Oa H H') {x : Pn} (hx : P x) : H'.get x = H.get x := f.get x (c.kp x hx).1 (c.kp x hx).2.1
end
end Go.Proofs
end
section
namespace Go.Proofs
open Go Go.Vw Go.Vw.Ev
set_option linter.unusedVariables false
set_option linter.unusedSimpArgs false
def T1 (to : Pt) : Th := ⟨0, to, fdZ, fdZ, fdZ, fdZ⟩
def T2 (to : Pt) (v : Int) : Th := ⟨0, to, ⟨v, []⟩, fdZ, fdZ, fdZ⟩
structure ToOk (to : Pt) : Prop where
 x0 : 16 ≤ to.x
 x1 : to.x < 32
 y0 : 0 ≤ to.y
 y1 : to.y < 16
theorem quiet0 (src beat : Int) : QuietN ⟨src, beat, [], [], [], []⟩ := ⟨rfl, rfl, rfl, fun t h => by cases h⟩
theorem sm0 (src beat : Int) : SmN ⟨src, beat, [], [], [], []⟩ := ⟨by show (0 : Nat) < 1000; decide, by show (0 : Nat) < 1000; decide, by show (0 : Nat) < 1000; decide, by show (0 : Nat) < 1000; decide⟩
end Go.Proofs
end
section
namespace Go.Proofs
open Go Go.Vw Go.Vw.Ev
set_option linter.unusedVariables false
set_option linter.unusedSimpArgs false
def InI (H : AH) (p : AP) (n : Nat) (k : IntKind) (xs : List Int) : Prop := xs.length = n ∧ (n ≠ 0 → ∃ g, p = .at g 0 ∧ H.has g ∧ H.get g = some (.fix (xs.map (AS.int k))))
theorem sl_int (k : IntKind) : ∀ (n : Nat) (cs : List AS), LeavesV (List.replicate n [Leaf.int k]).flatten cs → ∃ l : List Int, cs = l.map (AS.int k) ∧ l.length = n ∧ ∀ x ∈ l, (Lit.int k x).wf = true
 | 0, [], _ => ⟨[], rfl, rfl, fun x h => (by cases h)⟩
 | 0, _ :: _, h => h.elim
 | n + 1, [], h => h.elim
 | n + 1, x :: r, h => by
  obtain ⟨h1, h4⟩ := h
  cases x <;> first | exact h1.elim | skip
  obtain ⟨l, rfl, hl, hw⟩ := sl_int k n r h4
  obtain ⟨rfl, hx⟩ := h1
  refine ⟨_ :: l, rfl, by simp [hl], fun y hy => ?_⟩
  rcases List.mem_cons.1 hy with rfl | hy
  ·exact hx
  ·exact hw y hy
theorem sl_u8 (n : Nat) (cs : List AS) (h : LeavesV (List.replicate n [Leaf.int .u8]).flatten cs) : ∃ l : List Int, cs = l.map (AS.int .u8) ∧ l.length = n ∧ ∀ x ∈ l, 0 ≤ x ∧ x ≤ 255 := by
 obtain ⟨l, h1, h2, h3⟩ := sl_int .u8 n cs h
 exact ⟨l, h1, h2, fun x hx => Go.bounds_u8 (h3 x hx)⟩
end Go.Proofs
end
section
namespace Go.Proofs
open Go Go.Vw Go.Vw.Ev
set_option linter.unusedVariables false
set_option linter.unusedSimpArgs false
set_option maxRecDepth 100000
structure Cw (s : RgSt) (id n beat : Int) (i : Nat) : Prop where
 x : Sx s id n beat s.th s.was s.last i
 g : ∀ k t, aGet s.th k = some t → GoodT t ∧ t.id = k ∧ k < 4 * s.given
 nod : (aKeys s.th).Nodup
 was : ∀ t ∈ s.was, GoodT t
 wl : s.was.length ≤ i
 ol : s.order.length = s.th.length
theorem Sx.mono {s : RgSt} {id n beat : Int} {th : List (Int × Th)} {was : List Th} {last : Nt} {k k' : Nat} (x : Sx s id n beat th was last k) (h : k ≤ k') : Sx s id n beat th was last k' :=
 {x with tk := by have := x.tk; omega, g1 := by have := x.g1; omega, ol := by have := x.ol; omega }
theorem Sx.self {s : RgSt} {id n beat : Int} {th : List (Int × Th)} {was : List Th} {last : Nt} {k : Nat} (x : Sx s id n beat th was last k) : Sx s id n beat s.th s.was s.last k := { x with th := rfl, was := rfl, last := rfl }
theorem Cw.mono {s : RgSt} {id n beat : Int} {i j : Nat} (c : Cw s id n beat i) (h : i ≤ j) : Cw s id n beat j := { c with x := c.x.mono h, wl := by have := c.wl; omega }
theorem Cw.new {id n : Int} (hn : clamp4 n = n) (hi : 0 ≤ id ∧ id < n) : Cw (newS id n) id n 0 0 :=
 ⟨Sx.new hn hi, fun k t h => (by cases h), List.nodup_nil, fun t h => (by cases h), Nat.le_refl _, rfl⟩
theorem Cw.th_le {s : RgSt} {id n beat : Int} {i : Nat} (c : Cw s id n beat i) : s.th.length ≤ i := by have := c.x.ol; have := c.ol; omega
theorem Cw.put {s : RgSt} {id n beat : Int} {i : Nat} (c : Cw s id n beat i) (hi : i < 1000) (hid : 0 ≤ id ∧ id ≤ 3) {p : Pt} (hp : On p = true) : Cw (takeS s (putC p)) id n beat (i + 1) := by
 by_cases he : takeE s (putC p) = 0
 ·have x := c.x.take he
  rw [if_pos (show (putC p).kind = 1 from rfl)] at x
  have e := (take_ok he).2
  rw [if_pos (show (putC p).kind = 1 from rfl), if_pos (show (putC p).kind = 1 from rfl)] at e
  have g0 := c.x.g0
  have g1 := c.x.g1
  have hN : putN s = 4 * s.given + id := by unfold putN numE; rw [c.x.id]; omega
  have hno : putN s ∉ aKeys s.th := fun h => by
   rw [mem_get] at h
   obtain ⟨t, et⟩ := Option.isSome_iff_exists.1 h
   have := (c.g _ t et).2.2
   omega
  have hk := aKeys_set_new s.th (putT (putC p) (putN s)) hno
  have hlen : (aSet s.th (putN s) (putT (putC p) (putN s))).length = s.th.length + 1 := by
   have := congrArg List.length hk
   simpa [aKeys] using this
  have eth : (takeS s (putC p)).th = aSet s.th (putN s) (putT (putC p) (putN s)) := by rw [e]; rfl
  refine ⟨?_, ?_, ?_, ?_, ?_, ?_⟩
  ·rw [eth]; rw [e] at x ⊢; exact x
  ·rw [eth]
   intro k t h
   have eg : (takeS s (putC p)).given = s.given + 1 := by rw [e]; rfl
   rw [eg]
   by_cases ek : k = putN s
   ·subst ek
    rw [aGet_set_same] at h
    cases h
    exact ⟨⟨hp, by show 0 ≤ putN s; omega, by show putN s ≤ 1000000; omega⟩, rfl, by omega⟩
   ·rw [aGet_set_ne _ _ ek] at h
    obtain ⟨h1, h2, h3⟩ := c.g k t h
    exact ⟨h1, h2, by omega⟩
  ·rw [eth, hk]
   exact List.nodup_append.2 ⟨c.nod, by simp, fun a ha b hb => by rw [List.mem_singleton] at hb; subst hb; exact fun e => hno (e ▸ ha)⟩
  ·rw [e]; exact c.was
  ·rw [e]; have := c.wl; show s.was.length ≤ _; omega
  ·rw [eth, hlen, e]
   show (s.order ++ [_]).length = _
   rw [List.length_append, List.length_singleton, c.ol]
 ·rw [take_no he]
  exact c.mono (by omega)
theorem Cw.sm {s : RgSt} {id n beat : Int} {i : Nat} (c : Cw s id n beat i) (hi : i < 1000) (hh : s.last.hands = []) : Sm s := c.x.sm (by omega) (by have := c.th_le; omega) hh
theorem all_key {L : List (Int × Th)} {k : Int} (h : k ∈ allT L) : ∃ t, aGet L k = some t ∧ thOf L k = t := by
 have := (srtI_perm _).mem_iff.1 h
 rw [mem_get] at this
 obtain ⟨t, et⟩ := Option.isSome_iff_exists.1 this
 exact ⟨t, et, by unfold thOf; rw [et]; rfl⟩
theorem Cw.good {s : RgSt} {id n beat : Int} {i : Nat} (c : Cw s id n beat i) : ∀ k ∈ allT s.th, GoodT (thOf s.th k) := fun k h => by
 obtain ⟨t, et, e⟩ := all_key h
 rw [e]
 exact (c.g k t et).1
theorem onCell {p : Pt} (h : On p = true) : ∃ c : Nat, c < 16 ∧ ofC p = (c : Nat) := by
 have := cellOf_b h
 exact ⟨(cellOf p).toNat, by omega, by unfold ofC; rw [if_pos h]; omega⟩
structure L1 (s : RgSt) : Prop where
 h : (s.beat = 0 ∧ s.last = nt0) ∨ (0 < s.beat ∧ s.last = ⟨0, s.beat - 1, [], [], [], []⟩)
structure CI (H0 Hx : AH) (ga gb : Pn) (K : Int) (i : Nat) : Prop where
 le : Le H0 Hx
 a : ∃ s O, RgS Hx ga s O ∧ Cw s 0 1 (i : Int) i ∧ L1 s ∧ (∀ x, O x → ¬ H0.has x) ∧ ∃ P kl L, RbV P Hx gb (if K < i then K else 0) kl L ∧ (∀ x, P x → Hx.has x ∧ ¬ O x) ∧ kl = L.length ∧ ((kl : Nat) : Int) ≤ (if K < i then K else 0)
end Go.Proofs
end
section
namespace Go.Proofs
open Go Go.Vw Go.Vw.Ev
set_option linter.unusedVariables false
set_option linter.unusedSimpArgs false
set_option maxRecDepth 100000
def ltR (a b : Tkn) : Prop := a.beat < b.beat ∨ (a.beat = b.beat ∧ (a.srv < b.srv ∨ (a.srv = b.srv ∧ a.id < b.id)))
theorem ltR_trans {a b c : Tkn} (h : ltR a b) (k : ltR b c) : ltR a c := by unfold ltR at *; omega
theorem cT_lt {a b : Tkn} : cT a b < 0 ↔ a.beat < b.beat ∨ (a.beat = b.beat ∧ a.srv < b.srv) := by
 unfold cT orI cmpI
 by_cases h1 : a.beat < b.beat
 ·simp [h1]
 ·by_cases h2 : b.beat < a.beat
  ·have : ¬ a.beat = b.beat := by omega
   simp [h1, h2, this]
  ·have h3 : a.beat = b.beat := by omega
   by_cases h4 : a.srv < b.srv
   ·simp [h3, h4]
   ·by_cases h5 : b.srv < a.srv
    ·simp [h3, h4, h5]
    ·simp [h3, h4, h5]
theorem insT_perm (x : Tkn) : ∀ l : List Tkn, (insT x l).Perm (x :: l)
 | [] => List.Perm.refl _
 | y :: r => by
  unfold insT
  split
  ·exact ((insT_perm x r).cons y).trans (List.Perm.swap x y r)
  ·exact List.Perm.refl _
theorem srtRvT_perm : ∀ (l acc : List Tkn), (srtRvT acc l).Perm (acc ++ l)
 | [], acc => by rw [srtRvT, List.append_nil]
 | x :: r, acc => by
  rw [srtRvT]
  refine (srtRvT_perm r (insT x acc)).trans (((insT_perm x acc).append_right r).trans ?_)
  exact (List.perm_middle (a := x) (l₁ := acc) (l₂ := r)).symm
theorem srtT_perm (l : List Tkn) : (srtT l).Perm l := by
 unfold srtT
 exact (List.reverse_perm _).trans (by simpa using srtRvT_perm l [])
def St (l : List Tkn) : Prop := l.Pairwise fun a b => a.beat = b.beat → a.srv = b.srv → a.id < b.id
theorem insT_sorted {x : Tkn} : ∀ {l : List Tkn}, l.Pairwise (fun y z => ltR z y) → (∀ y ∈ l, y.beat = x.beat → y.srv = x.srv → y.id < x.id) → (insT x l).Pairwise fun y z => ltR z y
 | [], _, _ => List.pairwise_singleton _ _
 | y :: r, h, hx => by
  rw [List.pairwise_cons] at h
  unfold insT
  split
  ·rename_i hlt
   have hlt := cT_lt.1 hlt
   refine List.pairwise_cons.2 ⟨fun z hz => ?_, insT_sorted h.2 fun z hz => hx z (List.mem_cons_of_mem _ hz)⟩
   rcases List.mem_cons.1 ((insT_perm x r).mem_iff.1 hz) with rfl | hz
   ·unfold ltR; omega
   ·exact h.1 z hz
  ·rename_i hlt
   have hlt : ¬ (x.beat < y.beat ∨ (x.beat = y.beat ∧ x.srv < y.srv)) := fun e => hlt (cT_lt.2 e)
   have hy := hx y (List.mem_cons_self ..)
   have hyx : ltR y x := by
    unfold ltR
    by_cases e1 : y.beat = x.beat
    ·by_cases e2 : y.srv = x.srv
     ·have := hy e1 e2; omega
     ·omega
    ·omega
   refine List.pairwise_cons.2 ⟨fun z hz => ?_, List.pairwise_cons.2 h⟩
   rcases List.mem_cons.1 hz with rfl | hz
   ·exact hyx
   ·exact ltR_trans (h.1 z hz) hyx
theorem srtRvT_sorted : ∀ {l acc : List Tkn}, acc.Pairwise (fun y z => ltR z y) → St l → (∀ y ∈ acc, ∀ x ∈ l, y.beat = x.beat → y.srv = x.srv → y.id < x.id) → (srtRvT acc l).Pairwise fun y z => ltR z y
 | [], acc, h, _, _ => h
 | x :: r, acc, h, hs, hx => by
  rw [srtRvT]
  unfold St at hs
  rw [List.pairwise_cons] at hs
  refine srtRvT_sorted (insT_sorted h fun y hy => hx y hy x (List.mem_cons_self ..)) hs.2 fun y hy z hz => ?_
  rcases List.mem_cons.1 ((insT_perm x acc).mem_iff.1 hy) with rfl | hy
  ·exact hs.1 z hz
  ·exact hx y hy z (List.mem_cons_of_mem _ hz)
theorem srtT_sorted {l : List Tkn} (h : St l) : (srtT l).Pairwise ltR := by
 unfold srtT
 rw [List.pairwise_reverse]
 exact srtRvT_sorted List.Pairwise.nil h fun y hy => by cases hy
structure PutT (t : Tkn) : Prop where
 c : ∃ p, On p = true ∧ t.c = putC p
 i0 : 0 ≤ t.id
 i1 : t.id ≤ 1000000
 bt : t.beat ≤ 5
theorem aSet_newO {β : Type} : ∀ {l : List (Int × β)} {k : Int} {v : β}, k ∉ aKeys l → aSet l k v = l ++ [(k, v)]
 | [], _, _, _ => rfl
 | (j, w) :: r, k, v, h => by
  have h1 : j ≠ k := fun e => h (by simp [aKeys, e])
  have h2 : k ∉ aKeys r := fun e => h (by simp only [aKeys, List.map_cons, List.mem_cons] at e ⊢; exact .inr e)
  have := aSet_newO (v := v) h2
  simp [aSet, h1, this]
theorem wT_all : ∀ (l : List Tkn) (L : List (Int × Th)), (∀ t ∈ l, PutT t) → (aKeys L ++ l.map (·.id)).Nodup → L.length + l.length < 200 → (l.foldl (fun L t => wL L t.c t.id) L).length = L.length + l.length
 | [], L, _, _, _ => rfl
 | t :: r, L, hp, hn, hl => by
  have ht := hp t (List.mem_cons_self ..)
  obtain ⟨p, hon, ec⟩ := ht.c
  have hl' : L.length + (r.length + 1) < 200 := hl
  have hno : t.id ∉ aKeys L := fun h => by
   have := (List.nodup_append.1 hn).2.2 t.id h t.id (by simp)
   exact this rfl
  have hw : wL L t.c t.id = L ++ [(t.id, putT (putC p) t.id)] := by
   rw [ec, (wdo_put hon (by omega) ht.i0 ht.i1 (by rw [aGet_none.2 hno]; rfl)).2, aSet_newO hno]
  rw [List.foldl_cons, hw, wT_all r _ (fun u hu => hp u (List.mem_cons_of_mem _ hu)) ?_ (by rw [List.length_append]; show L.length + 1 + r.length < 200; omega)]
  ·rw [List.length_append]; show L.length + 1 + r.length = L.length + (r.length + 1); omega
  ·have e : aKeys (L ++ [(t.id, putT (putC p) t.id)]) ++ r.map (·.id) = aKeys L ++ (t :: r).map (·.id) := by simp [aKeys]
   rw [e]; exact hn
theorem world_all {l : List Tkn} (hp : ∀ t ∈ l, PutT t) (hn : (l.map (·.id)).Nodup) (hl : l.length < 200) : (allT (worldJ l 5)).length = l.length := by
 have e : l.filter (keepJ 5) = l := List.filter_eq_self.2 fun t ht => by
  have := hp t ht
  obtain ⟨p, _, ec⟩ := this.c
  have hb := this.bt
  unfold keepJ
  rw [ec, show watB (putC p) = false from rfl, show decide ((putC p).kind = 5) = false from rfl, show decide ((5 : Int) < t.beat) = false from decide_eq_false (by omega)]
  rfl
 unfold worldJ
 rw [e, allT_len]
 have := wT_all l [] hp (by simpa [aKeys] using hn) (by simpa using hl)
 simpa [wT] using this
structure Jo (s : RgSt) (me beat : Int) (i : Nat) : Prop where
 cw : Cw s me 2 beat i
 own : ∀ k t, aGet s.th k = some t → hasB s (ofC t.pt) = true
 lh : s.last.hands = []
 ord : ∀ t ∈ s.order, t.beat ≤ beat ∧ t.srv = me ∧ (∃ p, On p = true ∧ t.c = putC p) ∧ ∃ j : Int, 0 ≤ j ∧ j < s.given ∧ t.id = 4 * j + me
 inc : s.order.Pairwise fun a b => a.id < b.id
theorem Jo.new {me : Int} (h : 0 ≤ me ∧ me < 2) : Jo (newS me 2) me 0 0 :=
 ⟨Cw.new (by decide) h, fun k t h => (by cases h), rfl, fun t h => (by cases h), List.Pairwise.nil⟩
theorem put_mine {s : RgSt} {p : Pt} (h : takeE s (putC p) = 0) : mineB s (ofC p) = true := by
 cases hm : mineB s (ofC p) with
 | true => rfl
 | false =>
  exfalso
  unfold takeE at h
  split at h
  ·cases h
  ·split at h
   ·cases h
   ·unfold doesE at h
    split at h
    ·rename_i h1; exact h1.2 h
    ·rw [if_pos ⟨rfl, hm⟩] at h
     cases h
theorem mine_has {s : RgSt} {c : Int} (h : mineB s c = true) : hasB s c = true := by
 unfold mineB at h
 exact (Bool.and_eq_true _ _ ▸ h).1
theorem Jo.put {s : RgSt} {me beat : Int} {i : Nat} (c : Jo s me beat i) (hi : i < 100) (hme : 0 ≤ me ∧ me ≤ 1) {p : Pt} (hp : On p = true) : Jo (takeS s (putC p)) me beat (i + 1) ∧ (takeE s (putC p) = 0 → (takeS s (putC p)).order.length = s.order.length + 1) ∧ (takeS s (putC p)).last = s.last := by
 have cw := c.cw.put (by omega) (by omega) hp
 by_cases he : takeE s (putC p) = 0
 ·have e := (take_ok he).2
  rw [if_pos (show (putC p).kind = 1 from rfl), if_pos (show (putC p).kind = 1 from rfl)] at e
  have hh := mine_has (put_mine he)
  have g0 := c.cw.x.g0
  have g1 := c.cw.x.g1
  have hN : putN s = 4 * s.given + me := by unfold putN numE; rw [c.cw.x.id]; omega
  have eh : ∀ x, hasB (takeS s (putC p)) x = hasB s x := fun x => by rw [e]; rfl
  have eo : (takeS s (putC p)).order = s.order ++ [⟨s.beat, s.id, putN s, putC p⟩] := by rw [e]; rfl
  have eg : (takeS s (putC p)).given = s.given + 1 := by rw [e]; rfl
  have el : (takeS s (putC p)).last = s.last := by rw [e]; rfl
  refine ⟨⟨cw, fun k t h => ?_, by rw [el]; exact c.lh, fun t ht => ?_, ?_⟩, fun _ => by rw [eo]; simp, el⟩
  ·rw [eh]
   have eth : (takeS s (putC p)).th = aSet s.th (putN s) (putT (putC p) (putN s)) := by rw [e]; rfl
   rw [eth] at h
   by_cases ek : k = putN s
   ·subst ek
    rw [aGet_set_same] at h
    cases h
    exact hh
   ·rw [aGet_set_ne _ _ ek] at h
    exact c.own k t h
  ·rw [eo] at ht
   rw [eg]
   rcases List.mem_append.1 ht with h | h
   ·obtain ⟨h1, h2, h3, j, h4, h5, h6⟩ := c.ord t h
    exact ⟨h1, h2, h3, j, h4, by omega, h6⟩
   ·rw [List.mem_singleton] at h; subst h
    exact ⟨by show s.beat ≤ beat; rw [c.cw.x.beat]; exact Int.le_refl _, c.cw.x.id, ⟨p, hp, rfl⟩, s.given, g0, by omega, hN⟩
  ·rw [eo]
   refine List.pairwise_append.2 ⟨c.inc, List.pairwise_singleton _ _, fun a ha b hb => ?_⟩
   rw [List.mem_singleton] at hb; subst hb
   obtain ⟨_, _, _, j, h4, h5, h6⟩ := c.ord a ha
   show a.id < putN s
   omega
 ·have e := take_no he
  rw [e]
  rw [e] at cw
  exact ⟨⟨cw, c.own, c.lh, c.ord, c.inc⟩, fun h => absurd h he, rfl⟩
theorem Jo.done {s : RgSt} {me : Int} {i : Nat} (c : Jo s me 0 i) (hi : i < 100) : Jo (endS s (endN s [])) me 1 i ∧ (endS s (endN s [])).order = s.order := by
 have he : endN s [] = [] := by unfold endN; rw [if_pos c.cw.x.beat]
 rw [he]
 have hgo : goneL { s with th := layT s.th (comesL s []) } = [] := by
  show goneL s = []
  refine List.filter_eq_nil_iff.2 fun t ht => ?_
  obtain ⟨k, hk, rfl⟩ := List.mem_map.1 ht
  obtain ⟨t, et, e⟩ := all_key hk
  rw [e]
  unfold goneB
  rw [c.own k t et]; decide
 have x := c.cw.x.done [] hgo
 have eth : (endS s []).th = s.th := by rw [x.th]; rfl
 have ewas : (endS s []).was = (allT s.th).map (thOf s.th) := by rw [x.was]; rfl
 have ela : (endS s []).last = ⟨me, 0, [], [], [], []⟩ := x.last
 have egi : (endS s []).given = s.given := rfl
 have eor : (endS s []).order = s.order := rfl
 have eh : ∀ y, hasB (endS s []) y = hasB s y := fun y => rfl
 refine ⟨⟨⟨?_, ?_, ?_, ?_, ?_, ?_⟩, ?_, by rw [ela], ?_, by rw [eor]; exact c.inc⟩, eor⟩
 ·exact x.self
 ·rw [eth, egi]; exact c.cw.g
 ·rw [eth]; exact c.cw.nod
 ·rw [ewas]
  intro t ht
  obtain ⟨k, hk, rfl⟩ := List.mem_map.1 ht
  exact c.cw.good k hk
 ·rw [ewas, List.length_map, allT_len]; exact c.cw.th_le
 ·rw [eth, eor]; exact c.cw.ol
 ·rw [eth]
  intro k t h
  rw [eh]
  exact c.own k t h
 ·rw [eor, egi]
  intro t ht
  obtain ⟨h1, h2⟩ := c.ord t ht
  exact ⟨by omega, h2⟩
theorem both_st {sa sb : RgSt} {ba bb : Int} {i j : Nat} (a : Jo sa 0 ba i) (b : Jo sb 1 bb j) : St (sa.order ++ sb.order) := by
 refine List.pairwise_append.2 ⟨a.inc.imp fun h _ _ => h, b.inc.imp fun h _ _ => h, fun x hx y hy _ e => ?_⟩
 have h1 := (a.ord x hx).2.1
 have h2 := (b.ord y hy).2.1
 rw [h1, h2] at e
 cases e
theorem both_ids {sa sb : RgSt} {ba bb : Int} {i j : Nat} (a : Jo sa 0 ba i) (b : Jo sb 1 bb j) : ((sa.order ++ sb.order).map (·.id)).Nodup := by
 rw [List.map_append]
 refine List.nodup_append.2 ⟨?_, ?_, fun x hx y hy e => ?_⟩
 ·exact List.pairwise_map.2 (a.inc.imp fun h e => by omega)
 ·exact List.pairwise_map.2 (b.inc.imp fun h e => by omega)
 ·obtain ⟨t, ht, rfl⟩ := List.mem_map.1 hx
  obtain ⟨u, hu, rfl⟩ := List.mem_map.1 hy
  obtain ⟨_, _, _, j1, _, _, e1⟩ := a.ord t ht
  obtain ⟨_, _, _, j2, _, _, e2⟩ := b.ord u hu
  omega
theorem both_put {sa sb : RgSt} {ba bb : Int} {i j : Nat} (a : Jo sa 0 ba i) (b : Jo sb 1 bb j) (hi : i < 100) (hj : j < 100) (hba : ba ≤ 1) (hbb : bb ≤ 1) : ∀ t ∈ sa.order ++ sb.order, PutT t := by
 have ga := a.cw.x.g1
 have gb := b.cw.x.g1
 intro t ht
 rcases List.mem_append.1 ht with h | h
 ·obtain ⟨h1, h2, h3, j1, h4, h5, h6⟩ := a.ord t h
  exact ⟨h3, by omega, by omega, by omega⟩
 ·obtain ⟨h1, h2, h3, j1, h4, h5, h6⟩ := b.ord t h
  exact ⟨h3, by omega, by omega, by omega⟩
theorem tks_leafy : ∀ l : List Tkn, (l.flatMap tkC).all leafy = true
 | [] => rfl
 | t :: r => by
  rw [List.flatMap_cons, List.all_append, tks_leafy r]
  show ([AS.int .i64 t.beat, AS.int .i64 t.srv, AS.int .i64 t.id] ++ cmC t.c).all leafy && true = true
  rw [List.all_append, leafy_cm]; rfl
theorem bt_same {N i : Int} (h : i ≠ N) : (if N < i + 1 then (1 : Int) else 0) = if N < i then 1 else 0 := by split <;> split <;> omega
theorem B_law26_JudgeOrders_ {lf : Nat} {cl : Cl} (hlf : 1000 ≤ lf) (hkn : ∀ H K, cl i_law26_known [] H K = K (.s (.bool true)) H) (hnew : CRgNew cl) (htake : CTakeD cl) (hend : CEnd0 cl) (hord : CJOrder2 cl) (hworld : CJWorld cl)
  {H : AH} {q : AP} {m : Nat} {c : ACap} {xs : List Int} (hI : InI H q m .u8 xs) (hxs : ∀ x ∈ xs, 0 ≤ x ∧ x ≤ 255) (hmax : m ≤ 9223372036854775807) {n : Int} (hn : 0 ≤ n ∧ n ≤ 255) : B_law26_JudgeOrders lf cl n q m c 1 H isT = true := by
 unfold B_law26_JudgeOrders
 rw [hkn]
 refine arB_w ?_
 simp only [fB_eq, iLt_dec, iEq_dec, iLe_dec]
 refine ifA_w (fun h => by cases h) (fun _ => ?_)
 refine ifA_w (fun _ => rfl) (fun hm => ?_)
 have hm : m ≤ 20 := by have := of_decide_eq_false hm; simp only [Int.ofNat_eq_natCast] at this; omega
 refine hnew 0 2 _ _ fun H1 ga Oa h1 ra oa => ?_
 rw [asP_]
 refine hnew 1 2 _ _ fun H2 gb Ob h2 rb ob => ?_
 rw [asP_]
 have eN : Int.tmod n (Int.ofNat 20) = n % 20 := Int.tmod_eq_emod_of_nonneg hn.1
 have hN0 : 0 ≤ n % 20 := by omega
 have hN1 : n % 20 < 20 := by omega
 have c0 : CS H H2 ga (newS 0 2) Oa gb (newS 1 2) Ob (fun _ => False) := ⟨h1.trans h2, ra.le h2, rb, oa, fun a ha h => ob a ha (h1.has a h), fun a ha h => ob a h (ra.has a ha), fun z e => e.elim⟩
 have ja := Jo.new (me := 0) (by decide)
 have jb := Jo.new (me := 1) (by decide)
 refine loopX_w (fun x Hx => ∃ (i k : Nat) (sa sb : RgSt) (Oa Ob : Pn → Prop), x = (n, (q, m, c, 1), .at ga 0, .at gb 0, (k : Int), (i : Int)) ∧ i ≤ m ∧ CS H Hx ga sa Oa gb sb Ob (fun _ => False) ∧ Jo sa 0 (if n % 20 < (i : Int) then 1 else 0) i ∧ Jo sb 1 (if n % 20 < (i : Int) then 1 else 0) i ∧ k = sa.order.length + sb.order.length ∧ k ≤ i ∧ (¬ n % 20 < (i : Int) → sa.last = nt0 ∧ sb.last = nt0)) (fun x => m - x.2.2.2.2.2.toNat)
  ⟨0, 0, _, _, Oa, Ob, rfl, by omega, c0, by rw [if_neg (by omega)]; exact ja, by rw [if_neg (by omega)]; exact jb, rfl, Nat.le_refl 0, fun _ => ⟨rfl, rfl⟩⟩ (by simp; omega) ?_
 clear c0 ja jb ra rb oa ob h1 h2
 rintro self x Hx ⟨i, k, sa, sb, Oa, Ob, rfl, hi, cs, ja, jb, ek, hk, hl⟩ ih
 simp only [pR_]
 refine ifA_w (fun hx => ?_) (fun hx => ?_)
 ·have hx : i < m := by have := of_decide_eq_true hx; simp only [Int.ofNat_eq_natCast] at this; omega
  have hxl : i < xs.length := by rw [hI.1]; exact hx
  have hxi := hxs _ (List.getElem_mem hxl)
  obtain ⟨gi, rfl, hgi, ggi⟩ := hI.2 (by omega)
  have ggx : Hx.get gi = some (.fix (xs.map (AS.int .u8))) := (cs.le.get _ hgi).trans ggi
  have hcell : (xs.map (AS.int .u8))[i]? = some (.int .u8 xs[i]) := by rw [List.getElem?_map, List.getElem?_eq_getElem hxl]; rfl
  have e2 : Int.tmod xs[i] (Int.ofNat 64) = xs[i] % 64 := Int.tmod_eq_emod_of_nonneg hxi.1
  have e3 : Int.tdiv xs[i] (Int.ofNat 4) = xs[i] / 4 := Int.tdiv_eq_ediv_of_nonneg hxi.1
  generalize xs[i] = u at *
  simp only [nilK_at, fN_eq, Nat.add_eq, Nat.mul_eq, Nat.zero_add, Nat.mul_one]
  refine idxK_w (by omega) (by omega) ?_
  rw [Int.toNat_natCast]
  refine getK_w ggx (rowK_wf ggx (ldI_w hcell ?_))
  rw [e2]
  refine fI_w (w64_w (by omega) (by omega) ?_)
  refine idxK_w (by omega) (by omega) ?_
  rw [Int.toNat_natCast]
  refine getK_w ggx (rowK_wf ggx (ldI_w hcell ?_))
  rw [wrapK_eq, e3, wrapu8 (by omega) (by omega)]
  refine w64_w (by omega) (by omega) ?_
  have hon : On ⟨u % 64, u / 4⟩ = true := on_of (show 0 ≤ u % 64 by omega) (show u % 64 < 64 by omega) (show 0 ≤ u / 4 by omega) (show u / 4 < 64 by omega)
  generalize hp : (⟨u % 64, u / 4⟩ : Pt) = p at *
  have epx : p.x = u % 64 := by rw [← hp]
  have epy : p.y = u / 4 := by rw [← hp]
  obtain ⟨d, hd, ed⟩ := onCell hon
  refine tmp_w rfl rfl fun g4 H4 h4 hg4 ng4 gg4 => ?_
  rw [← epx, ← epy] at gg4
  replace gg4 : H4.get g4 = some (.row (ptC p)) := gg4
  have cs4 : CS H H4 ga sa Oa gb sb Ob (fun z => z = g4) := by
   have := (cs.le' h4).add (P' := fun z => z = g4) fun z e => by subst e; exact ⟨hg4, fun h => ng4 (cs.a.has _ h), fun h => ng4 (cs.b.has _ h)⟩
   exact { this with kp := fun z e => this.kp z (.inr e) }
  have hbt0 : (0 : Int) ≤ if n % 20 < (i : Int) then 1 else 0 := by split <;> decide
  have pa := ja.put (by omega) (by decide) hon
  have pb := jb.put (by omega) (by decide) hon
  refine joinX_w (fun y Hy => ∃ (k' : Nat) (s' : RgSt) (O' : Pn → Prop), y = (n, (.at gi 0, m, c, 1), .at ga 0, .at gb 0, (k' : Int), (i : Int), .at g4 0) ∧ CS H Hy ga s' O' gb sb Ob (fun z => z = g4) ∧ Hy.get g4 = some (.row (ptC p)) ∧ Jo s' 0 (if n % 20 < (i : Int) then 1 else 0) (i + 1) ∧ k' = s'.order.length + sb.order.length ∧ s'.last = sa.last ∧ (k' ≤ i ∨ (k' ≤ i + 1 ∧ hasB s' (ofC p) = true))) ?_ ?_
  ·rintro y Hy ⟨k', s', O', rfl, csy, gg4y, js, ek', el', hk'⟩
   simp only [pR_]
   refine joinX_w (fun y Hy => ∃ (k2 : Nat) (t' : RgSt) (O2 : Pn → Prop), y = (n, (.at gi 0, m, c, 1), .at ga 0, .at gb 0, (k2 : Int), (i : Int)) ∧ CS H Hy ga s' O' gb t' O2 (fun z => z = g4) ∧ Jo t' 1 (if n % 20 < (i : Int) then 1 else 0) (i + 1) ∧ k2 = s'.order.length + t'.order.length ∧ t'.last = sb.last ∧ k2 ≤ i + 1) ?_ ?_
   ·rintro y Hz ⟨k2, t', O2, rfl, csz, jt, ek2, el2, hk2⟩
    simp only [pR_]
    rw [eN]
    refine fI_w (w64_w (by omega) (by omega) ?_)
    refine ifA_w (fun hc => ?_) (fun hc => ?_)
    ·have hc : (i : Int) = n % 20 := of_decide_eq_true hc
     rw [if_neg (by omega)] at js jt
     obtain ⟨l1, l2⟩ := hl (by omega)
     have one : ∀ {s : RgSt} {me : Int}, Jo s me 0 (i + 1) → s.last = nt0 → s.th.length + (comesL s (endN s (([] : List (Rw × Nt)).map (·.2)))).length < 1000 ∧ SmN s.last ∧ QuietN s.last ∧ (∀ t ∈ s.was, GoodT t) ∧ s.was.length < 2000 ∧ (0 ≤ s.beat ∧ s.beat ≤ 1000000) ∧ OkEnd s (([] : List (Rw × Nt)).map (·.2)) ∧ Sm s ∧ Quiet s := by
      intro s me j e
      have eb := j.cw.x.beat
      have he : endN s (([] : List (Rw × Nt)).map (·.2)) = [] := by unfold endN; rw [if_pos eb]
      refine ⟨?_, by rw [e]; exact sm0 0 0, by rw [e]; exact quiet0 0 0, j.cw.was, by have := j.cw.wl; omega, by rw [eb]; decide, .inl ⟨eb, rfl⟩, j.cw.sm (by omega) j.lh, j.cw.x.quiet⟩
      rw [he]
      have := j.cw.th_le
      show s.th.length + 0 < 1000
      omega
     obtain ⟨a1, a2, a3, a4, a5, a6, a7, a8, a9⟩ := one js (el'.trans l1)
     refine hend Hz ga s' O' .nil 0 _ 1 [] _ csz.a a8 a1 a9 a2 a3 a4 a5 SR.nil (fun x h => by cases h) (by decide) a6 a7 fun H5 r5 O5 f5 rg5 o5 _ _ => ?_
     rw [tup3_, asG_, asSl_]
     refine arI_w ?_
     have cs5 := csz.opA f5 rg5 o5
     obtain ⟨b1, b2, b3, b4, b5, b6, b7, b8, b9⟩ := one jt (el2.trans l2)
     refine hend H5 gb t' O2 .nil 0 _ 1 [] _ cs5.b b8 b1 b9 b2 b3 b4 b5 SR.nil (fun x h => by cases h) (by decide) b6 b7 fun H6 r6 O6 f6 rg6 o6 _ _ => ?_
     rw [tup3_, asG_, asSl_]
     refine arI_w ?_
     have cs6 := cs5.opB f6 rg6 o6
     obtain ⟨d1, d2⟩ := js.done (by omega)
     obtain ⟨d3, d4⟩ := jt.done (by omega)
     rw [iAdd_]
     refine w64_w (by simp only [Int.ofNat_eq_natCast]; omega) (by simp only [Int.ofNat_eq_natCast]; omega) (ih _ _ ⟨i + 1, k2, _, _, O5, O6, by simp, by omega, { cs6 with kp := fun z e => e.elim }, ?_, ?_, ?_, hk2, fun h => absurd (show n % 20 < ((i + 1 : Nat) : Int) by omega) h⟩ (by simp; omega))
     ·rw [if_pos (by omega)]; exact d1
     ·rw [if_pos (by omega)]; exact d3
     ·show k2 = (endS s' (endN s' [])).order.length + (endS t' (endN t' [])).order.length
      rw [d2, d4]; exact ek2
    ·have hc : ¬ (i : Int) = n % 20 := of_decide_eq_false hc
     have ebt := bt_same (N := n % 20) (i := (i : Int)) hc
     rw [iAdd_]
     refine w64_w (by simp only [Int.ofNat_eq_natCast]; omega) (by simp only [Int.ofNat_eq_natCast]; omega) (ih _ _ ⟨i + 1, k2, s', t', O', O2, by simp, by omega, { csz with kp := fun z e => e.elim }, ?_, ?_, ek2, hk2, fun h => ?_⟩ (by simp; omega))
     ·rw [show ((i + 1 : Nat) : Int) = (i : Int) + 1 by omega, ebt]; exact js
     ·rw [show ((i + 1 : Nat) : Int) = (i : Int) + 1 by omega, ebt]; exact jt
     ·obtain ⟨l1, l2⟩ := hl (by omega)
      exact ⟨el'.trans l1, el2.trans l2⟩
   ·intro J hJ
    simp only [nilK_at]
    refine rowK_w gg4y (ldG_we (ys := ptC p) (Nat.le_refl 2) (by decide) rfl (okK_w rfl (fL_w ?_)))
    rw [ap_eq]
    refine htake Hy gb sb Ob (putC p) _ csy.b (jb.cw.sm (by omega) jb.lh) rfl (fun e => absurd (show (1 : Int) = 5 from e) (by decide)) fun H5 O5 f5 rg5 o5 => ?_
    rw [tup2_]
    refine arI_w (arI_w ?_)
    have cs5 := csy.opB f5 rg5 o5
    refine ifA_w (fun he => ?_) (fun he => ?_)
    ·have he : takeE sb (putC p) = 0 := of_decide_eq_true he
     have hb := mine_has (put_mine he)
     have hk1 : k' ≤ i := by
      rcases hk' with h | ⟨_, h⟩
      ·exact h
      ·exfalso
       rw [ed, js.cw.x.has hd] at h
       rw [ed, jb.cw.x.has hd] at hb
       have h1 := of_decide_eq_true h
       have h2 := of_decide_eq_true hb
       omega
     have eo := pb.2.1 he
     rw [iAdd_]
     refine w64_w (by simp only [Int.ofNat_eq_natCast]; omega) (by simp only [Int.ofNat_eq_natCast]; omega) (hJ _ _ ⟨k' + 1, _, O5, by simp, cs5, pb.1, by rw [eo]; omega, pb.2.2, by omega⟩)
    ·have he : takeE sb (putC p) ≠ 0 := of_decide_eq_false he
     have e := take_no he
     have p1 := pb.1
     rw [e] at p1 cs5
     exact hJ _ _ ⟨k', sb, O5, rfl, cs5, p1, ek', rfl, by rcases hk' with h | ⟨h, _⟩ <;> omega⟩
  ·intro J hJ
   refine rowK_w gg4 (ldG_we (ys := ptC p) (Nat.le_refl 2) (by decide) rfl (okK_w rfl (fL_w ?_)))
   rw [ap_eq]
   refine htake H4 ga sa Oa (putC p) _ cs4.a (ja.cw.sm (by omega) ja.lh) rfl (fun e => absurd (show (1 : Int) = 5 from e) (by decide)) fun H5 O5 f5 rg5 o5 => ?_
   rw [tup2_]
   refine arI_w (arI_w ?_)
   have cs5 := cs4.opA f5 rg5 o5
   have gg5 := (cs4.gA f5 (x := g4) rfl).trans gg4
   refine ifA_w (fun he => ?_) (fun he => ?_)
   ·have he : takeE sa (putC p) = 0 := of_decide_eq_true he
    have hb := mine_has (put_mine he)
    have eo := pa.2.1 he
    have eh : hasB (takeS sa (putC p)) (ofC p) = hasB sa (ofC p) := by rw [(take_ok he).2, if_pos (show (putC p).kind = 1 from rfl)]; rfl
    rw [iAdd_]
    refine w64_w (by simp only [Int.ofNat_eq_natCast]; omega) (by simp only [Int.ofNat_eq_natCast]; omega) (hJ _ _ ⟨k + 1, _, O5, by simp, cs5, gg5, pa.1, by rw [eo]; omega, pa.2.2, .inr ⟨by omega, by rw [eh]; exact hb⟩⟩)
   ·have he : takeE sa (putC p) ≠ 0 := of_decide_eq_false he
    have e := take_no he
    have p1 := pa.1
    rw [e] at p1 cs5
    exact hJ _ _ ⟨k, sa, O5, rfl, cs5, gg5, p1, ek, rfl, .inl hk⟩
 have hx : i = m := by have := of_decide_eq_false hx; simp only [Int.ofNat_eq_natCast] at this; omega
 subst hx
 clear ih self
 refine new_w fun g5 H5 h5 hg5 ng5 gg5 => ?_
 have hsum : sa.order.length + sb.order.length ≤ 20 := by omega
 refine hord _ _ _ _ _ _ _ _ _ gg5 hg5 (cs.a.le h5) (cs.b.le h5) hsum fun H6 p6 c6 z6 h6 s6 => ?_
 rw [asSl_]
 have hb1 : (if n % 20 < (i : Int) then (1 : Int) else 0) ≤ 1 := by split <;> decide
 have hst := srtT_sorted (both_st ja jb)
 have hperm := srtT_perm (sa.order ++ sb.order)
 have hput : ∀ t ∈ srtT (sa.order ++ sb.order), PutT t := fun t ht => both_put ja jb (by omega) (by omega) hb1 hb1 t (hperm.mem_iff.1 ht)
 have hids : ((srtT (sa.order ++ sb.order)).map (·.id)).Nodup := (hperm.map _).nodup_iff.2 (both_ids ja jb)
 have hlen : (srtT (sa.order ++ sb.order)).length = (sa.order ++ sb.order).length := hperm.length_eq
 have hl2 : (sa.order ++ sb.order).length = k := by rw [List.length_append, ek]
 rw [← hlen] at s6 ⊢
 rw [hl2] at hlen
 generalize srtT (sa.order ++ sb.order) = os at *
 refine loopX_w (fun x Hx => ∃ j : Nat, x = ((k : Int), (p6, os.length, c6, z6), (j : Int)) ∧ 1 ≤ j ∧ j ≤ os.length + 1 ∧ Le H6 Hx) (fun x => os.length + 1 - x.2.2.toNat) ⟨1, rfl, Nat.le_refl 1, by omega, Le.refl _⟩ (by simp; omega) ?_
 rintro self x Hx ⟨j, rfl, hj1, hj, hL⟩ ih
 simp only [pR_]
 refine ifA_w (fun hx => ?_) (fun hx => ?_)
 ·have hx : j < os.length := by have := of_decide_eq_true hx; simp only [Int.ofNat_eq_natCast] at this; omega
  have hlt : ltR (os[j - 1]'(by omega)) os[j] := List.pairwise_iff_getElem.1 hst (j - 1) j (by omega) hx (by omega)
  have seg1 := flat_at tkC_len os (j - 1) (by omega)
  have seg2 := flat_at tkC_len os j hx
  obtain ⟨b, rfl, hb, gb⟩ := s6.at (by omega)
  have hfl := s6.1
  generalize os[j - 1] = a1 at *
  generalize os[j] = a2 at *
  have gbx := (hL.get _ hb).trans gb
  have hbx := hL.has _ hb
  refine joinX_w (fun y Hy => ∃ g1 g2, y = ((k : Int), (.at b 0, os.length, c6, z6), (j : Int), .at g1 0, .at g2 0) ∧ Le Hx Hy ∧ Hy.get g1 = some (.row (tkC a1)) ∧ Hy.get g2 = some (.row (tkC a2))) ?_ ?_
  ·rintro y Hy ⟨g1, g2, rfl, hy, gg1, gg2⟩
   simp only [pR_, nilK_at, fN_eq, Nat.add_eq, Nat.zero_add, Nat.add_zero]
   have go : (w64 (iAdd (j : Int) (Int.ofNat 1)) fun n226 => self ((k : Int), (.at b 0, os.length, c6, z6), n226) Hy) = true := by
    rw [iAdd_]
    exact w64_w (by simp only [Int.ofNat_eq_natCast]; omega) (by simp only [Int.ofNat_eq_natCast]; omega) (ih _ _ ⟨j + 1, by simp, by omega, by omega, hL.trans hy⟩ (by simp; omega))
   unfold ltR at hlt
   refine rowK_w gg1 (ldI_w (n := a1.beat) rfl (rowK_w gg2 (ldI_w (n := a2.beat) rfl ?_)))
   refine ifA_w (fun h => absurd (of_decide_eq_true h) (by omega)) (fun _ => ?_)
   refine rowK_w gg1 (ldI_w (n := a1.beat) rfl (rowK_w gg2 (ldI_w (n := a2.beat) rfl ?_)))
   refine ifA_w (fun h => ?_) (fun _ => go)
   have h := of_decide_eq_true h
   refine rowK_w gg1 (ldI_w (n := a1.srv) rfl (rowK_w gg2 (ldI_w (n := a2.srv) rfl ?_)))
   refine ifA_w (fun h => absurd (of_decide_eq_true h) (by omega)) (fun _ => ?_)
   refine rowK_w gg1 (ldI_w (n := a1.srv) rfl (rowK_w gg2 (ldI_w (n := a2.srv) rfl ?_)))
   refine ifA_w (fun h' => ?_) (fun _ => go)
   have h' := of_decide_eq_true h'
   refine rowK_w gg1 (ldI_w (n := a1.id) rfl (rowK_w gg2 (ldI_w (n := a2.id) rfl ?_)))
   exact ifA_w (fun h => absurd (of_decide_eq_true h) (by omega)) (fun _ => go)
  ·intro J hJ
   have ej : (j : Int) - Int.ofNat 1 = ((j - 1 : Nat) : Int) := by simp only [Int.ofNat_eq_natCast]; omega
   rw [iSub_, ej]
   refine w64_w (by omega) (by omega) ?_
   simp only [nilK_at, fN_eq, Nat.add_eq, Nat.mul_eq, Nat.zero_add]
   refine idxK_w (by omega) (by omega) ?_
   rw [Int.toNat_natCast]
   refine getK_w gbx (rowK_w gbx (ldG_we (ys := tkC a1) (by omega) (by decide) seg1 ?_))
   refine idxK_w (by omega) (by omega) ?_
   rw [Int.toNat_natCast]
   refine getK_w gbx (rowK_w gbx (ldG_we (ys := tkC a2) (by omega) (by decide) seg2 ?_))
   have ks : ∀ {Hz : AH} {gn : Pn}, Le Hx Hz → ¬ Hx.has gn → (!kHas ((b, AB.row (os.flatMap tkC)) :: ((b, AB.row (os.flatMap tkC)) :: [])) gn && kSame ((b, AB.row (os.flatMap tkC)) :: ((b, AB.row (os.flatMap tkC)) :: [])) Hz) = true := fun {Hz gn} hz hn => by
    have db : gn ≠ b := fun e => hn (e ▸ hbx)
    have gz := (hz.get _ hbx).trans gbx
    rw [kHas_ne db (kHas_ne db rfl), kSame_row gz (tks_leafy _) (kSame_row gz (tks_leafy _) rfl)]; rfl
   refine okK_w ?_ ?_
   ·refine new_w fun g1 H7 h7 hg1 ng1 gg1 => new_w fun g2 H8 h8 hg2 ng2 gg2 => ?_
    have d21 : g2 ≠ g1 := fun e => ng2 (e ▸ hg1)
    refine okK_w (ks (h7.trans h8) ng1) ?_
    refine stoN_we (ds := tkC a1) ((h8.get _ hg1).trans gg1) rfl (Nat.le_refl 25) (by rw [List.take_zero, List.nil_append]; rfl) ?_
    refine stoN_we (ds := tkC a2) ((get_put_ne d21).trans gg2) rfl (Nat.le_refl 25) (by rw [List.take_zero, List.nil_append]; rfl) ?_
    exact hJ _ _ ⟨g1, g2, rfl, ((h7.trans h8).put ng1 _).put (fun h => ng2 (h7.has _ h)) _, (get_put_ne d21.symm).trans (get_put _ _ _), get_put _ _ _⟩
   ·refine new_w fun g2 H7 h7 hg2 ng2 gg2 => new_w fun g1 H8 h8 hg1 ng1 gg1 => ?_
    have d12 : g1 ≠ g2 := fun e => ng1 (e ▸ hg2)
    refine okK_w (ks (h7.trans h8) fun h => ng1 (h7.has _ h)) ?_
    refine stoN_we (ds := tkC a1) gg1 rfl (Nat.le_refl 25) (by rw [List.take_zero, List.nil_append]; rfl) ?_
    refine stoN_we (ds := tkC a2) ((get_put_ne d12.symm).trans ((h8.get _ hg2).trans gg2)) rfl (Nat.le_refl 25) (by rw [List.take_zero, List.nil_append]; rfl) ?_
    exact hJ _ _ ⟨g1, g2, rfl, ((h7.trans h8).put (fun h => ng1 (h7.has _ h)) _).put ng2 _, (get_put_ne d12).trans (get_put _ _ _), get_put _ _ _⟩
 ·refine ifA_w (fun _ => ?_) (fun h => absurd (show (Int.ofNat os.length : Int) = (k : Int) by rw [hlen]; rfl) (of_decide_eq_false h))
  have ik : InK Hx p6 os.length os := (InK.of s6).le hL
  refine hworld Hx _ _ _ _ os 5 _ ik (by omega) fun H7 p7 c7 z7 h7 _ => ?_
  rw [asSl_, world_all hput hids (by omega), hlen]
  rw [decide_eq_true (show (Int.ofNat k : Int) = (k : Int) from rfl)]
  rfl
end Go.Proofs
end
section
namespace Go.Proofs
open Go Go.Vw Go.Vw.Ev
set_option linter.unusedVariables false
end Go.Proofs
end
