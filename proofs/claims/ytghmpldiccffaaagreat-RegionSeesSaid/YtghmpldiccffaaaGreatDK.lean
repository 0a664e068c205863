import Derived.Test.YtghmpldiccffaaaGreatDI
import Derived.Test.YtghmpldiccffaaaGreatDT
import Derived.Test.YtghmpldiccffaaaGreatBR
import Derived.Test.YtghmpldiccffaaaGreatBQ
import Derived.Test.YtghmpldiccffaaaGreatDG
section
namespace Go.Proofs
open Go Go.Vw Go.Vw.Ev
set_option linter.unusedVariables false
set_option linter.unusedSimpArgs false
theorem slcA_end_r {g : Pn} {o n z : Nat} {c : ACap} {K : AP → Nat → ACap → Nat → Bool} (hk : ∀ p' c', K p' 0 c' z = true) : slcA (.at g o) n c z n n K = true := by
 rw [slcA_eq0]
 unfold slcA0
 rw [Nat.ble_eq_true_of_le (Nat.le_refl n)]
 refine fN_w ?_
 rw [Nat.sub_self]
 cases c with
 | lit k =>
  dsimp only
  cases Nat.beq k n
  ·exact fN_w (fN_w (hk _ _))
  ·exact hk _ _
 | of b k =>
  refine fN_w (fN_w ?_)
  cases Nat.beq n n
  ·exact hk _ _
  ·cases Nat.beq n 0
   ·exact hk _ _
   ·exact hk _ _
def SQ (B H : AH) (p : AP) (n z : Nat) (c : ACap) (ts : List Th) : Prop := ts.length = n ∧ (n ≠ 0 → ∃ g pre, p = .at g (pre.length * 11) ∧ z = 11 ∧ CapOk c n ∧ B.has g ∧ H.has g ∧ H.get g = some (.row (thsC (pre ++ ts))))
theorem SQ.of {H : AH} {p : AP} {n z : Nat} {c : ACap} {ts : List Th} (h : SR 11 H p n z (thsC ts)) (hc : CapOk c n) : SQ H H p n z c ts := by
 refine ⟨?_, fun hn => ?_⟩
 ·have := h.1
  rw [thsC, flat_len thC_len'] at this
  omega
 ·rcases h.2 with ⟨h0, _⟩ | ⟨b, rfl, hz, hb, gb⟩
  ·exact absurd h0 hn
  ·exact ⟨b, [], by simp, hz, hc, hb, hb, gb⟩
theorem SQ.fr {B H H' : AH} {F : Pn → Prop} {p : AP} {n z : Nat} {c : ACap} {ts : List Th} (h : SQ B H p n z c ts) (k : Fr F H H') (hf : ∀ g, B.has g → ¬ F g) : SQ B H' p n z c ts :=
 ⟨h.1, fun hn => (h.2 hn).imp fun g ⟨pre, e, hz, hc, hB, hg, gg⟩ => ⟨pre, e, hz, hc, hB, k.has _ hg, (k.get _ hg (hf g hB)).trans gg⟩⟩
theorem SQ.le {B H H' : AH} {p : AP} {n z : Nat} {c : ACap} {ts : List Th} (h : SQ B H p n z c ts) (k : Le H H') : SQ B H' p n z c ts := h.fr (k.fr fun _ => False) fun _ _ h => h
theorem SQ.up {B B' H : AH} {p : AP} {n z : Nat} {c : ACap} {ts : List Th} (h : SQ B H p n z c ts) (k : Le B B') : SQ B' H p n z c ts :=
 ⟨h.1, fun hn => (h.2 hn).imp fun g ⟨pre, e, hz, hc, hB, hg, gg⟩ => ⟨pre, e, hz, hc, k.has _ hB, hg, gg⟩⟩
theorem SQ.at {B H : AH} {p : AP} {n z : Nat} {c : ACap} {t : Th} {r : List Th} (h : SQ B H p n z c (t :: r)) : ∃ g o cs, p = .at g o ∧ z = 11 ∧ n = r.length + 1 ∧ H.get g = some (.row cs) ∧ cs[o]? = some (.int .i64 t.id) ∧ (cs.drop o).take 11 = thC t ∧ o + 11 ≤ cs.length := by
 obtain ⟨g, pre, e, hz, hc, hB, hg, gg⟩ := h.2 (by rw [← h.1]; simp)
 have hi : pre.length < (pre ++ t :: r).length := by simp
 have ha := flat_at thC_len' (pre ++ t :: r) pre.length hi
 rw [List.getElem_append_right (Nat.le_refl _)] at ha
 simp only [Nat.sub_self, List.getElem_cons_zero] at ha
 have hlen : (thsC (pre ++ t :: r)).length = (pre ++ t :: r).length * 11 := by rw [thsC, flat_len thC_len']
 refine ⟨g, pre.length * 11, _, e, hz, by rw [← h.1]; simp, gg, ?_, ha, by rw [hlen, List.length_append, List.length_cons]; omega⟩
 have := flat_cell (f := thC) thC_len' (l := pre ++ t :: r) (i := pre.length) (k := 0) hi (by decide)
 rw [List.getElem_append_right (Nat.le_refl _)] at this
 simp only [Nat.sub_self, List.getElem_cons_zero, Nat.add_zero] at this
 exact this
theorem SQ.tail {B H : AH} {p : AP} {n z : Nat} {c : ACap} {t : Th} {r : List Th} {K : AP → Nat → ACap → Nat → Bool} (h : SQ B H p n z c (t :: r)) (hk : ∀ p' c', SQ B H p' r.length 11 c' r → K p' r.length c' 11 = true) :
  okK (isNilP p || Nat.beq z 11) (slcA p n c 11 1 n K) = true := by
 obtain ⟨g, pre, rfl, rfl, hc, hB, hg, gg⟩ := h.2 (by rw [← h.1]; simp)
 have hn : n = r.length + 1 := by rw [← h.1]; simp
 subst hn
 refine okK_w rfl ?_
 rcases Nat.eq_zero_or_pos r.length with h0 | h0
 ·have hr : r = [] := List.length_eq_zero_iff.1 h0
  subst hr
  exact slcA_end_r fun p' c' => hk p' c' ⟨rfl, fun h => absurd rfl h⟩
 ·refine slcA_at_w (by omega) (Nat.le_refl _) (by omega) hc fun c' hc' => ?_
  rw [Nat.add_sub_cancel] at hc' ⊢
  refine hk _ _ ⟨rfl, fun _ => ⟨g, pre ++ [t], by rw [List.length_append, List.length_singleton]; congr 1; omega, rfl, hc', hB, hg, by rw [gg, List.append_assoc]; rfl⟩⟩
def seenT (r : Rc) (ts : List Th) : List Th := ts.filter fun t => RIn r t.pt
def CSeenD (cl : Cl) : Prop := ∀ H p n c z ts r K, SR 11 H p n z (thsC ts) → n < 10000 → (∀ H' p' c' z', Le H H' → SR 11 H' p' (seenT r ts).length z' (thsC (seenT r ts)) → CapOk c' (seenT r ts).length → K (.s (.slice p' (seenT r ts).length c' z')) H' = true) →
 cl i_diff_Seen [.s (.slice p n c z), .agg (rcC r)] H K = true
theorem B_diff_Seen_ {lf : Nat} {cl : Cl} (hlf : 100000 ≤ lf) (hin : CRcPtB i_geom_In RIn cl) {H : AH} {p : AP} {n z : Nat} {c : ACap} {ts : List Th} {r : Rc} {K : AV → AH → Bool} (sr : SR 11 H p n z (thsC ts)) (hn : n < 10000)
  (hk : ∀ H' p' c' z', Le H H' → SR 11 H' p' (seenT r ts).length z' (thsC (seenT r ts)) → CapOk c' (seenT r ts).length → K (.s (.slice p' (seenT r ts).length c' z')) H' = true) : B_diff_Seen lf cl p n c z (rcC r) H K = true := by
 unfold B_diff_Seen
 have hlt : ts.length = n := by have := sr.1; rw [thsC, flat_len thC_len'] at this; omega
 refine new_w fun gr H1 h1 hgr ngr ggr => ?_
 replace sr := sr.le h1
 refine loopX_w (fun x Hx => ∃ (i : Nat) (p1 : AP) (c1 : ACap) (z1 : Nat), x = (.at gr 0, (p1, (seenT r (ts.take i)).length, c1, z1), (p, n, c, z), (n : Int), (i : Int)) ∧ i ≤ n ∧ Le H1 Hx ∧ SR 11 Hx p1 (seenT r (ts.take i)).length z1 (thsC (seenT r (ts.take i))) ∧ CapOk c1 (seenT r (ts.take i)).length ∧ ∀ a, ownP p1 a → ¬ H1.has a)
  (fun x => n - x.2.2.2.2.toNat) ⟨0, .nil, .lit 0, 1, rfl, by omega, Le.refl _, SR.nil, Nat.le_refl 0, fun a ⟨o, e⟩ => (by cases e)⟩ (by simp; omega) ?_
 rintro self x Hx ⟨i, p1, c1, z1, rfl, hi, hL, s1, cap1, o1⟩ ih
 simp only [pR_, fB_eq, iLt_dec]
 refine ifA_w (fun hx => ?_) (fun hx => ?_)
 ·have hx : i < n := by have := of_decide_eq_true hx; omega
  have hxl : i < ts.length := by omega
  have hseg := flat_at thC_len' ts i hxl
  have tk : seenT r (ts.take (i + 1)) = seenT r (ts.take i) ++ (if RIn r (ts[i]).pt = true then [ts[i]] else []) := by
   unfold seenT
   rw [List.take_succ_eq_append_getElem hxl, List.filter_append, List.filter_cons, List.filter_nil]
  have lb10 : (seenT r (ts.take i)).length ≤ i := Nat.le_trans (List.length_filter_le _ _) (by simp; omega)
  generalize ts[i] = t at *
  generalize seenT r (ts.take i) = mv at *
  obtain ⟨b, rfl, hb, gb⟩ := (sr.le hL).at (by omega)
  have hfl := sr.1
  simp only [nilK_at, fN_eq, Nat.add_eq, Nat.mul_eq, Nat.zero_add, Nat.add_zero]
  refine idxK_w (by omega) (by omega) ?_
  rw [Int.toNat_natCast]
  refine rowK_w gb (ldG_we (ys := thC t) (by omega) (by decide) hseg ?_)
  refine tmp_w rfl rfl fun gc H2 h2 hgc ngc ggc => ?_
  refine rowK_w (((hL.trans h2).get _ hgr).trans ggr) (ldG_we (ys := rcC r) (Nat.le_refl 4) (by decide) rfl ?_)
  refine rowK_w ggc (ldG_we (ys := ptC t.pt) (lb rfl) (by decide) rfl ?_)
  refine hin _ _ _ _ fun H3 h3 => arB_w ?_
  have h23 := h2.trans h3
  have gc3 := (h3.get _ hgc).trans ggc
  refine ifA_w (fun h => ?_) (fun h => ?_)
  ·rw [if_pos h] at tk
   refine rowK_w gc3 (ldG_we (ys := thC t) (lb rfl) (by decide) rfl (okK_w rfl (fL_w ?_)))
   rw [ap_eq, List.append_nil]
   refine okK_w rfl (newK_w (elK_w (ys := thC t) (get_new _ _) (by rw [thC_len]; decide) rfl ?_))
   have hLn := h23.newr (.row (thC t))
   refine appT_w (s1.le hLn) cap1 (m := 1) rfl (by omega) (by omega) fun p2 c2 z2 H4 f4 s4 cap4 o4 => ?_
   have hL4 : Le H1 H4 := ⟨fun a h => f4.has a (hLn.has _ (hL.has _ h)), fun a h => (f4.get a (hLn.has _ (hL.has _ h)) fun h' => o1 a h' h).trans ((hLn.get _ (hL.has _ h)).trans (hL.get a h))⟩
   rw [iAdd_]
   refine w64_w (by simp only [Int.ofNat_eq_natCast]; omega) (by simp only [Int.ofNat_eq_natCast]; omega) (ih _ _ ⟨i + 1, p2, c2, z2, by rw [tk]; simp, by omega, hL4, ?_, ?_, ?_⟩ (by simp; omega))
   ·rw [tk, List.length_append, thsC, List.flatMap_append]
    simpa [thsC] using s4
   ·rw [tk, List.length_append]; exact cap4
   ·exact fun a h h' => (o4 a h).elim (fun e => o1 a e h') fun e => e (hLn.has _ (hL.has _ h'))
  ·rw [if_neg (by rw [h]; decide), List.append_nil] at tk
   rw [iAdd_]
   exact w64_w (by simp only [Int.ofNat_eq_natCast]; omega) (by simp only [Int.ofNat_eq_natCast]; omega) (ih _ _ ⟨i + 1, p1, c1, z1, by rw [tk]; simp, by omega, hL.trans h23, by rw [tk]; exact s1.le h23, by rw [tk]; exact cap1, o1⟩ (by simp; omega))
 ·have hx : i = n := by have := of_decide_eq_false hx; omega
  subst hx
  have e : ts.take i = ts := List.take_of_length_le (by omega)
  rw [e] at s1 cap1 ⊢
  exact hk _ _ _ _ (h1.trans hL) s1 cap1
end Go.Proofs
end
section
namespace Go.Proofs
open Go Go.Vw Go.Vw.Ev
set_option linter.unusedVariables false
set_option linter.unusedSimpArgs false
theorem same_f2 (f : Fd) : cellsEqA (fdC f) (fdC f) = true := by simp only [fdC, cellsEqA, cellEqA, iEq_dec, sEq_dec, decide_true]
theorem same_p2 (p : Pt) : cellsEqA (ptC p) (ptC p) = true := by simp only [ptC, cellsEqA, cellEqA, iEq_dec, decide_true]
def fdOf (t : Th) (i : Nat) : Fd := if i = 0 then t.f0 else if i = 1 then t.f1 else if i = 2 then t.f2 else t.f3
theorem th_fd (t : Th) : ∀ i : Nat, i < 4 → ((thC t).drop (3 + i * 2)).take 2 = fdC (fdOf t i) := lt4 rfl rfl rfl rfl
theorem th_f8 (t : Th) : ∀ i : Nat, i < 4 → ((((thC t).drop 3).take 8).drop (i * 2)).take 2 = fdC (fdOf t i) := lt4 rfl rfl rfl rfl
def CDiffEq (cl : Cl) : Prop := ∀ t H K, (∀ H' cs, Le H H' → cs.length = 12 → K (.tup [.agg cs, .s (.bool false)]) H' = true) → cl i_fields_Diff [.agg (thC t), .agg (thC t)] H K = true
theorem W_fields_DiffEq_ {lf : Nat} {cl : Cl} (hlf : 10 ≤ lf) {t : Th} {H : AH} {K : AV → AH → Bool} (hk : ∀ H' cs, Le H H' → cs.length = 12 → K (.tup [.agg cs, .s (.bool false)]) H' = true) : B_fields_Diff lf cl (thC t) (thC t) H K = true := by
 unfold B_fields_Diff
 refine new_w fun g1 H1 h1 hg1 ng1 gg1 => new_w fun g3 H3 h3 hg3 ng3 gg3 => new_w fun g5 H5 h5 hg5 ng5 gg5 => ?_
 refine rowK_w ((h5.get _ hg3).trans gg3) (ldI_w (n := t.id) rfl ?_)
 refine tmp_w rfl rfl fun g9 H9 h9 hg9 ng9 gg9 => ?_
 have d59 : g5 ≠ g9 := fun e => ng9 (e ▸ hg5)
 have a1 : ∀ {Hx}, Le H9 Hx → Hx.get g1 = some (.row (thC t)) := fun k => (k.get _ (h9.has _ (h5.has _ (h3.has _ hg1)))).trans ((h9.get _ (h5.has _ (h3.has _ hg1))).trans ((h5.get _ (h3.has _ hg1)).trans ((h3.get _ hg1).trans gg1)))
 have a3 : ∀ {Hx}, Le H9 Hx → Hx.get g3 = some (.row (thC t)) := fun k => (k.get _ (h9.has _ (h5.has _ hg3))).trans ((h9.get _ (h5.has _ hg3)).trans ((h5.get _ hg3).trans gg3))
 refine joinX_w (fun x Hx => x = (.at g1 0, .at g3 0, .at g5 0, .at g9 0) ∧ Hx = H9) ?_ ?_
 ·rintro x Hx ⟨rfl, rfl⟩
  simp only [pR_, nilK_at, fN_eq, Nat.add_eq, Nat.mul_eq, Nat.zero_add, Nat.add_zero]
  refine rowK_w (a3 (Le.refl _)) (ldG_we (ys := ((thC t).drop 3).take 8) (lb rfl) (by decide) rfl ?_)
  refine loopX_w (fun y Hy => ∃ i : Nat, y = (.at g1 0, .at g5 0, .at g9 0, ((thC t).drop 3).take 8, (i : Int)) ∧ i ≤ 4 ∧ Le Hx Hy) (fun y => 4 - y.2.2.2.2.toNat) ⟨0, rfl, by omega, Le.refl _⟩ (by show 4 - (Int.toNat ((0 : Nat) : Int)) < lf; simp; omega) ?_
  rintro self y Hy ⟨i, rfl, hi, hL⟩ ih
  simp only [pR_, fB_eq, iLt_dec, nilK_at, fN_eq, Nat.add_eq, Nat.mul_eq, Nat.zero_add, Nat.add_zero]
  refine ifA_w (fun hx => ?_) (fun hx => ?_)
  ·have hx : i < 4 := by have := of_decide_eq_true hx; simp only [Int.ofNat_eq_natCast] at this; omega
   refine idxK_w (by omega) (by omega) ?_
   rw [Int.toNat_natCast]
   refine ldG_we (ys := fdC (fdOf t i)) (by show i * 2 + 2 ≤ 8; omega) (by decide) (th_f8 t i hx) ?_
   refine tmp_w rfl rfl fun gt Hz hz hgt ngt ggt => ?_
   refine idxK_w (by omega) (by omega) ?_
   rw [Int.toNat_natCast]
   refine rowK_w (a1 (hL.trans hz)) (ldG_we (ys := fdC (fdOf t i)) (by show 3 + i * 2 + 2 ≤ 11; omega) (by decide) (th_fd t i hx) ?_)
   refine rowK_w ggt (ldG_we (ys := fdC (fdOf t i)) (Nat.le_refl 2) (by decide) rfl (okK_w rfl ?_))
   rw [same_f2]
   refine ifA_w (fun h => by cases h) (fun _ => ?_)
   rw [iAdd_]
   exact w64_w (by simp only [Int.ofNat_eq_natCast]; omega) (by simp only [Int.ofNat_eq_natCast]; omega) (ih _ _ ⟨i + 1, by simp, by omega, hL.trans hz⟩ (by simp; omega))
  ·have gg9y := (hL.get _ hg9).trans gg9
   refine rowK_w gg9y (ldG_w (lb rfl) (by decide) ?_)
   refine getK_w gg9y (rowK_w gg9y (ldI_w (n := 0) rfl ?_))
   refine okK_w (by rw [kHas_ne d59 rfl, kSame_row gg9y rfl rfl]; rfl) ?_
   have gg5y := (hL.get _ (h9.has _ hg5)).trans ((h9.get _ hg5).trans gg5)
   refine stoN_w gg5y rfl (lb rfl) (rowK_w (get_put _ _ _) (ldG_w (lb rfl) (by decide) ?_))
   refine hk _ _ ?_ rfl
   exact ((h1.trans (h3.trans (h5.trans (h9.trans hL)))).put (fun h => ng5 (h3.has _ (h1.has _ h))) _)
 ·intro J hJ
  refine rowK_w (a1 (Le.refl _)) (ldG_we (ys := ptC t.pt) (lb rfl) (by decide) rfl (rowK_w (a3 (Le.refl _)) (ldG_we (ys := ptC t.pt) (lb rfl) (by decide) rfl (okK_w rfl ?_))))
  rw [same_p2, fB_eq]
  refine ifA_w (fun h => by cases h) (fun _ => ?_)
  exact hJ _ _ ⟨rfl, rfl⟩
def z12 : List AS := [AS.int .i64 (Int.ofNat 0), AS.int .u8 (Int.ofNat 0), AS.int .i64 (Int.ofNat 0), AS.int .i64 (Int.ofNat 0), AS.int .i64 (Int.ofNat 0), AS.str [], AS.int .i64 (Int.ofNat 0), AS.str [], AS.int .i64 (Int.ofNat 0), AS.str [], AS.int .i64 (Int.ofNat 0), AS.str []]
def evC (t : Th) : List AS := .int .i64 1 :: .int .i64 t.id :: (thC t ++ z12)
theorem evC_len (t : Th) : (evC t).length = 25 := rfl
def enterL (a b : List Th) : List Th := if a = [] then b else []
def CDiffOf (cl : Cl) : Prop := ∀ H p n c z ts r p' n' c' z' us r' K, SR 11 H p n z (thsC ts) → SR 11 H p' n' z' (thsC us) → n < 10000 → n' < 10000 → (seenT r ts = [] ∨ seenT r ts = seenT r' us) →
 (∀ H' q cq zq, Le H H' → SR 25 H' q (enterL (seenT r ts) (seenT r' us)).length zq ((enterL (seenT r ts) (seenT r' us)).flatMap evC) → (∀ a, ownP q a → ¬ H.has a) → K (.s (.slice q (enterL (seenT r ts) (seenT r' us)).length cq zq)) H' = true) →
 cl i_diff_Of [.s (.slice p n c z), .agg (rcC r), .s (.slice p' n' c' z'), .agg (rcC r')] H K = true
theorem B_diff_Of_ {lf : Nat} {cl : Cl} (hlf : 100000 ≤ lf) (hseen : CSeenD cl) (hdiff : CDiffEq cl) {H : AH} {p : AP} {n z : Nat} {c : ACap} {ts : List Th} {r : Rc} {p' : AP} {n' z' : Nat} {c' : ACap} {us : List Th} {r' : Rc} {K : AV → AH → Bool}
  (sr : SR 11 H p n z (thsC ts)) (sr' : SR 11 H p' n' z' (thsC us)) (hn : n < 10000) (hn' : n' < 10000) (hab : seenT r ts = [] ∨ seenT r ts = seenT r' us)
  (hk : ∀ H' q cq zq, Le H H' → SR 25 H' q (enterL (seenT r ts) (seenT r' us)).length zq ((enterL (seenT r ts) (seenT r' us)).flatMap evC) → (∀ a, ownP q a → ¬ H.has a) → K (.s (.slice q (enterL (seenT r ts) (seenT r' us)).length cq zq)) H' = true) :
  B_diff_Of lf cl p n c z (rcC r) p' n' c' z' (rcC r') H K = true := by
 unfold B_diff_Of
 have hus : us.length = n' := by have := sr'.1; rw [thsC, flat_len thC_len'] at this; omega
 refine new_w fun g1 H1 h1 hg1 ng1 gg1 => new_w fun g3 H3 h3 hg3 ng3 gg3 => ?_
 refine rowK_w ((h3.get _ hg1).trans gg1) (ldG_we (ys := rcC r) (Nat.le_refl 4) (by decide) rfl ?_)
 refine getK_w gg3 (rowK_w gg3 (ldG_we (ys := rcC r') (Nat.le_refl 4) (by decide) rfl ?_))
 have h03 := h1.trans h3
 refine hseen _ _ _ _ _ _ _ _ (sr.le h03) hn fun H4 pa ca za h4 sa capa => ?_
 refine okK_w (kSame_row ((h4.get _ hg3).trans gg3) rfl rfl) ?_
 rw [asSl_]
 refine hseen _ _ _ _ _ _ _ _ (sr'.le (h03.trans h4)) hn' fun H5 pb cb zb h5 sb capb => ?_
 rw [asSl_]
 have hbl : (seenT r' us).length < 10000 := by have := List.length_filter_le (fun t : Th => RIn r' t.pt) us; unfold seenT; omega
 have qa := ((SQ.of sa capa).le h5).up h5
 have qb := SQ.of sb capb
 have h05 := h03.trans (h4.trans h5)
 clear sr sr' sa sb hg1 gg1 hg3 gg3 ng1 ng3
 have hE : enterL (seenT r ts) (seenT r' us) = [] ++ (if seenT r ts = [] then seenT r' us else []) := rfl
 generalize enterL (seenT r ts) (seenT r' us) = EV at *
 generalize seenT r ts = A at *
 generalize hB : seenT r' us = B at *
 refine loopX_w (fun x Hx => ∃ (a b ev : List Th) (pa pb po : AP) (na nb za zb zo : Nat) (ca cb co : ACap), x = ((pa, na, ca, za), (pb, nb, cb, zb), (po, ev.length, co, zo)) ∧ Le H5 Hx ∧ SQ H5 Hx pa na za ca a ∧ SQ H5 Hx pb nb zb cb b ∧ SR 25 Hx po ev.length zo (ev.flatMap evC) ∧ CapOk co ev.length ∧
   (∀ g, ownP po g → ¬ H5.has g) ∧ (a = [] ∨ a = b) ∧ EV = ev ++ (if a = [] then b else []) ∧ ev.length + b.length ≤ B.length) (fun x => x.2.1.2.1) ?_ ?_ ?_
 ·exact ⟨A, B, [], pa, pb, .nil, _, _, za, zb, 1, ca, cb, .lit 0, rfl, Le.refl _, qa, qb, SR.nil, Nat.le_refl 0, fun g ⟨o, e⟩ => (by cases e), hab, hE, by simp⟩
 ·show B.length < lf; omega
 clear qa qb capa capb hE
 rintro self x Hx ⟨a, b, ev, pa, pb, po, na, nb, za, zb, zo, ca, cb, co, rfl, hL, qa, qb, so, capo, oo, hab, hEV, hlen⟩ ih
 have hna := qa.1
 have hnb := qb.1
 simp only [pR_, fB_eq, iEq_dec, iLt_dec]
 refine joinX_w (fun y Hy => Hy = Hx ∧ y = ((pa, na, ca, za), (pb, nb, cb, zb), (po, ev.length, co, zo), decide (a = [] ∧ b = []))) ?_ ?_
 ·rintro y Hy ⟨rfl, rfl⟩
  simp only [pR_]
  refine ifA_w (fun hx => ?_) (fun hx => ?_)
  ·obtain ⟨ha, hb⟩ : a = [] ∧ b = [] := of_decide_eq_true hx
   subst ha hb
   rw [if_pos rfl, List.append_nil] at hEV
   subst hEV
   exact hk _ _ _ _ (h05.trans hL) so fun g h h' => oo g h (h05.has g h')
  ·have hx : ¬ (a = [] ∧ b = []) := of_decide_eq_false hx
   obtain ⟨u, b', rfl⟩ : ∃ u b', b = u :: b' := by
    cases b with
    | nil =>
     rcases hab with h | h
     ·exact absurd ⟨h, rfl⟩ hx
     ·exact absurd ⟨h, rfl⟩ hx
    | cons u b' => exact ⟨u, b', rfl⟩
   obtain ⟨gb, ob', cs, rfl, rfl, hnb', ggb, c0, c11, hcl⟩ := qb.at
   have hblt : Nat.blt 0 nb = true := by rw [Nat.blt_eq]; omega
   rw [List.length_cons] at hlen
   refine joinX_w (fun y Hz => Hz = Hy ∧ y = ((pa, na, ca, za), (.at gb ob', nb, cb, 11), (po, ev.length, co, zo), decide (a = []))) ?_ ?_
   ·rintro y Hz ⟨rfl, rfl⟩
    simp only [pR_]
    refine ifA_w (fun ha => ?_) (fun ha => ?_)
    ·have ha : a = [] := of_decide_eq_true ha
     subst ha
     simp only [nilK_at, fN_eq, Nat.add_eq, Nat.add_zero]
     refine okK_w hblt (rowK_w ggb (ldI_w c0 (okK_w hblt (rowK_w ggb (ldG_we (ys := thC u) hcl (by decide) c11 (okK_w rfl (fL_w (okK_w rfl (fL_w ?_)))))))))
     rw [ap_eq, ap_eq, List.append_nil]
     refine okK_w rfl (newK_w (elK_w (ys := evC u) (get_new _ _) (lb rfl) rfl ?_))
     have hLn := (Le.refl Hz).newr (.row (evC u))
     refine appT_w (so.le hLn) capo (m := 1) rfl (by omega) (by omega) fun p2 c2 z2 H4 f4 s4 cap4 o4 => ?_
     have hL4 : Le H5 H4 := ⟨fun a h => f4.has a (hLn.has _ (hL.has _ h)), fun a h => (f4.get a (hLn.has _ (hL.has _ h)) fun h' => oo a h' h).trans ((hLn.get _ (hL.has _ h)).trans (hL.get a h))⟩
     have qb4 := (qb.le hLn).fr f4 fun g h h' => oo g h' h
     refine qb4.tail fun p'' c'' q'' => ?_
     refine ih _ _ ⟨[], b', ev ++ [u], pa, p'', p2, na, b'.length, za, 11, z2, ca, c'', c2, by simp, hL4, ⟨qa.1, fun h => absurd (by rw [← qa.1]; rfl) h⟩, q'', ?_, by rw [List.length_append]; exact cap4, fun g h h' => (o4 g h).elim (fun e => oo g e h') fun e => e (hLn.has _ (hL.has _ h')), .inl rfl, ?_, ?_⟩ (by show b'.length < nb; omega)
     ·rw [List.length_append, List.flatMap_append]; simpa using s4
     ·rw [hEV, if_pos rfl, if_pos rfl, List.append_assoc]; rfl
     ·rw [List.length_append, List.length_singleton]; omega
    ·have ha : ¬ a = [] := of_decide_eq_false ha
     have hab' : a = u :: b' := hab.resolve_left ha
     subst hab'
     obtain ⟨ga, oa, ds, rfl, rfl, hna', gga, d0, d11, hdl⟩ := qa.at
     have halt : Nat.blt 0 na = true := by rw [Nat.blt_eq]; omega
     refine joinX_w (fun y Hw => Hw = Hz ∧ y = ((.at ga oa, na, ca, 11), (.at gb ob', nb, cb, 11), (po, ev.length, co, zo), false)) ?_ ?_
     ·rintro y Hw ⟨rfl, rfl⟩
      simp only [pR_]
      refine ifA_w (fun h => by cases h) (fun _ => ?_)
      refine joinX_w (fun y Hv => Le Hw Hv ∧ y = ((.at ga oa, na, ca, 11), (.at gb ob', nb, cb, 11), (po, ev.length, co, zo))) ?_ ?_
      ·rintro y Hv ⟨hv, rfl⟩
       simp only [pR_]
       refine (qa.le hv).tail fun pa' ca' qa' => (qb.le hv).tail fun pb' cb' qb' => ?_
       refine ih _ _ ⟨b', b', ev, pa', pb', po, _, _, 11, 11, zo, ca', cb', co, rfl, hL.trans hv, qa', qb', so.le hv, capo, oo, .inr rfl, ?_, by omega⟩ (by show b'.length < nb; omega)
       rw [hEV, if_neg (by simp)]
       by_cases hb0 : b' = []
       ·rw [if_pos hb0, hb0]
       ·rw [if_neg hb0]
      ·intro J163 hJ
       refine joinX_w (fun y Hv => Le Hw Hv ∧ ∃ gd, y = ((.at ga oa, na, ca, 11), (.at gb ob', nb, cb, 11), (po, ev.length, co, zo), .at gd 0, false)) ?_ ?_
       ·rintro y Hv ⟨hv, gd, rfl⟩
        simp only [pR_]
        exact ifA_w (fun h => by cases h) (fun _ => hJ _ _ ⟨hv, rfl⟩)
       ·intro J138 hJ2
        simp only [nilK_at, fN_eq, Nat.add_eq, Nat.add_zero]
        refine okK_w halt (getK_w gga (rowK_w gga (ldG_we (ys := thC u) hdl (by decide) d11 (okK_w hblt (getK_w ggb (rowK_w ggb (ldG_we (ys := thC u) hcl (by decide) c11 ?_)))))))
        refine okK_w ?_ ?_
        ·refine hdiff _ _ _ fun H6 cs6 h6 l6 => ?_
         rw [tup2_, asG_]
         refine arB_w (tmp_w l6 rfl fun gd H7 h7 _ _ _ => hJ2 _ _ ⟨h6.trans h7, gd, rfl⟩)
        ·refine new_w fun gd H6 h6 hgd ngd ggd => ?_
         refine hdiff _ _ _ fun H7 cs7 h7 l7 => ?_
         rw [tup2_, asG_]
         refine arB_w (stoN_w ((h7.get _ hgd).trans ggd) l7 (lb rfl) ?_)
         exact hJ2 _ _ ⟨(h6.trans h7).put ngd _, gd, rfl⟩
     ·intro J hJ
      rw [decide_eq_false (show ¬ Int.ofNat nb = Int.ofNat 0 by simp only [Int.ofNat_eq_natCast]; omega)]
      refine ifA_w (fun h => by cases h) (fun _ => ?_)
      simp only [nilK_at, fN_eq, Nat.add_eq, Nat.add_zero]
      refine okK_w halt (rowK_w gga (ldI_w d0 (okK_w hblt (rowK_w ggb (ldI_w c0 ?_)))))
      rw [decide_eq_false (Int.lt_irrefl _)]
      exact hJ _ _ ⟨rfl, rfl⟩
   ·intro J hJ
    refine ifA_w (fun h0 => ?_) (fun h0 => ?_)
    ·have h0 := of_decide_eq_true h0
     have ha : a = [] := List.length_eq_zero_iff.1 (by simp only [Int.ofNat_eq_natCast] at h0; omega)
     exact hJ _ _ ⟨rfl, by rw [decide_eq_true ha]⟩
    ·have h0 := of_decide_eq_false h0
     have ha : ¬ a = [] := fun e => h0 (by rw [e] at hna; rw [← hna]; rfl)
     have hab' : a = u :: b' := hab.resolve_left ha
     subst hab'
     obtain ⟨ga, oa, ds, rfl, rfl, hna', gga, d0, d11, hdl⟩ := qa.at
     have halt : Nat.blt 0 na = true := by rw [Nat.blt_eq]; omega
     refine ifA_w (fun h1 => ?_) (fun h1 => ?_)
     ·simp only [nilK_at, fN_eq, Nat.add_eq, Nat.add_zero]
      refine okK_w hblt (rowK_w ggb (ldI_w c0 (okK_w halt (rowK_w gga (ldI_w d0 ?_)))))
      rw [decide_eq_false (Int.lt_irrefl _)]
      exact hJ _ _ ⟨rfl, by rw [decide_eq_false ha]⟩
     ·exact hJ _ _ ⟨rfl, by rw [decide_eq_false ha]⟩
 ·intro J hJ
  refine ifA_w (fun h0 => ?_) (fun h0 => ?_)
  ·have h0 := of_decide_eq_true h0
   have ha : a = [] := List.length_eq_zero_iff.1 (by simp only [Int.ofNat_eq_natCast] at h0; omega)
   refine hJ _ _ ⟨rfl, ?_⟩
   congr 4
   subst ha
   rw [show (Int.ofNat nb = Int.ofNat 0) = (([] : List Th) = [] ∧ b = []) from propext ⟨fun e => ⟨rfl, List.length_eq_zero_iff.1 (by simp only [Int.ofNat_eq_natCast] at e; omega)⟩, fun e => by rw [e.2] at hnb; rw [← hnb]; rfl⟩]
  ·have h0 := of_decide_eq_false h0
   refine hJ _ _ ⟨rfl, ?_⟩
   rw [decide_eq_false (show ¬ (a = [] ∧ b = []) from fun e => h0 (by rw [e.1] at hna; rw [← hna]; rfl))]
end Go.Proofs
end
section
namespace Go.Proofs
open Go Go.Vw Go.Vw.Ev
set_option linter.unusedVariables false
set_option linter.unusedSimpArgs false
theorem RB.apW {H H' : AH} {s : RgSt} {f : Nat → AS} {Q : Nat → Pn → Prop} {p : AP} {c : ACap} {z : Nat} {b : Pn} {t : Cm} (r : RB H s f Q) (e : f 35 = .slice p s.watch.length c z) (k : Fr (ownP p) H H') (nb : ¬ H.has b)
  (sr : SR 22 H' (.at b 0) (s.watch.length + 1) 22 (s.watch.flatMap cmC ++ cmC t)) : RB H' { s with watch := s.watch ++ [t] } (updA f 35 (.slice (.at b 0) (s.watch.length + 1) (.of b 0) 22)) (updA Q 35 (ownP (.at b 0))) :=
 have hq : ∀ a, ownP p a → Q 35 a := fun a h => (r.q35 a).2 (by rw [e]; exact h)
 have hne : ∀ i a, i ≠ 35 → Q i a → ¬ ownP p a := fun i a hi h h' => hi (r.dis i 35 a h (hq a h'))
 {i0 := r.i0, i1 := r.i1, i2 := r.i2, i34 := r.i34, i37 := r.i37, i39 := r.i39, i40 := r.i40
  s4 := r.s4.fr k fun a h => hne 4 a (by decide) ((r.q4 a).2 h)
  s35 := ⟨.at b 0, .of b 0, 22, by simp [updA], trivial, by simpa using sr⟩
  s36 := r.s36.fr k fun a h => hne 36 a (by decide) ((r.q36 a).2 h)
  s38 := r.s38.fr k fun a h => hne 38 a (by decide) ((r.q38 a).2 h)
  s41 := r.s41.fr k fun a h => hne 41 a (by decide) ((r.q41 a).2 h)
  s42 := r.s42.fr k fun a h => hne 42 a (by decide) ((r.q42 a).2 h)
  s43 := r.s43.fr k fun a h => hne 43 a (by decide) ((r.q43 a).2 h)
  s44 := r.s44.fr k fun a h => hne 44 a (by decide) ((r.q44 a).2 h)
  tab := r.tab.imp fun gt h => ⟨h.1, h.2.fr k fun a ha => hne 45 a (by decide) ha⟩
  own := r.own.imp fun go h => ⟨h.1, h.2.1.fr k (hne 46 go (by decide) ((h.2.2 go).2 rfl)), h.2.2⟩
  book := r.book.imp fun gb h => ⟨h.1, h.2.1.fr k (hne 47 gb (by decide) ((h.2.2 gb).2 rfl)), h.2.2⟩
  q4 := r.q4, q35 := fun a => Iff.rfl, q36 := r.q36, q38 := r.q38, q41 := r.q41, q42 := r.q42, q43 := r.q43, q44 := r.q44
  pl := pl_upd r.pl rfl
  dis := dis_upd r.dis r.qh fun a ⟨o, e⟩ => by cases e; exact .inr nb
  qh := fun i a h => by
   by_cases ei : i = 35
   ·subst ei
    rw [updA_same] at h
    exact sr.has a h
   ·rw [updA_ne _ _ ei] at h
    exact k.has a (r.qh i a h) }
theorem RB.apH {H H' : AH} {s : RgSt} {f : Nat → AS} {Q : Nat → Pn → Prop} {p : AP} {c : ACap} {z : Nat} {b : Pn} {t : Int × Int} (r : RB H s f Q) (e : f 36 = .slice p s.hands.length c z) (k : Fr (ownP p) H H') (nb : ¬ H.has b)
  (sr : SR 2 H' (.at b 0) (s.hands.length + 1) 2 (s.hands.flatMap hdC ++ hdC t)) : RB H' { s with hands := s.hands ++ [t] } (updA f 36 (.slice (.at b 0) (s.hands.length + 1) (.of b 0) 2)) (updA Q 36 (ownP (.at b 0))) :=
 have hq : ∀ a, ownP p a → Q 36 a := fun a h => (r.q36 a).2 (by rw [e]; exact h)
 have hne : ∀ i a, i ≠ 36 → Q i a → ¬ ownP p a := fun i a hi h h' => hi (r.dis i 36 a h (hq a h'))
 {i0 := r.i0, i1 := r.i1, i2 := r.i2, i34 := r.i34, i37 := r.i37, i39 := r.i39, i40 := r.i40
  s4 := r.s4.fr k fun a h => hne 4 a (by decide) ((r.q4 a).2 h)
  s35 := r.s35.fr k fun a h => hne 35 a (by decide) ((r.q35 a).2 h)
  s36 := ⟨.at b 0, .of b 0, 2, by simp [updA], trivial, by simpa using sr⟩
  s38 := r.s38.fr k fun a h => hne 38 a (by decide) ((r.q38 a).2 h)
  s41 := r.s41.fr k fun a h => hne 41 a (by decide) ((r.q41 a).2 h)
  s42 := r.s42.fr k fun a h => hne 42 a (by decide) ((r.q42 a).2 h)
  s43 := r.s43.fr k fun a h => hne 43 a (by decide) ((r.q43 a).2 h)
  s44 := r.s44.fr k fun a h => hne 44 a (by decide) ((r.q44 a).2 h)
  tab := r.tab.imp fun gt h => ⟨h.1, h.2.fr k fun a ha => hne 45 a (by decide) ha⟩
  own := r.own.imp fun go h => ⟨h.1, h.2.1.fr k (hne 46 go (by decide) ((h.2.2 go).2 rfl)), h.2.2⟩
  book := r.book.imp fun gb h => ⟨h.1, h.2.1.fr k (hne 47 gb (by decide) ((h.2.2 gb).2 rfl)), h.2.2⟩
  q4 := r.q4, q35 := r.q35, q36 := fun a => Iff.rfl, q38 := r.q38, q41 := r.q41, q42 := r.q42, q43 := r.q43, q44 := r.q44
  pl := pl_upd r.pl rfl
  dis := dis_upd r.dis r.qh fun a ⟨o, e⟩ => by cases e; exact .inr nb
  qh := fun i a h => by
   by_cases ei : i = 36
   ·subst ei
    rw [updA_same] at h
    exact sr.has a h
   ·rw [updA_ne _ _ ei] at h
    exact k.has a (r.qh i a h) }
def CBkLoad2 (cl : Cl) : Prop := ∀ H l K, l.length = 4 → (∀ H' g, Le H H' → BK H' g l → ¬ H.has g → K (.s (.ptr (.at g 0))) H' = true) → cl i_watch_Load [.agg (wtsC l)] H K = true
def CBkCopy (cl : Cl) : Prop := ∀ H g l K, BK H g l → (∀ H' g', Le H H' → BK H' g' l → ¬ H.has g' → K (.s (.ptr (.at g' 0))) H' = true) → cl i_watch_Book_Copy [.s (.ptr (.at g 0))] H K = true
theorem B_watch_Book_Copy_ {lf : Nat} {cl : Cl} (hld : CBkLoad2 cl) {H : AH} {g : Pn} {l : List Wt} {K : AV → AH → Bool} (bk : BK H g l) (hk : ∀ H' g', Le H H' → BK H' g' l → ¬ H.has g' → K (.s (.ptr (.at g' 0))) H' = true) : B_watch_Book_Copy lf cl (.at g 0) H K = true := by
 unfold B_watch_Book_Copy
 have hl : (wtsC l).length = 28 := by rw [wtsC, flat_len wtC_len, bk.len]
 simp only [nilK_at, fN_eq, Nat.add_eq, Nat.add_zero]
 refine rowK_w bk.get (ldG_we (ys := wtsC l) (by rw [hl]; decide) (by decide) (by rw [List.drop_zero, ← hl, List.take_length]) ?_)
 refine hld _ _ _ bk.len fun H' g' h' bk' ng' => ?_
 rw [asP_]
 exact hk _ _ h' bk' ng'
noncomputable def bkAllL (l : List Wt) (cs : List Cm) (beat : Int) : List Wt := cs.foldl (fun l c => bkL l c beat) l
noncomputable def wchE (s : RgSt) (c : Cm) : Int := if Int.tmod c.client s.n ≠ s.id then 17 else bkE (bkAllL s.wat (s.last.watch ++ s.watch) 0) c
noncomputable def wchS (s : RgSt) (c : Cm) : RgSt := if wchE s c ≠ 0 then s else { s with watch := s.watch ++ [c] }
structure SmW (s : RgSt) : Prop where
 n : s.n ≠ 0
 w : s.watch.length < 10000
 lw : s.last.watch.length < 10000
def CWch (cl : Cl) : Prop := ∀ H g s O c K, RgS H g s O → Sm s → SmW s → (∀ H' O', Fr O H H' → RgS H' g (wchS s c) O' → (∀ a, O' a → O a ∨ ¬ H.has a) → K (.s (.int .i64 (wchE s c))) H' = true) → cl i_region_Region_watches [.s (.ptr (.at g 0)), .agg (cmC c)] H K = true
theorem bkAll_take (l : List Wt) (cs : List Cm) (b : Int) {i : Nat} (h : i < cs.length) : bkAllL l (cs.take (i + 1)) b = bkL (bkAllL l (cs.take i) b) cs[i] b := by
 unfold bkAllL
 rw [List.take_succ_eq_append_getElem h, List.foldl_append]
 rfl
theorem bkAll_app (l : List Wt) (cs ds : List Cm) (b : Int) : bkAllL l (cs ++ ds) b = bkAllL (bkAllL l cs b) ds b := List.foldl_append
theorem B_region_Region_watches_ {lf : Nat} {cl : Cl} (hlf : 100000 ≤ lf) (hcopy : CBkCopy cl) (hdo : CBkDo cl) {H : AH} {g : Pn} {s : RgSt} {O : Pn → Prop} {c : Cm} {K : AV → AH → Bool} (rg : RgS H g s O) (sm : Sm s) (sw : SmW s)
  (hk : ∀ H' O', Fr O H H' → RgS H' g (wchS s c) O' → (∀ a, O' a → O a ∨ ¬ H.has a) → K (.s (.int .i64 (wchE s c))) H' = true) : B_region_Region_watches lf cl (.at g 0) (cmC c) H K = true := by
 unfold B_region_Region_watches
 have keep : ∀ {H'} {e : Int}, Le H H' → wchE s c = e → e ≠ 0 → K (.s (.int .i64 e)) H' = true := by
  intro H' e hl he hn
  have := hk H' O (hl.fr _) (by unfold wchS; rw [he, if_pos hn]; exact rg.le hl) fun a h => .inl h
  rwa [he] at this
 refine new_w fun gc H1 h1 hgc ngc ggc => ?_
 refine rowK_w ggc (ldI_w (n := c.client) rfl ?_)
 have rg1 := rg.le h1
 obtain ⟨f, Q, rb, hg, gg, q0, ho⟩ := rg1
 obtain ⟨gb, e47, bk, _⟩ := rb.book
 obtain ⟨pL, cL, zL, e44, _, srL⟩ := rb.s44
 obtain ⟨pW, cW, zW, e35, capW, srW⟩ := rb.s35
 simp only [nilK_at, fN_eq, Nat.add_eq, Nat.zero_add, Nat.add_zero, fB_eq, iEq_dec]
 refine rowK_w gg (ldI_w (n := s.n) (by rw [c48_get _ (by decide), rb.i1]) ?_)
 refine okK_w (by rw [decide_eq_false (show ¬ s.n = Int.ofNat 0 from sw.n)]; rfl) ?_
 rw [fI_eq]
 refine rowK_w gg (ldI_w (n := s.id) (by rw [c48_get _ (by decide), rb.i0]) ?_)
 refine ifA_w (fun hx => keep h1 (e := 17) (by unfold wchE; rw [if_pos (by simpa using hx)]) (by decide)) (fun hx => ?_)
 have hown : ¬ Int.tmod c.client s.n ≠ s.id := fun h => by simp [h] at hx
 have eW : wchE s c = bkE (bkAllL s.wat (s.last.watch ++ s.watch) 0) c := by unfold wchE; rw [if_neg hown]
 refine rowK_w gg (ldP_w (p := .at gb 0) (by rw [c48_get _ (by decide), e47]) ?_)
 refine hcopy _ _ _ _ bk fun H2 g2 h2 bk2 ng2 => ?_
 rw [asP_]
 have gg2 := (h2.get _ hg).trans gg
 refine rowK_w gg2 (ldSl_w (by rw [c48_get _ (by decide), e44]) (rowK_w gg2 (ldSl_w (by rw [c48_get _ (by decide), e35]) ?_)))
 have h12 := h1.trans h2
 refine loopX_w (fun x Hx => ∃ i : Nat, x = (.at g 0, .at gc 0, .at g2 0, [AS.slice pL s.last.watch.length cL zL, AS.slice pW s.watch.length cW zW], (i : Int)) ∧ i ≤ 2 ∧ Fr (fun a => a = g2) H2 Hx ∧ BK Hx g2 (if i = 0 then s.wat else if i = 1 then bkAllL s.wat s.last.watch 0 else bkAllL s.wat (s.last.watch ++ s.watch) 0)) (fun x => 2 - x.2.2.2.2.toNat)
  ⟨0, rfl, by omega, Fr.refl _ _, bk2⟩ (by simp; omega) ?_
 rintro self x Hx ⟨i, rfl, hi, fx, bkx⟩ ih
 simp only [pR_, iLt_dec]
 have kg2 : ∀ {a}, H1.has a → ¬ a = g2 := fun h e => ng2 (e ▸ h)
 refine ifA_w (fun hx => ?_) (fun hx => ?_)
 ·have hx : i < 2 := by have := of_decide_eq_true hx; simp only [Int.ofNat_eq_natCast] at this; omega
  refine idxK_w (by omega) (by omega) ?_
  rw [Int.toNat_natCast]
  have row : ∀ (cs : List Cm) (pp : AP) (cc : ACap) (zz : Nat) (b0 b1 : List Wt), SR 22 Hx pp cs.length zz (cs.flatMap cmC) → cs.length < 10000 → (∀ a, ownP pp a → ¬ a = g2) → BK Hx g2 b0 → bkAllL b0 cs 0 = b1 → (∀ Hy, Fr (fun a => a = g2) Hx Hy → BK Hy g2 b1 → self (.at g 0, .at gc 0, .at g2 0, [AS.slice pL s.last.watch.length cL zL, AS.slice pW s.watch.length cW zW], (i : Int) + 1) Hy = true) →
    (loopX lf (fun (self58 : (AP × AP × AP × List AS × Int × (AP × Nat × ACap × Nat) × Int × Int) → AH → Bool) (x56 : AP × AP × AP × List AS × Int × (AP × Nat × ACap × Nat) × Int × Int) (h57 : AH) => pR x56 fun p59 r60 => pR r60 fun p61 r62 => pR r62 fun p63 r64 => pR r64 fun cs65 r66 => pR r66 fun n67 r68 => pR r68 fun u69 r69 => pR u69 fun p69 r69a => pR r69a fun l69 r69b => pR r69b fun c69 z69 => pR r69 fun n70 r71 => ifA (decide (r71 < n70)) (nilK p69 fun g74 o75 => idxK r71 l69 fun m76 => rowK h57 g74 fun cs78 => ldG cs78 (o75 + Nat.mul m76 22) 22 fun cs79 => newK h57 (.row [AS.int .i64 (Int.ofNat 0), AS.int .i64 (Int.ofNat 0), AS.int .i64 (Int.ofNat 0), AS.int .i64 (Int.ofNat 0), AS.int .i64 (Int.ofNat 0), AS.int .i64 (Int.ofNat 0), AS.int .i64 (Int.ofNat 0), AS.str [], AS.int .i64 (Int.ofNat 0), AS.str [], AS.int .i64 (Int.ofNat 0), AS.str [], AS.int .i64 (Int.ofNat 0), AS.str [], AS.int .i64 (Int.ofNat 0), AS.str [], AS.int .i64 (Int.ofNat 0), AS.int .i64 (Int.ofNat 0), AS.int .i64 (Int.ofNat 0), AS.int .i64 (Int.ofNat 0), AS.int .i64 (Int.ofNat 0), AS.int .i64 (Int.ofNat 0)]) fun g80 h81 => stoN h81 g80 0 22 cs79 fun h82 => rowK h82 g80 fun cs83 => ldG cs83 0 22 fun cs84 => cl i_watch_Book_Do [AV.s (AS.ptr p63), AV.agg cs84, AV.s (AS.int .i64 (Int.ofNat 0))] h82 fun r85 h86 => arI r85 .i64 fun n87 => w64 (iAdd r71 (Int.ofNat 1)) fun n88 => self58 (p59, p61, p63, cs65, n67, (p69, l69, c69, z69), n70, n88) h86) (w64 (iAdd n67 (Int.ofNat 1)) fun n89 => self (p59, p61, p63, cs65, n89) h57)) (.at g 0, .at gc 0, .at g2 0, [AS.slice pL s.last.watch.length cL zL, AS.slice pW s.watch.length cW zW], (i : Int), (pp, cs.length, cc, zz), (Int.ofNat cs.length), (Int.ofNat 0)) Hx) = true := by
   intro cs pp cc zz b0 b1 sr hl hne bk0 eb hfin
   refine loopX_w (fun y Hy => ∃ j : Nat, y = (.at g 0, .at gc 0, .at g2 0, [AS.slice pL s.last.watch.length cL zL, AS.slice pW s.watch.length cW zW], (i : Int), (pp, cs.length, cc, zz), (cs.length : Int), (j : Int)) ∧ j ≤ cs.length ∧ Fr (fun a => a = g2) Hx Hy ∧ BK Hy g2 (bkAllL b0 (cs.take j) 0)) (fun y => cs.length - y.2.2.2.2.2.2.2.toNat) ⟨0, rfl, by omega, Fr.refl _ _, bk0⟩ (by simp; omega) ?_
   rintro self2 y Hy ⟨j, rfl, hj, fy, bky⟩ ih2
   simp only [pR_]
   refine ifA_w (fun hx => ?_) (fun hx => ?_)
   ·have hx : j < cs.length := by have := of_decide_eq_true hx; omega
    have hseg := flat_at cmC_len cs j hx
    have hls := bkAll_take b0 cs 0 hx
    generalize cs[j] = d at *
    obtain ⟨b, rfl, hb, gbb⟩ := (sr.fr fy fun a h => hne a h).at (by omega)
    have hfl := sr.1
    simp only [nilK_at, Nat.mul_eq, Nat.zero_add]
    refine idxK_w (by omega) (by omega) ?_
    rw [Int.toNat_natCast]
    refine rowK_w gbb (ldG_we (ys := cmC d) (by omega) (by decide) hseg ?_)
    refine tmp_w rfl rfl fun gd H4 h4 hgd ngd ggd => ?_
    refine rowK_w ggd (ldG_we (ys := cmC d) (lb rfl) (by decide) rfl ?_)
    refine hdo _ _ _ _ _ _ ((bky.fr (h4.fr fun _ => False) fun h => h)) fun H5 f5 bk5 => arI_w ?_
    rw [iAdd_]
    refine w64_w (by simp only [Int.ofNat_eq_natCast]; omega) (by simp only [Int.ofNat_eq_natCast]; omega) (ih2 _ _ ⟨j + 1, by simp, by omega, (fy.trans (h4.fr _) fun _ h => .inl h).trans f5 fun _ h => .inl h, by rw [hls]; exact bk5⟩ (by simp; omega))
   ·have hx : j = cs.length := by have := of_decide_eq_false hx; omega
    subst hx
    rw [List.take_length, eb] at bky
    rw [iAdd_]
    exact w64_w (by simp only [Int.ofNat_eq_natCast]; omega) (by simp only [Int.ofNat_eq_natCast]; omega) (hfin _ fy bky)
  rcases (show i = 0 ∨ i = 1 by omega) with rfl | rfl
  ·refine ldSl_w (p := pL) (n := s.last.watch.length) (c := cL) (z := zL) rfl ?_
   refine row s.last.watch pL cL zL s.wat (bkAllL s.wat s.last.watch 0) ((srL.le h2).fr fx fun a ha => kg2 (srL.has a ha)) sw.lw (fun a ha => kg2 (srL.has a ha)) bkx rfl fun Hy fy bky => ?_
   exact ih _ _ ⟨1, by simp, by omega, fx.trans fy fun _ h => .inl h, bky⟩ (by simp)
  ·refine ldSl_w (p := pW) (n := s.watch.length) (c := cW) (z := zW) rfl ?_
   refine row s.watch pW cW zW (bkAllL s.wat s.last.watch 0) (bkAllL s.wat (s.last.watch ++ s.watch) 0) ((srW.le h2).fr fx fun a ha => kg2 (srW.has a ha)) sw.w (fun a ha => kg2 (srW.has a ha)) bkx (bkAll_app _ _ _ _).symm fun Hy fy bky => ?_
   exact ih _ _ ⟨2, by simp, by omega, fx.trans fy fun _ h => .inl h, bky⟩ (by simp)
 ·have hx : i = 2 := by have := of_decide_eq_false hx; simp only [Int.ofNat_eq_natCast] at this; omega
  subst hx
  rw [if_neg (by decide), if_neg (by decide)] at bkx
  have gcx := (fx.get _ (h2.has _ hgc) (kg2 hgc)).trans ((h2.get _ hgc).trans ggc)
  have hgcx := fx.has _ (h2.has _ hgc)
  refine rowK_w gcx (ldG_we (ys := cmC c) (lb rfl) (by decide) rfl ?_)
  refine hdo _ _ _ _ _ _ bkx fun H3 f3 bk3 => arI_w ?_
  have f23 : Fr (fun a => a = g2) H2 H3 := fx.trans f3 fun _ h => .inl h
  have h13 : Le H1 H3 := ⟨fun a h => f23.has a (h2.has a h), fun a h => (f23.get a (h2.has a h) (kg2 h)).trans (h2.get a h)⟩
  refine ifA_w (fun hx => keep (h1.trans h13) eW (by simpa using hx)) (fun hx => ?_)
  have e0 : wchE s c = 0 := by rw [eW]; simpa using hx
  have gg3 := (h13.get _ hg).trans gg
  have hg3 := h13.has _ hg
  have gc3 := (h13.get _ hgc).trans ggc
  refine getK_w gg3 (rowK_w gg3 (ldSl_w (by rw [c48_get _ (by decide), e35]) ?_))
  refine rowK_w gc3 (ldG_we (ys := cmC c) (lb rfl) (by decide) rfl (okK_w rfl (fL_w ?_)))
  rw [ap_eq, List.append_nil]
  refine okK_w rfl (newK_w (elK_w (ys := cmC c) (get_new _ _) (lb rfl) rfl ?_))
  have h5 := h13.newr (.row (cmC c))
  generalize H3.new (.row (cmC c)) = H5 at *
  have rb5 := rb.fr (h5.fr fun _ => False) fun _ _ _ _ h => h
  have hwl := sw.w
  refine appS_w (srW.le h5) (m := 1) rfl (by decide) (by omega) (by omega) fun b H6 nb f6 sr6 => ?_
  have rb6 := rb5.apW (t := c) e35 f6 nb sr6
  have hnp : ¬ ownP pW g := fun h => absurd (rb5.dis 35 0 g ((rb5.q35 g).2 (by rw [e35]; exact h)) ((q0 g).2 rfl)) (by decide)
  have gg6 := (f6.get _ (h5.has _ hg) hnp).trans ((h5.get _ hg).trans gg)
  refine sto1_w gg6 (by rw [c48_len]; decide) ?_
  rw [c48_set]
  have fp7 : Fr (fun a => a = g) H6 (H6.put g (.row (c48 (updA f 35 (.slice (.at b 0) (s.watch.length + 1) (.of b 0) 22))))) := (Fr.refl (fun a => a = g) _).put (.inl rfl) _
  have q0' : ∀ a, updA Q 35 (ownP (.at b 0)) 0 a ↔ a = g := fun a => by rw [updA_ne _ _ (by decide)]; exact q0 a
  have rb7 := rb6.fr fp7 fun i a hi ha e => hi (rb6.dis i 0 a ha ((q0' a).2 e))
  have f57 : Fr O H1 H6 := (h5.fr O).trans (f6.mono fun a h => (ho a).2 ⟨35, (rb5.q35 a).2 (by rw [e35]; exact h)⟩) fun _ h => .inl h
  have fall : Fr O H _ := (h1.fr O).trans (f57.trans (fp7.mono fun a e => (ho a).2 ⟨0, (q0 a).2 e⟩) fun _ h => .inl h) fun _ h => .inl h
  have := hk _ (fun a => ∃ i, updA Q 35 (ownP (.at b 0)) i a) fall
   (by
    unfold wchS
    rw [e0, if_neg (fun h => h rfl)]
    exact ⟨_, _, rb7, f6.has _ (h5.has _ hg), get_put _ _ _, q0', fun _ => Iff.rfl⟩)
   (fun a ⟨i, hi⟩ => by
    by_cases e35i : i = 35
    ·subst e35i
     rw [updA_same] at hi
     obtain ⟨o, e⟩ := hi
     cases e
     exact .inr fun h => nb (h5.has _ (h1.has _ h))
    ·rw [updA_ne _ _ e35i] at hi
     exact .inl ((ho a).2 ⟨i, hi⟩))
  rw [e0] at this
  exact this
noncomputable def hndE (s : RgSt) (c : Cm) : Int := if isC c.which = false then 11 else if mineB s c.which = false then 17 else if c.to_ < 0 ∨ s.n ≤ c.to_ ∨ c.to_ = s.id then 19 else 0
noncomputable def hndS (s : RgSt) (c : Cm) : RgSt := if hndE s c ≠ 0 then s else { s with hands := s.hands ++ [(c.which, c.to_)] }
def CHnd (cl : Cl) : Prop := ∀ H g s O c K, RgS H g s O → Sm s → (∀ H' O', Fr O H H' → RgS H' g (hndS s c) O' → (∀ a, O' a → O a ∨ ¬ H.has a) → K (.s (.int .i64 (hndE s c))) H' = true) → cl i_region_Region_hands [.s (.ptr (.at g 0)), .agg (cmC c)] H K = true
theorem B_region_Region_hands_ {lf : Nat} {cl : Cl} (his : CIsC cl) (hmine : CMine cl) {H : AH} {g : Pn} {s : RgSt} {O : Pn → Prop} {c : Cm} {K : AV → AH → Bool} (rg : RgS H g s O) (sm : Sm s)
  (hk : ∀ H' O', Fr O H H' → RgS H' g (hndS s c) O' → (∀ a, O' a → O a ∨ ¬ H.has a) → K (.s (.int .i64 (hndE s c))) H' = true) : B_region_Region_hands lf cl (.at g 0) (cmC c) H K = true := by
 unfold B_region_Region_hands
 have keep : ∀ {H'} {e : Int}, Le H H' → hndE s c = e → e ≠ 0 → K (.s (.int .i64 e)) H' = true := by
  intro H' e hl he hn
  have := hk H' O (hl.fr _) (by unfold hndS; rw [he, if_pos hn]; exact rg.le hl) fun a h => .inl h
  rwa [he] at this
 refine new_w fun gc H1 h1 hgc ngc ggc => ?_
 refine rowK_w ggc (ldI_w (n := c.which) rfl ?_)
 refine his _ _ _ (arB_w ?_)
 simp only [fB_eq, iLt_dec, iLe_dec, iEq_dec]
 refine ifA_w (fun hx => keep h1 (e := 11) (by unfold hndE; rw [if_pos (by simpa using hx)]) (by decide)) (fun hx => ?_)
 have n1 : ¬ isC c.which = false := fun h => by rw [h] at hx; cases hx
 refine rowK_w ggc (ldI_w (n := c.which) rfl ?_)
 refine hmine _ _ _ _ _ _ (rg.le h1) sm fun H2 h2 => arB_w ?_
 have h12 := h1.trans h2
 refine ifA_w (fun hx => keep h12 (e := 17) (by unfold hndE; rw [if_neg n1, if_pos (by simpa using hx)]) (by decide)) (fun hx => ?_)
 have n2 : ¬ mineB s c.which = false := fun h => by rw [h] at hx; cases hx
 have rg2 := rg.le h12
 obtain ⟨f, Q, rb, hg, gg, q0, ho⟩ := rg2
 have gc2 := (h2.get _ hgc).trans ggc
 have bad : c.to_ < 0 ∨ s.n ≤ c.to_ ∨ c.to_ = s.id → K (.s (.int .i64 (Int.ofNat 19))) H2 = true := fun h => keep h12 (e := 19) (by unfold hndE; rw [if_neg n1, if_neg n2, if_pos h]) (by decide)
 simp only [nilK_at, fN_eq, Nat.add_eq, Nat.zero_add, Nat.add_zero]
 refine rowK_w gc2 (ldI_w (n := c.to_) rfl ?_)
 refine ifA_w (fun hx => bad (.inl (of_decide_eq_true hx))) (fun hx => ?_)
 have t1 := of_decide_eq_false hx
 refine rowK_w gc2 (ldI_w (n := c.to_) rfl (rowK_w gg (ldI_w (n := s.n) (by rw [c48_get _ (by decide), rb.i1]) ?_)))
 refine ifA_w (fun hx => bad (.inr (.inl (of_decide_eq_true hx)))) (fun hx => ?_)
 have t2 := of_decide_eq_false hx
 refine rowK_w gc2 (ldI_w (n := c.to_) rfl (rowK_w gg (ldI_w (n := s.id) (by rw [c48_get _ (by decide), rb.i0]) ?_)))
 refine ifA_w (fun hx => bad (.inr (.inr (of_decide_eq_true hx)))) (fun hx => ?_)
 have t3 := of_decide_eq_false hx
 have e0 : hndE s c = 0 := by unfold hndE; rw [if_neg n1, if_neg n2, if_neg (fun h => h.elim t1 fun h => h.elim t2 t3)]
 obtain ⟨pW, cW, zW, e36, capW, srW⟩ := rb.s36
 refine getK_w gg (rowK_w gg (ldSl_w (by rw [c48_get _ (by decide), e36]) ?_))
 refine rowK_w gc2 (ldI_w (n := c.which) rfl (rowK_w gc2 (ldI_w (n := c.to_) rfl (fL_w ?_))))
 rw [ap_eq, List.append_nil]
 refine okK_w rfl (newK_w (elK_w (ys := hdC (c.which, c.to_)) (get_new _ _) (lb rfl) rfl ?_))
 have h5 := Le.new H2 (.row (hdC (c.which, c.to_)))
 change appA (H2.new (.row (hdC (c.which, c.to_)))) _ _ _ _ _ _ _ _ _ = true
 generalize H2.new (.row (hdC (c.which, c.to_))) = H5 at *
 have rb5 := rb.fr (h5.fr fun _ => False) fun _ _ _ _ h => h
 have hwl := sm.hl
 refine appS_w (srW.le h5) (m := 1) rfl (by decide) (by omega) (by omega) fun b H6 nb f6 sr6 => ?_
 have rb6 := rb5.apH (t := (c.which, c.to_)) e36 f6 nb sr6
 have hnp : ¬ ownP pW g := fun h => absurd (rb5.dis 36 0 g ((rb5.q36 g).2 (by rw [e36]; exact h)) ((q0 g).2 rfl)) (by decide)
 have gg6 := (f6.get _ (h5.has _ hg) hnp).trans ((h5.get _ hg).trans gg)
 refine sto1_w gg6 (by rw [c48_len]; decide) ?_
 rw [c48_set]
 have fp7 : Fr (fun a => a = g) H6 (H6.put g (.row (c48 (updA f 36 (.slice (.at b 0) (s.hands.length + 1) (.of b 0) 2))))) := (Fr.refl (fun a => a = g) _).put (.inl rfl) _
 have q0' : ∀ a, updA Q 36 (ownP (.at b 0)) 0 a ↔ a = g := fun a => by rw [updA_ne _ _ (by decide)]; exact q0 a
 have rb7 := rb6.fr fp7 fun i a hi ha e => hi (rb6.dis i 0 a ha ((q0' a).2 e))
 have f57 : Fr O H2 H6 := (h5.fr O).trans (f6.mono fun a h => (ho a).2 ⟨36, (rb5.q36 a).2 (by rw [e36]; exact h)⟩) fun _ h => .inl h
 have fall : Fr O H _ := (h12.fr O).trans (f57.trans (fp7.mono fun a e => (ho a).2 ⟨0, (q0 a).2 e⟩) fun _ h => .inl h) fun _ h => .inl h
 have := hk _ (fun a => ∃ i, updA Q 36 (ownP (.at b 0)) i a) fall
  (by
   unfold hndS
   rw [e0, if_neg (fun h => h rfl)]
   exact ⟨_, _, rb7, f6.has _ (h5.has _ hg), get_put _ _ _, q0', fun _ => Iff.rfl⟩)
  (fun a ⟨i, hi⟩ => by
   by_cases e36i : i = 36
   ·subst e36i
    rw [updA_same] at hi
    obtain ⟨o, e⟩ := hi
    cases e
    exact .inr fun h => nb (h5.has _ (h12.has _ h))
   ·rw [updA_ne _ _ e36i] at hi
    exact .inl ((ho a).2 ⟨i, hi⟩))
 rw [e0] at this
 exact this
noncomputable def genE (s : RgSt) (c : Cm) : Int := if watB c = true then wchE s c else if c.kind = 5 then hndE s c else doesE s c
noncomputable def genS (s : RgSt) (c : Cm) : RgSt := if watB c = true then wchS s c else if c.kind = 5 then hndS s c else doesS s c
noncomputable def genI (s : RgSt) (c : Cm) : Int := if watB c = true ∨ c.kind = 5 then 0 else doesI s c
noncomputable def takeGE (s : RgSt) (c : Cm) : Int := if IsCm c = false then 11 else if 20 ≤ s.took then 16 else genE s c
noncomputable def takeGI (s : RgSt) (c : Cm) : Int := if takeGE s c ≠ 0 then 0 else genI s c
noncomputable def takeGS (s : RgSt) (c : Cm) : RgSt := if takeGE s c ≠ 0 then s else upS (genS s c) (genI s c) c
theorem genS_sm {s : RgSt} {c : Cm} : (genS s c).took = s.took ∧ (genS s c).order = s.order := by
 unfold genS wchS hndS
 split
 ·split <;> exact ⟨rfl, rfl⟩
 split
 ·split <;> exact ⟨rfl, rfl⟩
 ·exact doesS_sm
theorem genS_no {s : RgSt} {c : Cm} (h : genE s c ≠ 0) : genS s c = s := by
 unfold genE at h
 unfold genS
 split
 ·rw [if_pos (by assumption)] at h; unfold wchS; rw [if_pos h]
 ·rw [if_neg (by assumption)] at h
  split
  ·rw [if_pos (by assumption)] at h; unfold hndS; rw [if_pos h]
  ·rw [if_neg (by assumption)] at h; unfold doesS; rw [if_pos h]
def CTakeG (cl : Cl) : Prop := ∀ H g s O c K, RgS H g s O → Sm s → SmW s → (∀ H' O', Fr O H H' → RgS H' g (takeGS s c) O' → (∀ a, O' a → O a ∨ ¬ H.has a) → K (.tup [.s (.int .i64 (takeGI s c)), .s (.int .i64 (takeGE s c))]) H' = true) →
 cl i_region_Region_Take [.s (.ptr (.at g 0)), .agg (cmC c)] H K = true
theorem W_region_Region_TakeG_ {lf : Nat} {cl : Cl} (his : CIsCm cl) (hwat : CWat cl) (hwch : CWch cl) (hhnd : CHnd cl) (hdoes : CDoes cl) {H : AH} {g : Pn} {s : RgSt} {O : Pn → Prop} {c : Cm} {K : AV → AH → Bool} (rg : RgS H g s O) (sm : Sm s) (sw : SmW s)
  (hk : ∀ H' O', Fr O H H' → RgS H' g (takeGS s c) O' → (∀ a, O' a → O a ∨ ¬ H.has a) → K (.tup [.s (.int .i64 (takeGI s c)), .s (.int .i64 (takeGE s c))]) H' = true) : B_region_Region_Take lf cl (.at g 0) (cmC c) H K = true := by
 unfold B_region_Region_Take
 have keep : ∀ {H' O'} {e : Int}, Fr O H H' → RgS H' g s O' → (∀ a, O' a → O a ∨ ¬ H.has a) → takeGE s c = e → e ≠ 0 → K (.tup [.s (.int .i64 (Int.ofNat 0)), .s (.int .i64 e)]) H' = true := by
  intro H' O' e hl hr ho he hn
  have := hk H' O' hl (by unfold takeGS; rw [he, if_pos hn]; exact hr) ho
  unfold takeGI at this
  rw [he, if_pos hn] at this
  exact this
 refine new_w fun gc H1 h1 hgc ngc ggc => ?_
 refine rowK_w ggc (ldG_we (ys := cmC c) (lb rfl) (by decide) rfl ?_)
 refine his _ _ _ fun H2 h2 => arB_w ?_
 have h12 := h1.trans h2
 have gc2 := (h2.get _ hgc).trans ggc
 have hgc2 := h2.has _ hgc
 have ngcO : ¬ O gc := fun h => ngc (rg.has _ h)
 rw [fB_eq]
 refine ifA_w (fun hx => keep (h12.fr _) (rg.le h12) (fun a h => .inl h) (e := 11) (by unfold takeGE; rw [if_pos (by simpa using hx)]) (by decide)) (fun hx => ?_)
 have hIs : IsCm c = true := by simpa using hx
 have rg2 := rg.le h12
 obtain ⟨f, Q, rb, hg, gg, q0, ho⟩ := rg2
 simp only [nilK_at, fN_eq, Nat.add_eq, Nat.zero_add, Nat.add_zero, fB_eq, iLe_dec, iEq_dec]
 refine rowK_w gg (ldI_w (n := s.took) (by rw [c48_get _ (by decide), rb.i37]) ?_)
 refine ifA_w (fun hx => keep (h12.fr _) (rg.le h12) (fun a h => .inl h) (e := 16) (by unfold takeGE; rw [if_neg (by rw [hIs]; decide), if_pos (show (20 : Int) ≤ s.took from of_decide_eq_true hx)]) (by decide)) (fun hx => ?_)
 have hto : ¬ 20 ≤ s.took := of_decide_eq_false hx
 have hE : takeGE s c = genE s c := by unfold takeGE; rw [if_neg (by rw [hIs]; decide), if_neg hto]
 clear rb hg gg q0 ho f Q hx
 refine joinX_w (fun x Hx => ∃ O', x = (.at g 0, .at gc 0, genI s c, genE s c) ∧ Fr O H2 Hx ∧ RgS Hx g (genS s c) O' ∧ (∀ a, O' a → O a ∨ ¬ H2.has a)) ?_ ?_
 ·rintro x H3 ⟨O3, rfl, f3, rg3, o3⟩
  simp only [pR_, nilK_at, fN_eq, Nat.add_eq, Nat.zero_add, Nat.add_zero]
  have o3H : ∀ a, O3 a → O a ∨ ¬ H.has a := fun a h => (o3 a h).imp (fun h => h) fun h h' => h (h12.has a h')
  refine ifA_w (fun hx => ?_) (fun hx => ?_)
  ·have hx : genE s c ≠ 0 := by simpa using hx
   have e3 : genS s c = s := genS_no hx
   rw [e3] at rg3
   exact keep ((h12.fr O).trans f3 fun _ h => .inl h) rg3 o3H hE hx
  ·have hz : genE s c = 0 := by simpa using hx
   obtain ⟨et, eo⟩ := genS_sm (s := s) (c := c)
   have gc3 := (f3.get _ hgc2 ngcO).trans gc2
   have hgc3 := f3.has _ hgc2
   have ngc3 : ¬ O3 gc := fun h => (o3 _ h).elim ngcO fun h' => h' hgc2
   generalize hs' : genS s c = s' at *
   generalize hi' : genI s c = i' at *
   obtain ⟨f, Q, rb, hg, gg, q0, hoQ⟩ := rg3
   have t0 := sm.t0
   refine rowK_w gg (ldI_w (n := s'.took) (by rw [c48_get _ (by decide), rb.i37]) ?_)
   rw [iAdd_]
   refine w64_w (by simp only [Int.ofNat_eq_natCast]; omega) (by simp only [Int.ofNat_eq_natCast]; omega) ?_
   refine sto1_w gg (by rw [c48_len]; decide) ?_
   rw [c48_set]
   have fp : Fr (fun a => a = g) H3 (H3.put g (.row (c48 (updA f 37 (.int .i64 (s'.took + Int.ofNat 1)))))) := (Fr.refl (fun a => a = g) _).put (.inl rfl) _
   have rb4 := rb.fr fp fun i a hi ha e => hi (rb.dis i 0 a ha ((q0 a).2 e))
   replace rb4 : RB (H3.put g (.row (c48 (updA f 37 (.int .i64 (s'.took + Int.ofNat 1)))))) { s' with took := s'.took + 1 } (updA f 37 (.int .i64 (s'.took + Int.ofNat 1))) Q := { rb4 with i37 := rfl, pl := pl_upd rb4.pl rfl }
   have gg4 := get_put H3 g (.row (c48 (updA f 37 (.int .i64 (s'.took + Int.ofNat 1)))))
   have hg4 : (H3.put g (.row (c48 (updA f 37 (.int .i64 (s'.took + Int.ofNat 1)))))).has g := hg
   have hgg : gc ≠ g := fun e => ngc3 ((hoQ gc).2 ⟨0, (q0 gc).2 e⟩)
   have gc4 := (get_put_ne (b := .row (c48 (updA f 37 (.int .i64 (s'.took + Int.ofNat 1))))) hgg).trans gc3
   generalize H3.put g (.row (c48 (updA f 37 (.int .i64 (s'.took + Int.ofNat 1))))) = H4 at *
   generalize updA f 37 (.int .i64 (s'.took + Int.ofNat 1)) = f4 at *
   obtain ⟨p, cc, z, e38, hcap, sr⟩ := rb4.s38
   refine getK_w gg4 (rowK_w gg4 (ldSl_w (by rw [c48_get _ (by decide), e38]) ?_))
   refine rowK_w gg4 (ldI_w (n := s'.beat) (by rw [c48_get _ (by decide), rb4.i2]) ?_)
   refine rowK_w gg4 (ldI_w (n := s'.id) (by rw [c48_get _ (by decide), rb4.i0]) ?_)
   refine rowK_w gc4 (ldG_we (ys := cmC c) (lb rfl) (by decide) rfl ?_)
   refine okK_w rfl (fL_w (okK_w rfl (fL_w (okK_w rfl ?_))))
   refine newK_w (elK_w (ys := tkC ⟨s'.beat, s'.id, i', c⟩) (get_new _ _) (lb rfl) rfl ?_)
   have h5' := Le.new H4 (.row (tkC ⟨s'.beat, s'.id, i', c⟩))
   change appA (H4.new (.row (tkC ⟨s'.beat, s'.id, i', c⟩))) _ _ _ _ _ _ _ _ _ = true
   generalize H4.new (.row (tkC ⟨s'.beat, s'.id, i', c⟩)) = H5 at *
   have hol := sm.ol
   have rb5 := rb4.fr (h5'.fr fun _ => False) fun _ _ _ _ h => h
   have eo' : ({ s' with took := s'.took + 1 } : RgSt).order.length = s.order.length := by rw [← eo]
   refine appS_w (sr.le h5') rfl (by decide) (by omega) (by omega) fun b H6 nb f6 sr6 => ?_
   have rb6 := rb5.ord (t := ⟨s'.beat, s'.id, i', c⟩) e38 f6 nb sr6
   have hnp : ¬ ownP p g := fun h => absurd (rb5.dis 38 0 g ((rb5.q38 g).2 (by rw [e38]; exact h)) ((q0 g).2 rfl)) (by decide)
   have gg6 := (f6.get _ (h5'.has _ hg4) hnp).trans ((h5'.get _ hg4).trans gg4)
   refine sto1_w gg6 (by rw [c48_len]; decide) ?_
   rw [c48_set]
   have fp7 : Fr (fun a => a = g) H6 (H6.put g (.row (c48 (updA f4 38 (.slice (.at b 0) (({ s' with took := s'.took + 1 } : RgSt).order.length + 1) (.of b 0) 25))))) := (Fr.refl (fun a => a = g) _).put (.inl rfl) _
   have q0' : ∀ a, updA Q 38 (ownP (.at b 0)) 0 a ↔ a = g := fun a => by rw [updA_ne _ _ (by decide)]; exact q0 a
   have rb7 := rb6.fr fp7 fun i a hi ha e => hi (rb6.dis i 0 a ha ((q0' a).2 e))
   have f45 : Fr O3 H3 H4 := fp.mono fun a e => (hoQ a).2 ⟨0, (q0 a).2 e⟩
   have f57 : Fr O3 H4 H6 := (h5'.fr O3).trans (f6.mono fun a h => (hoQ a).2 ⟨38, (rb5.q38 a).2 (by rw [e38]; exact h)⟩) fun _ h => .inl h
   have fall : Fr O H _ := (h12.fr O).trans (f3.trans ((f45.trans f57 fun _ h => .inl h).trans (fp7.mono fun a e => (hoQ a).2 ⟨0, (q0 a).2 e⟩) fun _ h => .inl h) o3) fun _ h => .inl h
   have := hk _ (fun a => ∃ i, updA Q 38 (ownP (.at b 0)) i a) fall
    (by
     unfold takeGS
     rw [hE, if_neg (fun h => h hz), hs', hi']
     exact ⟨_, _, rb7, f6.has _ (h5'.has _ hg4), get_put _ _ _, q0', fun _ => Iff.rfl⟩)
    (fun a ⟨i, hi⟩ => by
     by_cases e38i : i = 38
     ·subst e38i
      rw [updA_same] at hi
      obtain ⟨o, e⟩ := hi
      cases e
      exact .inr fun h => nb (h5'.has _ (f45.has _ (f3.has _ (h12.has _ h))))
     ·rw [updA_ne _ _ e38i] at hi
      exact o3H a ((hoQ a).2 ⟨i, hi⟩))
   unfold takeGI at this
   rw [hE, hz, if_neg (fun h => h rfl), hi'] at this
   exact this
 ·intro J hJ
  refine rowK_w gc2 (ldG_we (ys := cmC c) (lb rfl) (by decide) rfl ?_)
  refine hwat _ _ _ fun H3 h3 => arB_w ?_
  have gc3 := (h3.get _ hgc2).trans gc2
  have h13 := h12.trans h3
  refine ifA_w (fun hw => ?_) (fun hw => ?_)
  ·refine rowK_w gc3 (ldG_we (ys := cmC c) (lb rfl) (by decide) rfl ?_)
   refine hwch H3 g s O c _ (rg.le h13) sm sw fun H4 O4 f4 r4 o4 => ?_
   have eE : genE s c = wchE s c := by unfold genE; rw [if_pos hw]
   have eI : genI s c = 0 := by unfold genI; rw [if_pos (.inl hw)]
   refine arI_w (hJ _ _ ⟨O4, by rw [eE, eI]; rfl, (h3.fr O).trans f4 fun _ h => .inl h, by unfold genS; rw [if_pos hw]; exact r4, fun a h => (o4 a h).imp (fun h => h) fun h h' => h (h3.has a h')⟩)
  ·refine rowK_w gc3 (ldI_w (n := c.kind) rfl ?_)
   refine ifA_w (fun h => ?_) (fun h => ?_)
   ·have h5 : c.kind = 5 := of_decide_eq_true h
    refine rowK_w gc3 (ldG_we (ys := cmC c) (lb rfl) (by decide) rfl ?_)
    refine hhnd H3 g s O c _ (rg.le h13) sm fun H4 O4 f4 r4 o4 => ?_
    have eE : genE s c = hndE s c := by unfold genE; rw [if_neg (by rw [hw]; decide), if_pos h5]
    have eI : genI s c = 0 := by unfold genI; rw [if_pos (.inr h5)]
    refine arI_w (hJ _ _ ⟨O4, by rw [eE, eI]; rfl, (h3.fr O).trans f4 fun _ h => .inl h, by unfold genS; rw [if_neg (by rw [hw]; decide), if_pos h5]; exact r4, fun a h => (o4 a h).imp (fun h => h) fun h h' => h (h3.has a h')⟩)
   ·have h5 : ¬ c.kind = 5 := of_decide_eq_false h
    refine rowK_w gc3 (ldG_we (ys := cmC c) (lb rfl) (by decide) rfl ?_)
    refine hdoes H3 g s O c _ (rg.le h13) sm fun H4 O4 f4 r4 o4 => ?_
    have eE : genE s c = doesE s c := by unfold genE; rw [if_neg (by rw [hw]; decide), if_neg h5]
    have eI : genI s c = doesI s c := by unfold genI; rw [if_neg (fun e => e.elim (fun e => by rw [hw] at e; cases e) h5)]
    rw [tup2_]
    refine arI_w (arI_w (hJ _ _ ⟨O4, by rw [eE, eI], (h3.fr O).trans f4 fun _ h => .inl h, by unfold genS; rw [if_neg (by rw [hw]; decide), if_neg h5]; exact r4, fun a h => (o4 a h).imp (fun h => h) fun h h' => h (h3.has a h')⟩))
end Go.Proofs
end
section
namespace Go.Proofs
open Go Go.Vw Go.Vw.Ev
set_option linter.unusedVariables false
set_option linter.unusedSimpArgs false
structure Fw where
 src : Int
 client : Int
 ses : Int
 start : Int
 beat : Int
 e : AS
structure Fm where
 src : Int
 client : Int
 ses : Int
 start : Int
 beat : Int
 evs : List Th
def frC (r : Fw) : List AS := [.int .i64 r.src, .int .i64 r.client, .int .i64 r.ses, .int .i64 r.start, .int .i64 r.beat, r.e]
structure FOf (H : AH) (r : Fw) (m : Fm) : Prop where
 src : r.src = m.src
 client : r.client = m.client
 ses : r.ses = m.ses
 start : r.start = m.start
 beat : r.beat = m.beat
 e : ∃ p c z, r.e = .slice p m.evs.length c z ∧ SR 25 H p m.evs.length z (m.evs.flatMap evC)
theorem FOf.fr {F : Pn → Prop} {H H' : AH} {r : Fw} {m : Fm} (h : FOf H r m) (k : Fr F H H') (hf : ∀ a, ownA r.e a → ¬ F a) : FOf H' r m := by
 obtain ⟨p, c, z, e, sr⟩ := h.e
 exact { h with e := ⟨p, c, z, e, sr.fr k fun a ha => hf a (by rw [e]; exact ha)⟩ }
theorem FOf.le {H H' : AH} {r : Fw} {m : Fm} (h : FOf H r m) (k : Le H H') : FOf H' r m := h.fr (k.fr fun _ => False) fun _ _ h => h
theorem FOf.has {H : AH} {r : Fw} {m : Fm} (h : FOf H r m) (a : Pn) (ha : ownA r.e a) : H.has a := by
 obtain ⟨p, c, z, e, sr⟩ := h.e
 rw [e] at ha
 exact sr.has a ha
def wasR (old : List Wt) (i : Nat) (w : Wt) : Rc := if (old.getD i wt0).on = true ∧ (old.getD i wt0).ses = w.ses then (old.getD i wt0).r else ⟨0, 0, 0, 0⟩
def frm1 (s : RgSt) (old : List Wt) (bef aft : List Th) (i : Nat) : List Fm :=
 if (s.wat.getD i wt0).on = true then [⟨s.id, i, (s.wat.getD i wt0).ses, (s.wat.getD i wt0).start, s.beat, enterL (seenT (wasR old i (s.wat.getD i wt0)) bef) (seenT (s.wat.getD i wt0).r aft)⟩] else []
def framesL (s : RgSt) (old : List Wt) (bef aft : List Th) : Nat → List Fm
 | 0 => []
 | i + 1 => framesL s old bef aft i ++ frm1 s old bef aft i
def OkF (s : RgSt) (old : List Wt) (bef aft : List Th) : Prop := ∀ i < 4, (s.wat.getD i wt0).on = true → seenT (wasR old i (s.wat.getD i wt0)) bef = [] ∨ seenT (wasR old i (s.wat.getD i wt0)) bef = seenT (s.wat.getD i wt0).r aft
def CFramesG (cl : Cl) : Prop := ∀ H g s O old p n c z bef K, RgS H g s O → s.th.length < 9000 → old.length = 4 → SR 11 H p n z (thsC bef) → n < 10000 → OkF s old bef ((allT s.th).map (thOf s.th)) →
 (∀ H' q cq zq (lf : List (Fw × Fm)), Le H H' → SR 6 H' q lf.length zq ((lf.map (·.1)).flatMap frC) → (∀ x ∈ lf, FOf H' x.1 x.2) → lf.map (·.2) = framesL s old bef ((allT s.th).map (thOf s.th)) 4 → (∀ a, ownP q a → ¬ H.has a) → (∀ x ∈ lf, ∀ a, ownA x.1.e a → ¬ H.has a) → K (.s (.slice q lf.length cq zq)) H' = true) →
 cl i_region_Region_frames [.s (.ptr (.at g 0)), .agg (wtsC old), .s (.slice p n c z)] H K = true
theorem getD_at {α : Type} {l : List α} {i : Nat} {d : α} (h : i < l.length) : l.getD i d = l[i] := by simp [h]
theorem framesL_le (s : RgSt) (old : List Wt) (bef aft : List Th) : ∀ i, (framesL s old bef aft i).length ≤ i
 | 0 => Nat.le_refl _
 | i + 1 => by
  have := framesL_le s old bef aft i
  unfold framesL frm1
  split <;> simp <;> omega
theorem W_region_Region_framesG_ {lf : Nat} {cl : Cl} (hlf : 10 ≤ lf) (hall : CTAll cl) (hbk : CBkAll cl) (hof : CDiffOf cl) {H : AH} {g : Pn} {s : RgSt} {O : Pn → Prop} {old : List Wt} {p : AP} {n z : Nat} {c : ACap} {bef : List Th} {K : AV → AH → Bool}
  (rg : RgS H g s O) (hl : s.th.length < 9000) (hold : old.length = 4) (srB : SR 11 H p n z (thsC bef)) (hn : n < 10000) (okf : OkF s old bef ((allT s.th).map (thOf s.th)))
  (hk : ∀ H' q cq zq (lf : List (Fw × Fm)), Le H H' → SR 6 H' q lf.length zq ((lf.map (·.1)).flatMap frC) → (∀ x ∈ lf, FOf H' x.1 x.2) → lf.map (·.2) = framesL s old bef ((allT s.th).map (thOf s.th)) 4 → (∀ a, ownP q a → ¬ H.has a) → (∀ x ∈ lf, ∀ a, ownA x.1.e a → ¬ H.has a) → K (.s (.slice q lf.length cq zq)) H' = true) :
  B_region_Region_frames lf cl (.at g 0) (wtsC old) p n c z H K = true := by
 unfold B_region_Region_frames
 obtain ⟨f, Q, rb, hg, gg, q0, ho⟩ := rg
 obtain ⟨gt, e45, tt⟩ := rb.tab
 obtain ⟨gb, e47, bk, _⟩ := rb.book
 refine new_w fun g1 H1 h1 hg1 ng1 gg1 => ?_
 simp only [nilK_at, fN_eq, Nat.add_eq, Nat.zero_add]
 refine rowK_w ((h1.get _ hg).trans gg) (ldP_w (p := .at gt 0) (by rw [c48_get _ (by decide), e45]) ?_)
 refine hall _ _ _ _ _ (tt.le h1) (by omega) fun H2 p2 c2 z2 h2 sl2 => ?_
 rw [asSl_]
 have h12 := h1.trans h2
 refine rowK_w ((h12.get _ hg).trans gg) (ldP_w (p := .at gb 0) (by rw [c48_get _ (by decide), e47]) ?_)
 refine hbk _ _ _ _ (bk.le h12) fun H3 h3 => ?_
 rw [asG_]
 have hlen := bk.len
 have h03 := h12.trans h3
 have srA := (Sl.sr sl2).le h3
 have hnA : (allT s.th).length < 10000 := by rw [allT_len]; omega
 generalize hAFT : (allT s.th).map (thOf s.th) = aft at *
 generalize (allT s.th).length = nA at *
 have hg13 := (h2.trans h3).has _ hg1
 have gg13 := ((h2.trans h3).get _ hg1).trans gg1
 have gx : ∀ {Hx}, Le H3 Hx → Hx.get g = some (.row (c48 f)) := fun k => (k.get _ (h03.has _ hg)).trans ((h03.get _ hg).trans gg)
 refine loopX_w (fun x Hx => ∃ (i : Nat) (q : AP) (cq : ACap) (zq : Nat) (lf : List (Fw × Fm)), x = (.at g 0, (p, n, c, z), .at g1 0, (q, lf.length, cq, zq), (p2, nA, c2, z2), wtsC s.wat, (i : Int)) ∧ i ≤ 4 ∧ Le H3 Hx ∧ SR 6 Hx q lf.length zq ((lf.map (·.1)).flatMap frC) ∧ CapOk cq lf.length ∧ (∀ x ∈ lf, FOf Hx x.1 x.2) ∧
   lf.map (·.2) = framesL s old bef aft i ∧ (∀ a, ownP q a → ¬ H3.has a) ∧ (∀ x ∈ lf, ∀ a, ownA x.1.e a → ¬ H3.has a ∧ ¬ ownP q a)) (fun x => 4 - x.2.2.2.2.2.2.toNat)
  ⟨0, .nil, .lit 0, 1, [], rfl, by omega, Le.refl _, SR.nil, Nat.le_refl 0, fun x h => (by cases h), rfl, fun a ⟨o, e⟩ => (by cases e), fun x h => (by cases h)⟩ (by simp; omega) ?_
 rintro self x Hx ⟨i, q, cq, zq, lfr, rfl, hi, hL, srq, capq, hF, eF, oq, oe⟩ ih
 simp only [pR_, fB_eq, iLt_dec, fN_eq, Nat.mul_eq]
 refine ifA_w (fun hx => ?_) (fun hx => ?_)
 rotate_left
 ·have hx : i = 4 := by have := of_decide_eq_false hx; simp only [Int.ofNat_eq_natCast] at this; omega
  subst hx
  exact hk _ _ _ _ lfr (h03.trans hL) srq hF eF (fun a h h' => oq a h (h03.has a h')) fun x hx a h h' => (oe x hx a h).1 (h03.has a h')
 have hx : i < 4 := by have := of_decide_eq_true hx; simp only [Int.ofNat_eq_natCast] at this; omega
 have hxl : i < s.wat.length := by omega
 have hxo : i < old.length := by omega
 have hseg := flat_at wtC_len s.wat i hxl
 have hsegO := flat_at wtC_len old i hxo
 have cellO : ∀ k, k < 7 → (wtsC old)[i * 7 + k]? = (wtC old[i])[k]? := fun k hk => flat_cell wtC_len hxo hk
 have hokf := okf i hx
 have hstep : framesL s old bef aft (i + 1) = framesL s old bef aft i ++ frm1 s old bef aft i := rfl
 unfold frm1 at hstep
 rw [getD_at hxl] at hokf hstep
 have eWR : ∀ w, wasR old i w = if old[i].on = true ∧ old[i].ses = w.ses then old[i].r else ⟨0, 0, 0, 0⟩ := fun w => by unfold wasR; rw [getD_at hxo]
 have lfl : lfr.length ≤ i := by have := congrArg List.length eF; rw [List.length_map] at this; have := framesL_le s old bef aft i; omega
 have hrect : ((wtsC old).drop (i * 7 + 3)).take 4 = rcC old[i].r := by
  have := congrArg (fun l => (l.drop 3).take 4) hsegO
  simp only [List.drop_take, List.drop_drop, List.take_take] at this
  exact this
 have hlo : (wtsC old).length = 28 := by rw [wtsC, flat_len wtC_len, hold]
 generalize s.wat[i] = w at *
 generalize old[i] = ow at *
 refine idxK_w (by omega) (by omega) ?_
 rw [Int.toNat_natCast]
 refine ldG_we (ys := wtC w) (by rw [wtsC, flat_len wtC_len]; omega) (by decide) hseg ?_
 refine tmp_w rfl rfl fun g4 H4 h4 hg4 ng4 gg4 => ?_
 refine rowK_w gg4 (ldB_w (b := w.on) rfl ?_)
 have hL4 := hL.trans h4
 refine ifA_w (fun hon => ?_) (fun hon => ?_)
 ·have hon : w.on = false := by simpa using hon
  rw [iAdd_]
  rw [hon, if_neg (by decide), List.append_nil] at hstep
  exact w64_w (by simp only [Int.ofNat_eq_natCast]; omega) (by simp only [Int.ofNat_eq_natCast]; omega) (ih _ _ ⟨i + 1, q, cq, zq, lfr, by simp, by omega, hL4, srq.le h4, capq, fun x hx => (hF x hx).le h4, by rw [hstep]; exact eF, oq, oe⟩ (by simp; omega))
 have hon : w.on = true := by simpa using hon
 rw [hon, if_pos rfl] at hstep
 have hokf := hokf hon
 refine new_w fun g5 H5 h5 hg5 ng5 gg5 => ?_
 have h45 := h4.trans h5
 have gg45 := (h5.get _ hg4).trans gg4
 have hg45 := h5.has _ hg4
 have d54 : g5 ≠ g4 := fun e => ng5 (e ▸ hg4)
 have g1x : ∀ {Hy}, Le H3 Hy → Hy.get g1 = some (.row (wtsC old)) := fun k => (k.get _ hg13).trans gg13
 refine joinX_w (fun y Hy => y = (.at g 0, (p, n, c, z), .at g1 0, (q, lfr.length, cq, zq), (p2, nA, c2, z2), (i : Int), .at g4 0, .at g5 0, wtsC s.wat, (i : Int)) ∧ Le Hx Hy ∧ Hy.get g4 = some (.row (wtC w)) ∧ Hy.has g4 ∧ Hy.get g5 = some (.row (rcC (wasR old i w))) ∧ Hy.has g5) ?_ ?_
 ·rintro y Hy ⟨rfl, hy, g4y, hg4y, g5y, hg5y⟩
  simp only [pR_, nilK_at, fN_eq, Nat.add_eq, Nat.zero_add, Nat.add_zero]
  have ggy := gx (hL.trans hy)
  refine getK_w ggy (rowK_w ggy (ldI_w (n := s.id) (by rw [c48_get _ (by decide), rb.i0]) ?_))
  refine getK_w g4y (rowK_w g4y (ldI_w (n := w.ses) rfl (getK_w g4y (rowK_w g4y (ldI_w (n := w.start) rfl ?_)))))
  refine getK_w ggy (rowK_w ggy (ldI_w (n := s.beat) (by rw [c48_get _ (by decide), rb.i2]) ?_))
  refine rowK_w g5y (ldG_we (ys := rcC (wasR old i w)) (Nat.le_refl 4) (by decide) rfl ?_)
  refine rowK_w g4y (ldG_we (ys := rcC w.r) (lb rfl) (by decide) rfl ?_)
  have hLy := hL.trans hy
  refine hof _ _ _ _ _ bef _ _ _ _ _ aft _ _ (srB.le (h03.trans hLy)) (srA.le hLy) hn hnA hokf fun H6 qe ce ze h6 sre fre => ?_
  refine okK_w (kSame_p ((h6.get _ (hLy.has _ (h03.has _ hg))).trans ggy) rb.pl (kSame_row ((h6.get _ hg4y).trans g4y) rfl (kSame_row ((h6.get _ hg4y).trans g4y) rfl (kSame_p ((h6.get _ (hLy.has _ (h03.has _ hg))).trans ggy) rb.pl rfl)))) ?_
  rw [asSl_]
  refine fL_w ?_
  rw [ap_eq, List.append_nil]
  generalize hev : enterL (seenT (wasR old i w) bef) (seenT w.r aft) = ev at *
  refine okK_w rfl (newK_w (elK_w (ys := frC ⟨s.id, i, w.ses, w.start, s.beat, .slice qe ev.length ce ze⟩) (get_new _ _) (lb rfl) rfl ?_))
  have h7 := h6.newr (.row (frC ⟨s.id, i, w.ses, w.start, s.beat, .slice qe ev.length ce ze⟩))
  have h67 : Le H6 (H6.new (.row (frC ⟨s.id, i, w.ses, w.start, s.beat, .slice qe ev.length ce ze⟩))) := Le.new _ _
  change appA (H6.new (.row (frC ⟨s.id, i, w.ses, w.start, s.beat, .slice qe ev.length ce ze⟩))) _ _ _ _ _ _ _ _ _ = true
  generalize H6.new (.row (frC ⟨s.id, i, w.ses, w.start, s.beat, .slice qe ev.length ce ze⟩)) = H7 at *
  refine appT_w (srq.le (hy.trans h7)) capq (m := 1) rfl (by omega) (by omega) fun q8 c8 z8 H8 f8 s8 cap8 o8 => ?_
  have hL7 := hLy.trans h7
  have hL8 : Le H3 H8 := ⟨fun a h => f8.has a (hL7.has a h), fun a h => (f8.get a (hL7.has a h) fun h' => oq a h' h).trans (hL7.get a h)⟩
  have nqe : ∀ a, ownP qe a → ¬ ownP q a := fun a h h' => fre a h (hy.has _ (srq.has a h'))
  rw [iAdd_]
  refine w64_w (by simp only [Int.ofNat_eq_natCast]; omega) (by simp only [Int.ofNat_eq_natCast]; omega) (ih _ _ ⟨i + 1, q8, c8, z8, lfr ++ [(⟨s.id, i, w.ses, w.start, s.beat, .slice qe ev.length ce ze⟩, ⟨s.id, i, w.ses, w.start, s.beat, ev⟩)], by simp, by omega, hL8, ?_, by rw [List.length_append]; exact cap8, ?_, ?_, ?_, ?_⟩ (by simp; omega))
  ·rw [List.map_append, List.flatMap_append, List.length_append]; exact s8
  ·intro x hx
   rcases List.mem_append.1 hx with h | h
   ·exact ((hF x h).le (hy.trans h7)).fr f8 fun a ha => (oe x h a ha).2
   ·rw [List.mem_singleton] at h; subst h
    exact ⟨rfl, rfl, rfl, rfl, rfl, qe, ce, ze, rfl, (sre.le h67).fr f8 nqe⟩
  ·rw [List.map_append, eF, hstep]; rfl
  ·exact fun a h h' => (o8 a h).elim (fun e => oq a e h') fun e => e (hL7.has _ h')
  ·intro x hx a ha
   rcases List.mem_append.1 hx with h | h
   ·exact ⟨(oe x h a ha).1, fun h' => (o8 a h').elim (oe x h a ha).2 fun e => e ((hy.trans h7).has _ ((hF x h).has a ha))⟩
   ·rw [List.mem_singleton] at h; subst h
    exact ⟨fun h' => fre a ha (hLy.has _ h'), fun h' => (o8 a h').elim (nqe a ha) fun e => e (h67.has _ (sre.has a ha))⟩
 ·intro J94 hJ
  refine joinX_w (fun y Hy => Hy = H5 ∧ ∃ b : Bool, y = (.at g 0, (p, n, c, z), .at g1 0, (q, lfr.length, cq, zq), (p2, nA, c2, z2), (i : Int), .at g4 0, .at g5 0, wtsC s.wat, (i : Int), b) ∧ (b = true ↔ ow.on = true ∧ ow.ses = w.ses)) ?_ ?_
  ·rintro y Hy ⟨rfl, b, rfl, hb⟩
   simp only [pR_, nilK_at, fN_eq, Nat.add_eq, Nat.mul_eq, Nat.zero_add, Nat.add_zero]
   refine ifA_w (fun h => ?_) (fun h => ?_)
   ·refine idxK_w (by omega) (by omega) ?_
    rw [Int.toNat_natCast]
    refine rowK_w (g1x (hL.trans h45)) (ldG_we (ys := rcC ow.r) (by rw [hlo]; omega) (by decide) hrect ?_)
    refine stoN_we (ds := rcC ow.r) gg5 rfl (by simp) (by simp [rcC]) ?_
    refine hJ _ _ ⟨rfl, ⟨fun a h => h45.has a h, fun a h => (get_put_ne (a := g5) (fun e : a = g5 => ng5 (by subst e; exact h4.has _ h))).trans (h45.get a h)⟩, (get_put_ne (Ne.symm d54)).trans gg45, hg45, by rw [get_put, eWR, if_pos (hb.1 h)], hg5⟩
   ·refine hJ _ _ ⟨rfl, h45, gg45, hg45, by rw [gg5, eWR, if_neg (fun e => by rw [hb.2 e] at h; cases h)]; rfl, hg5⟩
  ·intro J63 hJ2
   simp only [nilK_at, fN_eq, Nat.add_eq, Nat.mul_eq, Nat.zero_add, Nat.add_zero]
   refine idxK_w (by omega) (by omega) ?_
   rw [Int.toNat_natCast]
   refine rowK_w (g1x (hL.trans h45)) (ldB_w (b := ow.on) (by rw [show i * 7 = i * 7 + 0 from rfl, cellO 0 (by decide)]; rfl) ?_)
   refine ifA_w (fun h => ?_) (fun h => ?_)
   ·refine idxK_w (by omega) (by omega) ?_
    rw [Int.toNat_natCast]
    refine rowK_w (g1x (hL.trans h45)) (ldI_w (n := ow.ses) (by rw [cellO 1 (by decide)]; rfl) (rowK_w gg45 (ldI_w (n := w.ses) rfl ?_)))
    rw [iEq_dec]
    exact hJ2 _ _ ⟨rfl, _, rfl, ⟨fun e => ⟨h, of_decide_eq_true e⟩, fun e => decide_eq_true e.2⟩⟩
   ·exact hJ2 _ _ ⟨rfl, _, rfl, ⟨fun e => (by cases e), fun e => (by rw [e.1] at h; cases h)⟩⟩
end Go.Proofs
end
section
namespace Go.Proofs
open Go Go.Vw Go.Vw.Ev
set_option linter.unusedVariables false
set_option linter.unusedSimpArgs false
def ohE (n : Int) (l : List (Int × Int)) (c f t : Int) : Int := if isC c = false then 11 else if t < 0 ∨ n ≤ t then 19 else if (owAt l c).1 ≠ f then 17 else if t = f then 19 else 0
def ohL (n : Int) (l : List (Int × Int)) (c f t : Int) : List (Int × Int) := if ohE n l c f t ≠ 0 then l else l.set c.toNat (t, (owAt l c).2 + 1)
def EpB (b : Int) (l : List (Int × Int)) : Prop := ∀ h ∈ l, 0 ≤ h.2 ∧ h.2 ≤ b
theorem EpB.at {b : Int} {l : List (Int × Int)} (h : EpB b l) (hb : 0 ≤ b) (c : Int) : 0 ≤ (owAt l c).2 ∧ (owAt l c).2 ≤ b := by
 unfold owAt
 split
 ·by_cases hc : c.toNat < l.length
  ·rw [getD_at hc]; exact h _ (List.getElem_mem hc)
  ·rw [List.getD_eq_getElem?_getD, List.getElem?_eq_none (by omega)]; exact ⟨by show (0 : Int) ≤ 0; decide, hb⟩
 ·exact ⟨by show (0 : Int) ≤ 0; decide, hb⟩
theorem EpB.hand {b : Int} {l : List (Int × Int)} {n c f t : Int} (h : EpB b l) (hb : 0 ≤ b) : EpB (b + 1) (ohL n l c f t) := by
 unfold ohL
 split
 ·exact fun x hx => by have := h x hx; omega
 ·intro x hx
  rcases List.mem_or_eq_of_mem_set hx with h' | rfl
  ·have := h x h'; omega
  ·have := h.at hb c
   exact ⟨by show 0 ≤ (owAt l c).2 + 1; omega, by show (owAt l c).2 + 1 ≤ b + 1; omega⟩
def COwHand (cl : Cl) : Prop := ∀ H g n l c f t K, OM H g n l → EpB 4000000000 l → (∀ H', Fr (fun a => a = g) H H' → OM H' g n (ohL n l c f t) → K (.s (.int .i64 (ohE n l c f t))) H' = true) → cl i_owner_Map_Hand [.s (.ptr (.at g 0)), .s (.int .i64 c), .s (.int .i64 f), .s (.int .i64 t)] H K = true
theorem B_owner_Map_Hand_ {lf : Nat} {cl : Cl} (his : CIsC cl) {H : AH} {g : Pn} {n : Int} {l : List (Int × Int)} {c f t : Int} {K : AV → AH → Bool} (om : OM H g n l) (ep : EpB 4000000000 l)
  (hk : ∀ H', Fr (fun a => a = g) H H' → OM H' g n (ohL n l c f t) → K (.s (.int .i64 (ohE n l c f t))) H' = true) : B_owner_Map_Hand lf cl (.at g 0) c f t H K = true := by
 unfold B_owner_Map_Hand
 have keep : ∀ {e : Int}, ohE n l c f t = e → e ≠ 0 → K (.s (.int .i64 e)) H = true := by
  intro e he hn
  have := hk H (Fr.refl _ _) (by unfold ohL; rw [he, if_pos hn]; exact om)
  rwa [he] at this
 refine his _ _ _ (arB_w ?_)
 simp only [fB_eq, iLt_dec, iLe_dec, iEq_dec]
 refine ifA_w (fun hx => keep (e := 11) (by unfold ohE; rw [if_pos (by simpa using hx)]) (by decide)) (fun hx => ?_)
 have n1 : ¬ isC c = false := fun h => by rw [h] at hx; cases hx
 have hc : isC c = true := by simpa using n1
 have hb := isC_iff.1 hc
 refine joinX_w (fun x Hx => Hx = H ∧ ∃ b : Bool, x = (.at g 0, c, f, t, b) ∧ (b = true ↔ t < 0 ∨ n ≤ t)) ?_ ?_
 ·rintro x Hx ⟨rfl, b, rfl, hbb⟩
  simp only [pR_]
  refine ifA_w (fun hx => keep (e := 19) (by unfold ohE; rw [if_neg n1, if_pos (hbb.1 hx)]) (by decide)) (fun hx => ?_)
  have n2 : ¬ (t < 0 ∨ n ≤ t) := fun e => by rw [hbb.2 e] at hx; cases hx
  have hcell := ow_cell om hc
  have hlen := om.len
  have hi : c.toNat < l.length := by omega
  have e0 : owAt l c = l[c.toNat] := by unfold owAt; rw [if_pos hc, getD_at hi]
  have hc1 : (AS.int .i64 n :: hdsC l)[0 + 1 + c.toNat * 2 + 0]? = some (.int .i64 (owAt l c).1) := by
   rw [show 0 + 1 + c.toNat * 2 + 0 = (c.toNat * 2 + 0) + 1 by omega, List.getElem?_cons_succ, e0]
   exact flat_cell (k := 0) hdC_len hi (by decide)
  have hc2 : (AS.int .i64 n :: hdsC l)[0 + 1 + c.toNat * 2 + 1]? = some (.int .i64 (owAt l c).2) := by
   rw [show 0 + 1 + c.toNat * 2 + 1 = (c.toNat * 2 + 1) + 1 by omega, List.getElem?_cons_succ, e0]
   exact flat_cell (k := 1) hdC_len hi (by decide)
  simp only [nilK_at, fN_eq, Nat.add_eq, Nat.mul_eq]
  refine idxK_w hb.1 (by omega) (rowK_w om.get (ldI_w hc1 ?_))
  refine ifA_w (fun hx => keep (e := 17) (by unfold ohE; rw [if_neg n1, if_neg n2, if_pos (by simpa using hx)]) (by decide)) (fun hx => ?_)
  have n3 : ¬ (owAt l c).1 ≠ f := fun e => by simp [e] at hx
  refine ifA_w (fun hx => keep (e := 19) (by unfold ohE; rw [if_neg n1, if_neg n2, if_neg n3, if_pos (of_decide_eq_true hx)]) (by decide)) (fun hx => ?_)
  have e00 : ohE n l c f t = 0 := by unfold ohE; rw [if_neg n1, if_neg n2, if_neg n3, if_neg (of_decide_eq_false hx)]
  refine idxK_w hb.1 (by omega) (rowK_w om.get (ldI_w hc2 ?_))
  have hep := ep.at (by decide) c
  rw [iAdd_]
  refine w64_w (by simp only [Int.ofNat_eq_natCast]; omega) (by simp only [Int.ofNat_eq_natCast]; omega) ?_
  refine idxK_w hb.1 (by omega) ?_
  obtain ⟨es, el⟩ := wts_splitA hi
  have hrow := om.get
  have hput := hds_set2 (A := l.take c.toNat) (B := l.drop (c.toNat + 1)) (e := l[c.toNat]) (v := (t, (owAt l c).2 + 1)) (n := n) el
  rw [← es] at hput
  have hset : ∀ v, l.set c.toNat v = l.take c.toNat ++ v :: l.drop (c.toNat + 1) := fun v => by
   conv => lhs; rw [es]
   exact set_split el
  refine stoN_we hrow rfl (by rw [List.length_cons, hdsC, flat_len hdC_len, hlen]; omega) hput ?_
  have := hk _ ((Fr.refl (fun a => a = g) _).put (.inl rfl) _) (by
   unfold ohL
   rw [e00, if_neg (fun h => h rfl)]
   exact ⟨om.has, by rw [get_put, hset], by rw [List.length_set]; exact hlen⟩)
  rwa [e00] at this
 ·intro J hJ
  refine ifA_w (fun hx => hJ _ _ ⟨rfl, _, rfl, ⟨fun _ => .inl (of_decide_eq_true hx), fun _ => rfl⟩⟩) (fun hx => ?_)
  simp only [nilK_at, fN_eq, Nat.add_eq, Nat.add_zero]
  refine rowK_w om.get (ldI_w (n := n) rfl ?_)
  exact hJ _ _ ⟨rfl, _, rfl, ⟨fun h => .inr (of_decide_eq_true h), fun h => h.elim (fun h => absurd h (of_decide_eq_false hx)) fun h => decide_eq_true h⟩⟩
theorem ne_q {H : AH} {s : RgSt} {f : Nat → AS} {Q : Nat → Pn → Prop} (r : RB H s f Q) {i k : Nat} {g a : Pn} (h : i ≠ k) (ha : Q i a) (hg : Q k g) : ¬ a = g := fun e => h (r.dis i k a ha (e ▸ hg))
theorem RB.bookOp {H H' : AH} {s : RgSt} {f : Nat → AS} {Q : Nat → Pn → Prop} {gb : Pn} {l' : List Wt} (r : RB H s f Q) (e : f 47 = .ptr (.at gb 0)) (k : Fr (fun a => a = gb) H H') (t : BK H' gb l') : RB H' { s with wat := l' } f Q :=
 have hq : Q 47 gb := by obtain ⟨g', e', _, h⟩ := r.book; rw [e] at e'; cases e'; exact (h _).2 rfl
 have rb := r.fr (F := fun a => a = gb ∧ False) (H' := H) (Fr.refl _ _) fun _ _ _ _ h => h.2
 {i0 := r.i0, i1 := r.i1, i2 := r.i2, i34 := r.i34, i37 := r.i37, i39 := r.i39, i40 := r.i40
  s4 := r.s4.fr k fun a h => ne_q r (show 4 ≠ 47 by decide) ((r.q4 a).2 h) hq
  s35 := r.s35.fr k fun a h => ne_q r (show 35 ≠ 47 by decide) ((r.q35 a).2 h) hq
  s36 := r.s36.fr k fun a h => ne_q r (show 36 ≠ 47 by decide) ((r.q36 a).2 h) hq
  s38 := r.s38.fr k fun a h => ne_q r (show 38 ≠ 47 by decide) ((r.q38 a).2 h) hq
  s41 := r.s41.fr k fun a h => ne_q r (show 41 ≠ 47 by decide) ((r.q41 a).2 h) hq
  s42 := r.s42.fr k fun a h => ne_q r (show 42 ≠ 47 by decide) ((r.q42 a).2 h) hq
  s43 := r.s43.fr k fun a h => ne_q r (show 43 ≠ 47 by decide) ((r.q43 a).2 h) hq
  s44 := r.s44.fr k fun a h => ne_q r (show 44 ≠ 47 by decide) ((r.q44 a).2 h) hq
  tab := r.tab.imp fun gt h => ⟨h.1, h.2.fr k fun a ha => ne_q r (show 45 ≠ 47 by decide) ha hq⟩
  own := r.own.imp fun go h => ⟨h.1, h.2.1.fr k (ne_q r (show 46 ≠ 47 by decide) ((h.2.2 go).2 rfl) hq), h.2.2⟩
  book := ⟨gb, e, t, by obtain ⟨g', e', _, h⟩ := r.book; rw [e] at e'; cases e'; exact h⟩
  q4 := r.q4, q35 := r.q35, q36 := r.q36, q38 := r.q38, q41 := r.q41, q42 := r.q42, q43 := r.q43, q44 := r.q44
  dis := r.dis, qh := fun i a h => k.has a (r.qh i a h), pl := r.pl }
theorem RB.ownOp {H H' : AH} {s : RgSt} {f : Nat → AS} {Q : Nat → Pn → Prop} {go : Pn} {l' : List (Int × Int)} (r : RB H s f Q) (e : f 46 = .ptr (.at go 0)) (k : Fr (fun a => a = go) H H') (t : OM H' go s.n l') : RB H' { s with ow := l' } f Q :=
 have hq : Q 46 go := by obtain ⟨g', e', _, h⟩ := r.own; rw [e] at e'; cases e'; exact (h _).2 rfl
 {i0 := r.i0, i1 := r.i1, i2 := r.i2, i34 := r.i34, i37 := r.i37, i39 := r.i39, i40 := r.i40
  s4 := r.s4.fr k fun a h => ne_q r (show 4 ≠ 46 by decide) ((r.q4 a).2 h) hq
  s35 := r.s35.fr k fun a h => ne_q r (show 35 ≠ 46 by decide) ((r.q35 a).2 h) hq
  s36 := r.s36.fr k fun a h => ne_q r (show 36 ≠ 46 by decide) ((r.q36 a).2 h) hq
  s38 := r.s38.fr k fun a h => ne_q r (show 38 ≠ 46 by decide) ((r.q38 a).2 h) hq
  s41 := r.s41.fr k fun a h => ne_q r (show 41 ≠ 46 by decide) ((r.q41 a).2 h) hq
  s42 := r.s42.fr k fun a h => ne_q r (show 42 ≠ 46 by decide) ((r.q42 a).2 h) hq
  s43 := r.s43.fr k fun a h => ne_q r (show 43 ≠ 46 by decide) ((r.q43 a).2 h) hq
  s44 := r.s44.fr k fun a h => ne_q r (show 44 ≠ 46 by decide) ((r.q44 a).2 h) hq
  tab := r.tab.imp fun gt h => ⟨h.1, h.2.fr k fun a ha => ne_q r (show 45 ≠ 46 by decide) ha hq⟩
  own := ⟨go, e, t, by obtain ⟨g', e', _, h⟩ := r.own; rw [e] at e'; cases e'; exact h⟩
  book := r.book.imp fun gb h => ⟨h.1, h.2.1.fr k (ne_q r (show 47 ≠ 46 by decide) ((h.2.2 gb).2 rfl) hq), h.2.2⟩
  q4 := r.q4, q35 := r.q35, q36 := r.q36, q38 := r.q38, q41 := r.q41, q42 := r.q42, q43 := r.q43, q44 := r.q44
  dis := r.dis, qh := fun i a h => k.has a (r.qh i a h), pl := r.pl }
structure GoodN (nt : Nt) : Prop where
 moved : ∀ t ∈ nt.moved, GoodT t
 given : ∀ t ∈ nt.given, GoodT t
theorem heard_okG {cl : Cl} (hh : CHeard cl) {H : AH} {g : Pn} {s : RgSt} {f : Nat → AS} {Q : Nat → Pn → Prop} {p : AP} {n z : Nat} {c : ACap} {l : List (Rw × Nt)} {PP : Rw × Nt → Prop} {K : AV → AH → Bool}
  (rb : RB H s f Q) (hg : H.has g) (gg : H.get g = some (.row (c48 f))) (sr : SR 6 H p n z ((l.map (·.1)).flatMap rwC)) (hl : ∀ x ∈ l, (NOf H x.1 x.2 ∧ SmN x.2) ∧ PP x) (hsl : SmN s.last) (hql : PP (lastR f s, s.last)) (hb0 : 0 ≤ s.beat ∧ s.beat ≤ 1000000) (hn : n < 5) (hok : OkEnd s (l.map (·.2)))
  (hk : ∀ Hh pN m cN zN (LN : List (Rw × Nt)), Le H Hh → SR 6 Hh pN m zN ((LN.map (·.1)).flatMap rwC) → (∀ x ∈ LN, (NOf Hh x.1 x.2 ∧ SmN x.2) ∧ PP x) → LN.map (·.2) = endN s (l.map (·.2)) → m ≤ 5 → (∀ a, ownP pN a → ¬ H.has a) → K (.tup [.s (.slice pN m cN zN), .s (.bool true)]) Hh = true) :
  cl i_region_Region_heard [.s (.ptr (.at g 0)), .s (.slice p n c z)] H K = true := by
 have hln : l.length = n := by have := hds_n rwC_len (by decide) sr; rwa [List.length_map] at this
 refine hh H g s f Q p n c z l K rb hg gg sr (fun x hx => (hl x hx).1) hsl hb0 (by omega) (fun hz => ?_) (fun hz H' p' m c' z' b h' hT hF => ?_)
 ·rcases hok with ⟨_, h0⟩ | ⟨h, _⟩
  ·have hl0 : l = [] := List.map_eq_nil_iff.1 h0
   have hn0 : n = 0 := by rw [← hln, hl0]; rfl
   rw [decide_eq_true hn0]
   exact hk H .nil 0 _ 1 [] (Le.refl _) SR.nil (fun x hx => by cases hx) (by unfold endN; rw [if_pos hz]; rfl) (by omega) fun a ⟨o, e⟩ => by cases e
  ·exact absurd hz h
 ·have hs := heardL_snd (f := f) (s := s) fun x hx => (hl x hx).1
  rcases hok with ⟨h, _⟩ | ⟨_, h1, h2⟩
  ·exact absurd h hz
  ·rw [List.length_map, hln] at h2
   cases b with
   | false =>
    have := hF rfl
    rw [hs, h1, Bool.true_and] at this
    exact absurd h2 (of_decide_eq_false this)
   | true =>
    obtain ⟨_, _, em, sr', fo⟩ := hT rfl
    refine hk H' p' m c' z' (heardL f s l) h' sr' (fun x hx => ?_) (by rw [hs]; unfold endN; rw [if_neg hz]) (by omega) fo
    rcases List.mem_append.1 (srtP_mem hx) with h | h
    ·exact ⟨⟨(hl x h).1.1.le h', (hl x h).1.2⟩, (hl x h).2⟩
    ·rw [List.mem_singleton] at h; subst h
     exact ⟨⟨rb.last.le h', hsl⟩, hql⟩
end Go.Proofs
end
section
namespace Go.Proofs
open Go Go.Vw Go.Vw.Ev
set_option linter.unusedVariables false
set_option linter.unusedSimpArgs false
noncomputable def watN (b : Int) (l : List Wt) (nts : List Nt) : List Wt := bkAllL l (nts.flatMap (·.watch)) b
def ohAll (n : Int) (l : List (Int × Int)) (src : Int) (hs : List (Int × Int)) : List (Int × Int) := hs.foldl (fun l h => ohL n l h.1 src h.2) l
def owN (n : Int) (l : List (Int × Int)) (nts : List Nt) : List (Int × Int) := nts.foldl (fun l nt => ohAll n l nt.src nt.hands) l
theorem ohAll_take {n : Int} {l : List (Int × Int)} {src : Int} {hs : List (Int × Int)} {i : Nat} (h : i < hs.length) : ohAll n l src (hs.take (i + 1)) = ohL n (ohAll n l src (hs.take i)) hs[i].1 src hs[i].2 := by
 unfold ohAll
 rw [List.take_succ_eq_append_getElem h, List.foldl_append]
 rfl
theorem owN_take {n : Int} {l : List (Int × Int)} {nts : List Nt} {i : Nat} (h : i < nts.length) : owN n l (nts.take (i + 1)) = ohAll n (owN n l (nts.take i)) nts[i].src nts[i].hands := by
 unfold owN
 rw [List.take_succ_eq_append_getElem h, List.foldl_append]
 rfl
theorem watN_take {b : Int} {l : List Wt} {nts : List Nt} {i : Nat} (h : i < nts.length) : watN b l (nts.take (i + 1)) = bkAllL (watN b l (nts.take i)) nts[i].watch b := by
 unfold watN
 rw [List.take_succ_eq_append_getElem h, List.flatMap_append, bkAll_app]
 simp
theorem EpB.mono {b c : Int} {l : List (Int × Int)} (h : EpB b l) (k : b ≤ c) : EpB c l := fun x hx => ⟨(h x hx).1, Int.le_trans (h x hx).2 k⟩
noncomputable def st2 (s : RgSt) (nts : List Nt) : RgSt := { s with wat := watN s.beat s.wat nts, ow := owN s.n s.ow nts }
noncomputable def st3 (s : RgSt) (nts : List Nt) : RgSt := { st2 s nts with th := layT s.th (comesL (st2 s nts) nts) }
noncomputable def endG (s : RgSt) (nts : List Nt) : RgSt := leavesS (st3 s nts)
noncomputable def befT (s : RgSt) (nts : List Nt) : List (Int × Th) := layT (layT [] s.was) (comesL (st2 s nts) nts)
noncomputable def befL (s : RgSt) (nts : List Nt) : List Th := (allT (befT s nts)).map (thOf (befT s nts))
noncomputable def aftL (s : RgSt) (nts : List Nt) : List Th := (allT (st3 s nts).th).map (thOf (st3 s nts).th)
structure EndOk (s : RgSt) (nts : List Nt) : Prop where
 th : s.th.length + (comesL (st2 s nts) nts).length < 1000
 hd : s.hands = []
 wl : s.was.length < 2000
 was : ∀ t ∈ s.was, GoodT t
 b0 : 0 ≤ s.beat ∧ s.beat ≤ 1000000
 wt : s.watch.length < 1000
 ls : SmN s.last
 lg : GoodN s.last
 ep : EpB 3000000000 s.ow
 f : OkF (st3 s nts) s.wat (befL s nts) (aftL s nts)
def NtsOk (H : AH) (O : Pn → Prop) (l : List (Rw × Nt)) : Prop := ∀ x ∈ l, (NOf H x.1 x.2 ∧ SmN x.2) ∧ GoodN x.2 ∧ ∀ a, ownW x.1 a → ¬ O a
def CEndG (cl : Cl) : Prop := ∀ H g s O p n c z (l : List (Rw × Nt)) K, RgS H g s O → Sm s → EndOk s (endN s (l.map (·.2))) → SR 6 H p n z ((l.map (·.1)).flatMap rwC) → NtsOk H O l → n < 5 → OkEnd s (l.map (·.2)) →
 (∀ H' r O' q cq zq (lf : List (Fw × Fm)), Fr O H H' → RgS H' g (endG s (endN s (l.map (·.2)))) O' → (∀ a, O' a → O a ∨ ¬ H.has a) → NOf H' r (endG s (endN s (l.map (·.2)))).last → (∀ a, ownW r a → ¬ H.has a ∧ ¬ O' a) → SR 6 H' q lf.length zq ((lf.map (·.1)).flatMap frC) → (∀ x ∈ lf, FOf H' x.1 x.2) →
  lf.map (·.2) = framesL (st3 s (endN s (l.map (·.2)))) s.wat (befL s (endN s (l.map (·.2)))) (aftL s (endN s (l.map (·.2)))) 4 → (∀ a, ownP q a → ¬ H.has a ∧ ¬ O' a) → (∀ x ∈ lf, ∀ a, ownA x.1.e a → ¬ H.has a ∧ ¬ O' a) → K (.tup [.agg (rwC r), .s (.slice q lf.length cq zq), .s (.int .i64 0)]) H' = true) →
 cl i_region_Region_End [.s (.ptr (.at g 0)), .s (.slice p n c z)] H K = true
theorem W_region_Region_EndG_ {lf : Nat} {cl : Cl} (hlf : 100000 ≤ lf) (hheard : CHeard cl) (hbk : CBkAll cl) (hdo : CBkDo cl) (hoh : COwHand cl) (htn : CTNew cl) (hlay : CTLay cl) (hcomes : CComes cl) (hall : CTAll cl) (hfr : CFramesG cl) (hlv : CLeaves cl) (hcopy : CNCopy cl) {H : AH} {g : Pn} {s : RgSt} {O : Pn → Prop} {p : AP} {n z : Nat} {c : ACap} {l : List (Rw × Nt)} {K : AV → AH → Bool}
  (rg : RgS H g s O) (sm : Sm s) (eo : EndOk s (endN s (l.map (·.2)))) (sr : SR 6 H p n z ((l.map (·.1)).flatMap rwC)) (hl : NtsOk H O l) (hn : n < 5) (hok : OkEnd s (l.map (·.2)))
  (hk : ∀ H' r O' q cq zq (lf : List (Fw × Fm)), Fr O H H' → RgS H' g (endG s (endN s (l.map (·.2)))) O' → (∀ a, O' a → O a ∨ ¬ H.has a) → NOf H' r (endG s (endN s (l.map (·.2)))).last → (∀ a, ownW r a → ¬ H.has a ∧ ¬ O' a) → SR 6 H' q lf.length zq ((lf.map (·.1)).flatMap frC) → (∀ x ∈ lf, FOf H' x.1 x.2) →
   lf.map (·.2) = framesL (st3 s (endN s (l.map (·.2)))) s.wat (befL s (endN s (l.map (·.2)))) (aftL s (endN s (l.map (·.2)))) 4 → (∀ a, ownP q a → ¬ H.has a ∧ ¬ O' a) → (∀ x ∈ lf, ∀ a, ownA x.1.e a → ¬ H.has a ∧ ¬ O' a) → K (.tup [.agg (rwC r), .s (.slice q lf.length cq zq), .s (.int .i64 0)]) H' = true) :
  B_region_Region_End lf cl (.at g 0) p n c z H K = true := by
 unfold B_region_Region_End
 refine new_w fun g1 H1 h1 hg1 ng1 gg1 => ?_
 have rgH := rg
 obtain ⟨f, Q, rb, hg, gg, q0, ho⟩ := rg
 have rb1 := rb.fr (h1.fr fun _ => False) fun _ _ _ _ h => h
 have QH : ∀ i a, Q i a → H.has a := rb.qh
 have hb0 := eo.b0
 have PL : GoodN s.last ∧ ∀ a, ownW (lastR f s) a → ¬ Q 46 a ∧ ¬ Q 47 a := by
  refine ⟨eo.lg, fun a ha => ?_⟩
  rcases ha with h | h | h | h
  ·have h := (rb.q41 a).2 h
   exact ⟨fun h' => absurd (rb.dis _ _ a h h') (by decide), fun h' => absurd (rb.dis _ _ a h h') (by decide)⟩
  ·have h := (rb.q42 a).2 h
   exact ⟨fun h' => absurd (rb.dis _ _ a h h') (by decide), fun h' => absurd (rb.dis _ _ a h h') (by decide)⟩
  ·have h := (rb.q43 a).2 h
   exact ⟨fun h' => absurd (rb.dis _ _ a h h') (by decide), fun h' => absurd (rb.dis _ _ a h h') (by decide)⟩
  ·have h := (rb.q44 a).2 h
   exact ⟨fun h' => absurd (rb.dis _ _ a h h') (by decide), fun h' => absurd (rb.dis _ _ a h h') (by decide)⟩
 refine heard_okG (PP := fun x => GoodN x.2 ∧ ∀ a, ownW x.1 a → ¬ Q 46 a ∧ ¬ Q 47 a) hheard rb1 (h1.has _ hg) ((h1.get _ hg).trans gg) (sr.le h1) (fun x hx => ?_) eo.ls PL hb0 hn hok fun H2 pN m cN zN LN h2 srN hN eN hm5 hfN => ?_
 ·obtain ⟨⟨a1, a2⟩, a3, a4⟩ := hl x hx
  exact ⟨⟨a1.le h1, a2⟩, a3, fun a ha => ⟨fun h => a4 a ha ((ho a).2 ⟨46, h⟩), fun h => a4 a ha ((ho a).2 ⟨47, h⟩)⟩⟩
 rw [← eN] at hk eo
 clear hl sr hok eN PL
 rw [tup2_, asSl_]
 refine arB_w ?_
 simp only [fB_eq]
 refine ifA_w (fun h => by cases h) (fun _ => ?_)
 have h02 := h1.trans h2
 obtain ⟨gb, e47, bk, q47⟩ := rb.book
 obtain ⟨gw, e46, om, q46⟩ := rb.own
 simp only [nilK_at, fN_eq, Nat.add_eq, Nat.zero_add, Nat.add_zero]
 refine rowK_w ((h02.get _ hg).trans gg) (ldP_w (p := .at gb 0) (by rw [c48_get _ (by decide), e47]) ?_)
 refine hbk _ _ _ _ (bk.le h02) fun H3 h3 => ?_
 rw [asG_]
 have hwl4 : (wtsC s.wat).length = 28 := by rw [wtsC, flat_len wtC_len, bk.len]
 refine tmp_w hwl4 rfl fun go H4 h4 hgo ngo ggo => ?_
 have h34 := h3.trans h4
 have h04 := h02.trans h34
 have ngoH : ¬ H.has go := fun h => ngo ((h02.trans h3).has _ h)
 have srN4 := srN.le h34
 have hlnN : LN.length = m := by have := hds_n rwC_len (by decide) srN; rwa [List.length_map] at this
 have rb4 := rb.fr (h04.fr fun _ => False) fun _ _ _ _ h => h
 have hg4 := h04.has _ hg
 have gg4 := (h04.get _ hg).trans gg
 have hN4 : ∀ x ∈ LN, (NOf H4 x.1 x.2 ∧ SmN x.2) ∧ GoodN x.2 ∧ ∀ a, ownW x.1 a → ¬ Q 46 a ∧ ¬ Q 47 a := fun x hx => ⟨⟨(hN x hx).1.1.le h34, (hN x hx).1.2⟩, (hN x hx).2⟩
 have hfN' : ∀ a, ownP pN a → ¬ (Q 46 a ∨ Q 47 a) := fun a ha h => hfN a ha (h1.has _ (h.elim (QH _ _) (QH _ _)))
 have nFg : ¬ (Q 46 g ∨ Q 47 g) := fun h => h.elim (fun h => absurd (rb.dis _ _ g h ((q0 g).2 rfl)) (by decide)) fun h => absurd (rb.dis _ _ g h ((q0 g).2 rfl)) (by decide)
 have FH : ∀ a, (Q 46 a ∨ Q 47 a) → H4.has a := fun a h => h04.has _ (h.elim (QH _ _) (QH _ _))
 have rdN : ∀ {Hx : AH} {i : Nat} (hi : i < m) {K' : Pn → AH → Bool}, Fr (fun a => Q 46 a ∨ Q 47 a) H4 Hx → (∀ g' Hy, Le Hx Hy → Hy.has g' → ¬ Hx.has g' → Hy.get g' = some (.row (rwC (LN[i]'(by omega)).1)) → K' g' Hy = true) →
   nilK pN (fun g39 o40 => idxK (i : Int) m fun m41 => rowK Hx g39 fun cs43 => ldG cs43 (o40 + Nat.mul m41 6) 6 fun cs44 => newK Hx (.row [AS.int .i64 (Int.ofNat 0), AS.int .i64 (Int.ofNat 0), AS.slice AP.nil 0 (.lit 0) 1, AS.slice AP.nil 0 (.lit 0) 1, AS.slice AP.nil 0 (.lit 0) 1, AS.slice AP.nil 0 (.lit 0) 1]) fun g45 h46 => stoN h46 g45 0 6 cs44 fun h47 => K' g45 h47) = true := by
  intro Hx i hi K' hx hK
  have srx := srN4.fr hx hfN'
  obtain ⟨b, rfl, hb, gb'⟩ := srx.at (by omega)
  have hx1 : i < (LN.map (·.1)).length := by rw [List.length_map]; omega
  have hseg := flat_at rwC_len (LN.map (·.1)) i hx1
  rw [List.getElem_map] at hseg
  have hfl := srN4.1
  simp only [nilK_at, fN_eq, Nat.add_eq, Nat.mul_eq, Nat.zero_add]
  refine idxK_w (by omega) (by omega) ?_
  rw [Int.toNat_natCast]
  refine rowK_w gb' (ldG_we (ys := rwC (LN[i]'(by omega)).1) (by omega) (by decide) hseg ?_)
  exact tmp_w rfl rfl fun g' Hy hy hg' ng' gg' => hK g' Hy hy hg' ng' gg'
 have hmm : (LN.map (·.2)).length = m := by rw [List.length_map]; exact hlnN
 refine loopX_w (fun x Hx => ∃ i : Nat, x = (.at g 0, .at g1 0, (pN, m, cN, zN), .at go 0, (pN, m, cN, zN), (m : Int), (i : Int)) ∧ i ≤ m ∧ Fr (fun a => Q 46 a ∨ Q 47 a) H4 Hx ∧ RB Hx { s with wat := watN s.beat s.wat ((LN.map (·.2)).take i) } f Q) (fun x => m - x.2.2.2.2.2.2.toNat)
  ⟨0, rfl, by omega, Fr.refl _ _, rb4⟩ (by simp; omega) ?_
 rintro self x Hx ⟨i, rfl, hi, fx, rbx⟩ ih
 simp only [pR_, iLt_dec]
 refine ifA_w (fun hx => ?_) (fun hx => ?_)
 ·have hx : i < m := by have := of_decide_eq_true hx; omega
  refine rdN hx fx fun g' Hy hy hg' ng' gg' => ?_
  obtain ⟨⟨no, sn⟩, _, nf⟩ := hN4 _ (List.getElem_mem (show i < LN.length by omega))
  have hstep := watN_take (b := s.beat) (l := s.wat) (nts := LN.map (·.2)) (i := i) (by omega)
  rw [List.getElem_map] at hstep
  generalize LN[i] = nt at *
  obtain ⟨pw, cw, zw, ew, _, srw⟩ := no.w
  have hlw := sn.w
  have npw : ∀ a, ownP pw a → ¬ (Q 46 a ∨ Q 47 a) := fun a ha h => by
   have := nf a (.inr (.inr (.inr (by rw [ew]; exact ha))))
   exact h.elim this.1 this.2
  have fy := fx.trans (hy.fr fun a => Q 46 a ∨ Q 47 a) fun _ h => .inl h
  refine rowK_w gg' (ldSl_w (p := pw) (n := nt.2.watch.length) (c := cw) (z := zw) (by show some nt.1.w = _; rw [ew]) ?_)
  have rby := rbx.fr (hy.fr fun _ => False) fun _ _ _ _ h => h
  generalize watN s.beat s.wat ((LN.map (·.2)).take i) = W0 at *
  refine loopX_w (fun y Hz => ∃ j : Nat, y = (.at g 0, .at g1 0, (pN, m, cN, zN), .at go 0, (pN, m, cN, zN), (m : Int), (i : Int), (pw, nt.2.watch.length, cw, zw), (nt.2.watch.length : Int), (j : Int)) ∧ j ≤ nt.2.watch.length ∧ Fr (fun a => Q 46 a ∨ Q 47 a) H4 Hz ∧ RB Hz { s with wat := bkAllL W0 (nt.2.watch.take j) s.beat } f Q) (fun y => nt.2.watch.length - y.2.2.2.2.2.2.2.2.2.toNat)
   ⟨0, rfl, by omega, fy, rby⟩ (by simp; omega) ?_
  rintro self2 y Hz ⟨j, rfl, hj, fz, rbz⟩ ih2
  simp only [pR_, iLt_dec]
  refine ifA_w (fun hx => ?_) (fun hx => ?_)
  ·have hx : j < nt.2.watch.length := by have := of_decide_eq_true hx; omega
   have hseg := flat_at cmC_len nt.2.watch j hx
   have hls := bkAll_take W0 nt.2.watch s.beat hx
   have srz := srw.fr fz npw
   have hfl := srw.1
   generalize nt.2.watch[j] = d at *
   obtain ⟨b, rfl, hb, gbb⟩ := srz.at (by omega)
   simp only [nilK_at, Nat.mul_eq, Nat.zero_add]
   refine idxK_w (by omega) (by omega) ?_
   rw [Int.toNat_natCast]
   refine rowK_w gbb (ldG_we (ys := cmC d) (by omega) (by decide) hseg ?_)
   refine tmp_w rfl rfl fun gd H5 h5 hgd ngd ggd => ?_
   have hz4 := fz.has _ hg4
   have gz : H5.get g = some (.row (c48 f)) := (h5.get _ hz4).trans ((fz.get _ hg4 nFg).trans gg4)
   refine rowK_w gz (ldP_w (p := .at gb 0) (by rw [c48_get _ (by decide), e47]) ?_)
   refine rowK_w ggd (ldG_we (ys := cmC d) (lb rfl) (by decide) rfl ?_)
   refine rowK_w gz (ldI_w (n := s.beat) (by rw [c48_get _ (by decide), rb.i2]) ?_)
   have rb5 := rbz.fr (h5.fr fun _ => False) fun _ _ _ _ h => h
   obtain ⟨gb2, e472, bk5, _⟩ := rb5.book
   obtain rfl : gb2 = gb := by rw [e47] at e472; cases e472; rfl
   refine hdo _ _ _ _ _ _ bk5 fun H6 f6 bk6 => arI_w ?_
   rw [iAdd_]
   have rb6 := rb5.bookOp e47 f6 bk6
   refine w64_w (by simp only [Int.ofNat_eq_natCast]; omega) (by simp only [Int.ofNat_eq_natCast]; omega) (ih2 _ _ ⟨j + 1, by simp, by omega, (fz.trans (h5.fr fun a => Q 46 a ∨ Q 47 a) fun _ h => .inl h).trans (f6.mono fun a e => .inr ((q47 a).2 e)) fun _ h => .inl h, by rw [hls]; exact rb6⟩ (by simp; omega))
  ·have hx : j = nt.2.watch.length := by have := of_decide_eq_false hx; omega
   subst hx
   rw [List.take_length] at rbz
   rw [iAdd_]
   exact w64_w (by simp only [Int.ofNat_eq_natCast]; omega) (by simp only [Int.ofNat_eq_natCast]; omega) (ih _ _ ⟨i + 1, by simp, by omega, fz, by rw [hstep]; exact rbz⟩ (by simp; omega))
 have hx : i = m := by have := of_decide_eq_false hx; omega
 rw [hx, ← hmm, List.take_length] at rbx
 clear ih self hx hi rb4 bk om
 refine loopX_w (fun x Hx => ∃ i : Nat, x = (.at g 0, .at g1 0, (pN, m, cN, zN), .at go 0, (pN, m, cN, zN), (m : Int), (i : Int)) ∧ i ≤ m ∧ Fr (fun a => Q 46 a ∨ Q 47 a) H4 Hx ∧ RB Hx { s with wat := watN s.beat s.wat (LN.map (·.2)), ow := owN s.n s.ow ((LN.map (·.2)).take i) } f Q ∧ EpB (3000000000 + 1000 * (i : Int)) (owN s.n s.ow ((LN.map (·.2)).take i))) (fun x => m - x.2.2.2.2.2.2.toNat)
  ⟨0, rfl, by omega, fx, rbx, eo.ep.mono (by omega)⟩ (by simp; omega) ?_
 clear rbx fx
 rintro self x H5 ⟨i', rfl, hi, f45, rb5, ep5⟩ ih
 simp only [pR_, iLt_dec]
 refine ifA_w (fun hx => ?_) (fun hx => ?_)
 ·have hx : i' < m := by have := of_decide_eq_true hx; omega
  refine rdN hx f45 fun g' Hy hy hg' ng' gg' => ?_
  obtain ⟨⟨no, sn⟩, _, nf⟩ := hN4 _ (List.getElem_mem (show i' < LN.length by omega))
  have hstep := owN_take (n := s.n) (l := s.ow) (nts := LN.map (·.2)) (i := i') (by omega)
  rw [List.getElem_map] at hstep
  generalize LN[i'] = nt at *
  obtain ⟨pw, cw, zw, ew, _, srw⟩ := no.h
  have hlw := sn.h
  have esrc := no.src
  have npw : ∀ a, ownP pw a → ¬ (Q 46 a ∨ Q 47 a) := fun a ha h => by
   have := nf a (.inr (.inl (by rw [ew]; exact ha)))
   exact h.elim this.1 this.2
  have fy := f45.trans (hy.fr fun a => Q 46 a ∨ Q 47 a) fun _ h => .inl h
  refine rowK_w gg' (ldSl_w (p := pw) (n := nt.2.hands.length) (c := cw) (z := zw) (by show some nt.1.h = _; rw [ew]) ?_)
  have rby := rb5.fr (hy.fr fun _ => False) fun _ _ _ _ h => h
  generalize owN s.n s.ow ((LN.map (·.2)).take i') = W0 at *
  have ng'F : ¬ (Q 46 g' ∨ Q 47 g') := fun h => ng' (f45.has _ (FH _ h))
  refine loopX_w (fun y Hz => ∃ j : Nat, y = (.at g 0, .at g1 0, (pN, m, cN, zN), .at go 0, .at g' 0, (pN, m, cN, zN), (m : Int), (i' : Int), (pw, nt.2.hands.length, cw, zw), (nt.2.hands.length : Int), (j : Int)) ∧ j ≤ nt.2.hands.length ∧ Fr (fun a => Q 46 a ∨ Q 47 a) H4 Hz ∧ Hz.has g' ∧ Hz.get g' = some (.row (rwC nt.1)) ∧ RB Hz { s with wat := watN s.beat s.wat (LN.map (·.2)), ow := ohAll s.n W0 nt.2.src (nt.2.hands.take j) } f Q ∧ EpB (3000000000 + 1000 * (i' : Int) + (j : Int)) (ohAll s.n W0 nt.2.src (nt.2.hands.take j))) (fun y => nt.2.hands.length - y.2.2.2.2.2.2.2.2.2.2.toNat)
   ⟨0, rfl, by omega, fy, hg', gg', rby, ep5.mono (by omega)⟩ (by simp; omega) ?_
  rintro self2 y Hz ⟨j, rfl, hj, fz, hgz, ggz, rbz, epz⟩ ih2
  simp only [pR_, iLt_dec]
  refine ifA_w (fun hx => ?_) (fun hx => ?_)
  ·have hx : j < nt.2.hands.length := by have := of_decide_eq_true hx; omega
   have hseg := flat_at hdC_len nt.2.hands j hx
   have hls := ohAll_take (n := s.n) (l := W0) (src := nt.2.src) hx
   have srz := srw.fr fz npw
   have hfl := srw.1
   generalize nt.2.hands[j] = d at *
   obtain ⟨b, rfl, hb, gbb⟩ := srz.at (by omega)
   simp only [nilK_at, Nat.mul_eq, Nat.zero_add]
   refine idxK_w (by omega) (by omega) ?_
   rw [Int.toNat_natCast]
   refine rowK_w gbb (ldG_we (ys := hdC d) (by omega) (by decide) hseg ?_)
   refine tmp_w rfl rfl fun gd H6 h6 hgd ngd ggd => ?_
   have hz4 := fz.has _ hg4
   have gz : H6.get g = some (.row (c48 f)) := (h6.get _ hz4).trans ((fz.get _ hg4 nFg).trans gg4)
   refine rowK_w gz (ldP_w (p := .at gw 0) (by rw [c48_get _ (by decide), e46]) ?_)
   refine rowK_w ggd (ldI_w (n := d.1) rfl ?_)
   have gg6 := (h6.get _ hgz).trans ggz
   refine rowK_w gg6 (ldI_w (n := nt.2.src) (by rw [← esrc]; rfl) ?_)
   refine rowK_w ggd (ldI_w (n := d.2) rfl ?_)
   have rb6 := rbz.fr (h6.fr fun _ => False) fun _ _ _ _ h => h
   obtain ⟨gw2, e462, om6, _⟩ := rb6.own
   obtain rfl : gw2 = gw := by rw [e46] at e462; cases e462; rfl
   have hj2 : (i' : Int) < 5 := by omega
   refine hoh _ _ _ _ _ _ _ _ om6 (epz.mono (by omega)) fun H7 f7 om7 => arI_w ?_
   rw [iAdd_]
   have rb7 := rb6.ownOp e46 f7 om7
   have ng'w : ¬ g' = gw2 := fun e => ng'F (.inl ((q46 _).2 e))
   have := epz.hand (n := s.n) (c := d.1) (f := nt.2.src) (t := d.2) (by omega)
   refine w64_w (by simp only [Int.ofNat_eq_natCast]; omega) (by simp only [Int.ofNat_eq_natCast]; omega) (ih2 _ _ ⟨j + 1, by simp, by omega, (fz.trans (h6.fr fun a => Q 46 a ∨ Q 47 a) fun _ h => .inl h).trans (f7.mono fun a e => .inl ((q46 a).2 e)) fun _ h => .inl h, f7.has _ (h6.has _ hgz), (f7.get _ (h6.has _ hgz) ng'w).trans gg6, by rw [hls]; exact rb7, by rw [hls]; exact this.mono (by omega)⟩ (by simp; omega))
  ·have hx : j = nt.2.hands.length := by have := of_decide_eq_false hx; omega
   subst hx
   rw [List.take_length] at rbz epz
   rw [iAdd_]
   exact w64_w (by simp only [Int.ofNat_eq_natCast]; omega) (by simp only [Int.ofNat_eq_natCast]; omega) (ih _ _ ⟨i' + 1, by simp, by omega, fz, by rw [hstep]; exact rbz, by rw [hstep]; exact epz.mono (by omega)⟩ (by simp; omega))
 have hx : i' = m := by have := of_decide_eq_false hx; omega
 rw [hx, ← hmm, List.take_length] at rb5
 clear ih self hx hi rdN ep5
 have f05 : Fr (fun a => Q 46 a ∨ Q 47 a) H H5 := (h04.fr _).trans f45 fun _ h => .inl h
 have hgo_5 := f45.has _ hgo
 have go_5 := (f45.get _ hgo fun h => ngoH (h.elim (QH _ _) (QH _ _))).trans ggo
 have hg14 := (h2.trans h34).has _ hg1
 have hg1_5 := f45.has _ hg14
 have g1_5 := (f45.get _ hg14 fun h => ng1 (h.elim (QH _ _) (QH _ _))).trans (((h2.trans h34).get _ hg1).trans gg1)
 have hg5 := f45.has _ hg4
 have gg5 := (f45.get _ hg4 nFg).trans gg4
 have srN5 := srN4.fr f45 hfN'
 have hN5 : ∀ x ∈ LN, NOf H5 x.1 x.2 ∧ SmN x.2 := fun x hx => ⟨(hN4 x hx).1.1.fr f45 fun a ha h => h.elim ((hN4 x hx).2.2 a ha).1 ((hN4 x hx).2.2 a ha).2, (hN4 x hx).1.2⟩
 have hgdN : ∀ x ∈ LN, GoodN x.2 := fun x hx => (hN4 x hx).2.1
 change RB H5 (st2 s (LN.map (·.2))) f Q at rb5
 have es3 : st3 s (LN.map (·.2)) = { st2 s (LN.map (·.2)) with th := layT s.th (comesL (st2 s (LN.map (·.2))) (LN.map (·.2))) } := rfl
 have eend : endG s (LN.map (·.2)) = leavesS { st2 s (LN.map (·.2)) with th := layT s.th (comesL (st2 s (LN.map (·.2))) (LN.map (·.2))) } := rfl
 have ebef : befL s (LN.map (·.2)) = (allT (layT (layT [] s.was) (comesL (st2 s (LN.map (·.2))) (LN.map (·.2))))).map (thOf (layT (layT [] s.was) (comesL (st2 s (LN.map (·.2))) (LN.map (·.2))))) := rfl
 have eaft : aftL s (LN.map (·.2)) = (allT (layT s.th (comesL (st2 s (LN.map (·.2))) (LN.map (·.2))))).map (thOf (layT s.th (comesL (st2 s (LN.map (·.2))) (LN.map (·.2))))) := rfl
 have hth := eo.th
 have okf := eo.f
 have hwas := eo.was
 have hwl := eo.wl
 have hhd := eo.hd
 have hwt := eo.wt
 rw [es3, ebef, eaft] at okf
 rw [eend, es3, ebef, eaft] at hk
 have sm2 : Sm (st2 s (LN.map (·.2))) := ⟨sm.th, sm.g0, sm.g1, sm.hl, sm.lhl, sm.ol, sm.t0⟩
 have e2h : (st2 s (LN.map (·.2))).hands = s.hands := rfl
 have e2b : (st2 s (LN.map (·.2))).beat = s.beat := rfl
 have e2t : (st2 s (LN.map (·.2))).th = s.th := rfl
 have e2w : (st2 s (LN.map (·.2))).was = s.was := rfl
 have e2x : (st2 s (LN.map (·.2))).watch = s.watch := rfl
 have rgs5 : RgS H5 g (st2 s (LN.map (·.2))) O := ⟨f, Q, rb5, hg5, gg5, q0, ho⟩
 clear es3 eend ebef eaft eo hN hN4 srN srN4 hfN
 generalize st2 s (LN.map (·.2)) = s2 at *
 refine htn _ _ fun H6 gB OB h6 tB oB => ?_
 rw [asP_]
 have oBH : ∀ a, OB a → ¬ H5.has a := oB
 obtain ⟨pW, cW, zW, e4, srW⟩ := rb5.s4
 rw [e2w] at e4 srW
 refine rowK_w ((h6.get _ hg5).trans gg5) (ldSl_w (by rw [c48_get _ (by decide), e4]) ?_)
 refine loopX_w (fun x Hx => Le H5 Hx ∧ ∃ (i : Nat) (Ob : Pn → Prop), x = (.at g 0, .at g1 0, (pN, m, cN, zN), .at go 0, .at gB 0, (pW, s.was.length, cW, zW), (s.was.length : Int), (i : Int)) ∧ i ≤ s.was.length ∧ TT Hx gB (layT [] (s.was.take i)) Ob ∧ (∀ a, Ob a → ¬ H5.has a)) (fun x => s.was.length - x.2.2.2.2.2.2.2.toNat)
  ⟨h6, 0, OB, rfl, by omega, tB, oB⟩ (by simp; omega) ?_
 clear tB oB oBH h6 H6 OB
 rintro self x H6 ⟨h6, i, Ob, rfl, hi, tB, oB⟩ ih
 simp only [pR_, iLt_dec]
 refine ifA_w (fun hx => ?_) (fun hx => ?_)
 ·have hx : i < s.was.length := by have := of_decide_eq_true hx; omega
  have hseg := flat_at thC_len' s.was i hx
  have hgood := hwas _ (List.getElem_mem hx)
  have hls := layT_succ [] hx
  have hll := layT_le (s.was.take i) []
  rw [List.length_take, List.length_nil] at hll
  have srW6 := srW.le h6
  generalize s.was[i] = t at *
  obtain ⟨b, rfl, hb, gb'⟩ := srW6.at (by omega)
  have hfl := srW6.1
  simp only [nilK_at, fN_eq, Nat.add_eq, Nat.mul_eq, Nat.zero_add]
  refine idxK_w (by omega) (by omega) ?_
  rw [Int.toNat_natCast]
  refine rowK_w gb' (ldG_we (ys := thC t) (by omega) (by decide) hseg ?_)
  refine tmp_w rfl rfl fun gc H7 h7 hgc ngc ggc => ?_
  refine rowK_w ggc (ldG_we (ys := thC t) (lb rfl) (by decide) rfl ?_)
  refine hlay _ _ _ _ _ _ (tB.le h7) hgood.on hgood.i0 (by have := hgood.i1; omega) (by omega) fun H8 O8 f8 t8 o8 => ?_
  rw [tup0_, iAdd_]
  have h58 : Le H5 H8 := ⟨fun a ha => f8.has a (h7.has a (h6.has a ha)), fun a ha => (f8.get a (h7.has a (h6.has a ha)) fun h => oB a h ha).trans ((h7.get a (h6.has a ha)).trans (h6.get a ha))⟩
  exact w64_w (by simp only [Int.ofNat_eq_natCast]; omega) (by simp only [Int.ofNat_eq_natCast]; omega) (ih _ _ ⟨h58, i + 1, O8, by simp, by omega, by rw [hls]; exact t8, fun a ha h => (o8 a ha).elim (fun h' => oB a h' h) fun h' => h' (h7.has a (h6.has a h))⟩ (by simp; omega))
 have hx : i = s.was.length := by have := of_decide_eq_false hx; omega
 rw [hx, List.take_length] at tB
 clear ih self
 have hLb2 := layT_le s.was []
 rw [List.length_nil] at hLb2
 refine hcomes _ _ _ _ _ _ _ _ LN _ (rgs5.le h6) (srN5.le h6) (fun x hx => ⟨(hN5 x hx).1.le h6, (hN5 x hx).2⟩) (by omega) fun H7 pC cC zC h7 srC oC => ?_
 rw [asSl_]
 have hgoodC : ∀ t ∈ comesL s2 (LN.map (·.2)), GoodT t := fun t ht => by
  unfold comesL at ht
  obtain ⟨h1, _⟩ := List.mem_filter.1 ht
  obtain ⟨nt, hnt, hmem⟩ := List.mem_flatMap.1 h1
  obtain ⟨x, hx, rfl⟩ := List.mem_map.1 hnt
  unfold bothT at hmem
  rcases List.mem_append.1 hmem with h | h
  ·exact (hgdN x hx).moved t h
  ·exact (hgdN x hx).given t h
 generalize comesL s2 (LN.map (·.2)) = cm at *
 have h57 := h6.trans h7
 have rb7 := rb5.fr (h57.fr fun _ => False) fun _ _ _ _ h => h
 have QH5 : ∀ i a, Q i a → H5.has a := rb5.qh
 have q45g : ¬ Q 45 g := fun h => absurd (rb.dis 45 0 g h ((q0 g).2 rfl)) (by decide)
 obtain ⟨gt, e45, _⟩ := rb.tab
 generalize eLw : layT [] s.was = Lw at *
 refine loopX_w (fun x Hx => ∃ (i : Nat) (Ob X : Pn → Prop), x = (.at g 0, .at g1 0, .at go 0, .at gB 0, (pC, cm.length, cC, zC), (cm.length : Int), (i : Int)) ∧ i ≤ cm.length ∧ TT Hx gB (layT Lw (cm.take i)) Ob ∧ (∀ a, Ob a → ¬ H5.has a) ∧
   RB Hx { s2 with th := layT s.th (cm.take i) } f (updA Q 45 X) ∧ Fr (Q 45) H5 Hx ∧ (∀ a, X a → Q 45 a ∨ ¬ H5.has a) ∧ (∀ a, X a → ¬ Ob a) ∧ SR 11 Hx pC cm.length zC (thsC cm) ∧ (∀ a, ownP pC a → ¬ Ob a ∧ ¬ X a ∧ ¬ H5.has a)) (fun x => cm.length - x.2.2.2.2.2.2.toNat)
  ⟨0, Ob, Q 45, rfl, by omega, tB.le h7, oB, by rw [updA_self]; show RB H7 { s2 with th := s.th } f Q; rw [← e2t]; exact rb7, h57.fr _, fun a h => .inl h, fun a h h' => oB a h' (QH5 _ _ h), srC, fun a ha => ⟨fun h => oC a ha (tB.has a h), fun h => oC a ha (h6.has a (QH5 _ _ h)), fun h => oC a ha (h6.has a h)⟩⟩ (by simp; omega) ?_
 clear tB oB srC oC rb7 h57 h7 H7 h6 H6 Ob
 rintro self x H8 ⟨i, Ob, X, rfl, hi, tB, oB, rby, fy, xo, xb, srC, oC⟩ ih
 simp only [pR_, iLt_dec]
 have hcm : cm.length ≤ 6000 := by omega
 have q0y : ∀ a, updA Q 45 X 0 a ↔ a = g := fun a => by rw [updA_ne _ _ (by decide)]; exact q0 a
 have gg8 := (fy.get _ hg5 q45g).trans gg5
 have hg8 := fy.has _ hg5
 have hLx := layT_le (cm.take i) Lw
 rw [List.length_take] at hLx
 have obR : ∀ i a, i ≠ 0 → updA Q 45 X i a → ¬ Ob a := fun i a _ h h' => by
  by_cases e : i = 45
  ·subst e
   rw [updA_same] at h
   exact xb a h h'
  ·rw [updA_ne _ _ e] at h
   exact oB a h' (QH5 _ _ h)
 refine ifA_w (fun hx => ?_) (fun hx => ?_)
 ·have hx : i < cm.length := by have := of_decide_eq_true hx; omega
  have hseg := flat_at thC_len' cm i hx
  have hgood := hgoodC _ (List.getElem_mem hx)
  have hls := layT_succ s.th hx
  have hlw := layT_succ Lw hx
  have hll := layT_le (cm.take i) s.th
  rw [List.length_take] at hll
  generalize cm[i] = t at *
  obtain ⟨b, rfl, hb, gb'⟩ := srC.at (by omega)
  have hfl := srC.1
  simp only [nilK_at, fN_eq, Nat.add_eq, Nat.mul_eq, Nat.zero_add]
  refine idxK_w (by omega) (by omega) ?_
  rw [Int.toNat_natCast]
  refine rowK_w gb' (ldG_we (ys := thC t) (by omega) (by decide) hseg ?_)
  refine tmp_w rfl rfl fun gc H9 h9 hgc ngc ggc => ?_
  refine rowK_w ggc (ldG_we (ys := thC t) (lb rfl) (by decide) rfl ?_)
  have ht1 : t.id ≤ 9223372036854775807 := by have := hgood.i1; omega
  refine hlay _ _ _ _ _ _ (tB.le h9) hgood.on hgood.i0 ht1 (by omega) fun HA OA fA tA oA => ?_
  rw [tup0_]
  have hgcO : ¬ Ob gc := fun h => ngc (tB.has _ h)
  have gcA := (fA.get _ hgc hgcO).trans ggc
  have hgcA := fA.has _ hgc
  have hgOb : ¬ Ob g := fun h => oB g h hg5
  have ggA := (fA.get _ (h9.has _ hg8) hgOb).trans ((h9.get _ hg8).trans gg8)
  refine rowK_w ggA (ldP_w (p := .at gt 0) (by rw [c48_get _ (by decide), e45]) ?_)
  refine rowK_w gcA (ldG_we (ys := thC t) (lb rfl) (by decide) rfl ?_)
  have rbA := (rby.fr (h9.fr fun _ => False) fun _ _ _ _ h => h).fr fA obR
  obtain ⟨gt', e45', ttA⟩ := rbA.tab
  obtain rfl : gt' = gt := by rw [e45] at e45'; cases e45'; rfl
  rw [updA_same] at ttA
  have e45A : updA Q 45 X 45 = X := updA_same _ _ _
  refine hlay HA gt' (layT s.th (cm.take i)) X t _ ttA hgood.on hgood.i0 ht1 (by omega) fun HB OB' fB' tB' oB' => ?_
  have rbB := rbA.tabOp e45 (by rw [e45A]; exact fB') tB' (by rw [e45A]; exact oB')
  rw [updA_updA] at rbB
  rw [tup0_, iAdd_]
  have OAx : ∀ a, OA a → ¬ X a := fun a ha hX => by
   rcases oA a ha with h | h
   ·exact xb a hX h
   ·exact h (h9.has _ (rby.qh 45 a (by rw [updA_same]; exact hX)))
  refine w64_w (by simp only [Int.ofNat_eq_natCast]; omega) (by simp only [Int.ofNat_eq_natCast]; omega) (ih _ _ ⟨i + 1, OA, OB', by simp, by omega, by rw [hlw]; exact tA.fr fB' (fun a ha h => OAx a ha h), fun a ha h => ?_, by rw [hls]; exact rbB, ?_, fun a h => ?_, fun a h h' => ?_, ?_, fun a ha => ⟨fun h => ?_, fun h => ?_, (oC a ha).2.2⟩⟩ (by simp; omega))
  ·rcases oA a ha with h' | h'
   ·exact oB a h' h
   ·exact h' (h9.has _ (fy.has _ h))
  ·refine ⟨fun a ha => fB'.has a (fA.has a (h9.has a (fy.has a ha))), fun a ha hq => ?_⟩
   have n1 : ¬ Ob a := fun h => oB a h ha
   have n2 : ¬ X a := fun h => (xo a h).elim hq fun h' => h' ha
   exact (fB'.get a (fA.has a (h9.has a (fy.has a ha))) n2).trans ((fA.get a (h9.has a (fy.has a ha)) n1).trans ((h9.get a (fy.has a ha)).trans (fy.get a ha hq)))
  ·rcases oB' a h with h' | h'
   ·exact xo a h'
   ·exact .inr fun h'' => h' (fA.has _ (h9.has _ (fy.has _ h'')))
  ·rcases oB' a h with h1 | h1
   ·exact OAx a h' h1
   ·exact h1 (tA.has a h')
  ·exact ((srC.le h9).fr fA fun a ha h => (oC a ha).1 h).fr fB' fun a ha h => (oC a ha).2.1 h
  ·rcases oA a h with h' | h'
   ·exact (oC a ha).1 h'
   ·exact h' (h9.has _ (srC.has a ha))
  ·rcases oB' a h with h' | h'
   ·exact (oC a ha).2.1 h'
   ·exact h' (fA.has _ (h9.has _ (srC.has a ha)))
 have hx : i = cm.length := by have := of_decide_eq_false hx; omega
 rw [hx, List.take_length] at rby tB
 clear ih self hi srC oC
 have hth2 := layT_le cm s.th
 have hLw2 := layT_le cm Lw
 have q45o : ¬ Q 45 go := fun h => ngoH (QH _ _ h)
 have q451 : ¬ Q 45 g1 := fun h => ng1 (QH _ _ h)
 have go8 := (fy.get _ hgo_5 q45o).trans go_5
 have hgo8 := fy.has _ hgo_5
 have g18 := (fy.get _ hg1_5 q451).trans g1_5
 have hg18 := fy.has _ hg1_5
 simp only [nilK_at]
 refine getK_w go8 (rowK_w go8 (ldG_we (ys := wtsC s.wat) (by rw [hwl4]; decide) (by decide) (by rw [List.drop_zero, ← hwl4, List.take_length]) ?_))
 refine hall _ _ _ _ _ tB (by omega) fun H9 pA cA zA h9 slA => ?_
 refine okK_w (kSame_row ((h9.get _ hgo8).trans go8) (wts_leafy _) rfl) ?_
 rw [asSl_]
 have rg8 : RgS H8 g { s2 with th := layT s.th cm } (fun a => ∃ i, updA Q 45 X i a) := ⟨f, updA Q 45 X, rby, hg8, gg8, q0y, fun _ => Iff.rfl⟩
 have hwl : s.wat.length = 4 := by
  have := hwl4
  rw [wtsC, flat_len wtC_len] at this
  omega
 refine hfr _ _ _ _ _ _ _ _ _ _ _ (rg8.le h9) (by show (layT s.th cm).length < 9000; omega) hwl (Sl.sr slA) (by rw [allT_len]; omega) okf fun HC qF cF zF lF hC srF hF eF oqF oeF => ?_
 rw [asSl_]
 have h8C := h9.trans hC
 have smC : Sm { s2 with th := layT s.th cm } := ⟨by show (layT s.th cm).length < 9000; omega, sm2.g0, sm2.g1, sm2.hl, sm2.lhl, sm2.ol, sm2.t0⟩
 refine hlv _ _ _ _ _ (rg8.le h8C) smC (by show s2.hands = []; rw [e2h, hhd]) (by show 0 ≤ s2.beat ∧ s2.beat ≤ 1000000; rw [e2b]; exact hb0) fun HD r0 OD fD rgD oD noD wD => ?_
 rw [asG_]
 have Xo : ∀ a, (∃ i, updA Q 45 X i a) → O a ∨ ¬ H5.has a := fun a ⟨i, h⟩ => by
  by_cases e : i = 45
  ·subst e
   rw [updA_same] at h
   exact (xo a h).imp (fun h => (ho a).2 ⟨45, h⟩) fun h => h
  ·rw [updA_ne _ _ e] at h
   exact .inl ((ho a).2 ⟨i, h⟩)
 have hsmL : SmN (leavesS { s2 with th := layT s.th cm }).last := by
  refine ⟨?_, by show s2.hands.length < 1000; rw [e2h, hhd]; decide, by show (0 : Nat) < 1000; decide, by show s2.watch.length < 1000; rw [e2x]; exact hwt⟩
  show (goneL { s2 with th := layT s.th cm }).length < 1000
  have := List.length_filter_le (goneB { s2 with th := layT s.th cm }) ((allT (layT s.th cm)).map (thOf (layT s.th cm)))
  rw [List.length_map, allT_len] at this
  unfold goneL
  refine Nat.lt_of_le_of_lt this ?_
  omega
 refine hcopy _ _ _ _ noD hsmL fun HE r hE noE oE => ?_
 rw [asG_]
 have nX1 : ¬ ∃ i, updA Q 45 X i g1 := fun h => (Xo g1 h).elim (fun h => ng1 (rgH.has _ h)) fun h => h hg1_5
 have hg1D := fD.has _ (h8C.has _ hg18)
 have g1D := (fD.get _ (h8C.has _ hg18) nX1).trans ((h8C.get _ hg18).trans g18)
 have g1E := (hE.get _ hg1D).trans g1D
 have nD1 : ¬ OD g1 := fun h => (oD g1 h).elim nX1 fun h => h (h8C.has _ hg18)
 refine stoN_we (ds := rwC r) g1E rfl (by simp) (by simp [rwC]) (rowK_w (get_put _ _ _) (ldG_we (ys := rwC r) (Nat.le_refl 6) (by decide) rfl ?_))
 have fF : Fr (fun a => a = g1) HE (HE.put g1 (.row (rwC r))) := (Fr.refl (fun a => a = g1) _).put (.inl rfl) _
 have h5C : ∀ a, H5.has a → HC.has a := fun a ha => h8C.has a (fy.has a ha)
 have h0C : ∀ a, H.has a → HC.has a := fun a ha => h5C a (f05.has a ha)
 have n9 : ∀ a, ¬ H9.has a → ¬ (∃ i, updA Q 45 X i a) ∧ a ≠ g1 ∧ ¬ H.has a := fun a h => ⟨fun h' => h (h9.has _ (rg8.has _ h')), fun e => h (e ▸ h9.has _ hg18), fun h' => h (h9.has _ (fy.has _ (f05.has _ h')))⟩
 refine hk _ r OD qF cF zF lF ⟨fun a ha => fF.has a (hE.has a (fD.has a (h0C a ha))), fun a ha hn => ?_⟩ ((rgD.le hE).fr fF fun a ha e => nD1 (e ▸ ha)) (fun a ha => ?_) (noE.fr fF fun a ha e => oE a ha (e ▸ hg1D)) (fun a ha => ⟨fun h => oE a ha (fD.has a (h0C a h)), fun h => oE a ha (rgD.has a h)⟩)
  (((srF.fr fD fun a ha => (n9 a (oqF a ha)).1).le hE).fr fF fun a ha => (n9 a (oqF a ha)).2.1) (fun x hx => (((hF x hx).fr fD fun a ha => (n9 a (oeF x hx a ha)).1).le hE).fr fF fun a ha => (n9 a (oeF x hx a ha)).2.1) eF
  (fun a ha => ⟨(n9 a (oqF a ha)).2.2, fun h => (oD a h).elim (n9 a (oqF a ha)).1 fun h => h (srF.has a ha)⟩) (fun x hx a ha => ⟨(n9 a (oeF x hx a ha)).2.2, fun h => (oD a h).elim (n9 a (oeF x hx a ha)).1 fun h => h ((hF x hx).has a ha)⟩)
 ·have n1 : a ≠ g1 := fun e => ng1 (e ▸ ha)
  have n2 : ¬ ∃ i, updA Q 45 X i a := fun h => (Xo a h).elim hn fun h => h (f05.has a ha)
  have n3 : ¬ Q 45 a := fun h => hn ((ho a).2 ⟨45, h⟩)
  have n4 : ¬ (Q 46 a ∨ Q 47 a) := fun h => h.elim (fun h => hn ((ho a).2 ⟨46, h⟩)) fun h => hn ((ho a).2 ⟨47, h⟩)
  exact (fF.get a (hE.has a (fD.has a (h0C a ha))) n1).trans ((hE.get a (fD.has a (h0C a ha))).trans ((fD.get a (h0C a ha) n2).trans ((h8C.get a (fy.has a (f05.has a ha))).trans ((fy.get a (f05.has a ha) n3).trans (f05.get a ha n4)))))
 ·rcases oD a ha with h | h
  ·exact (Xo a h).imp (fun h => h) fun h h' => h (f05.has a h')
  ·exact .inr fun h' => h (h0C a h')
end Go.Proofs
end
