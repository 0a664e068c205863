import Derived.Test.YtmdidmoffcinjaaGreatDB
import Derived.Test.YtmdidmoffcinjaaGreatBmaps
section
namespace Go.Proofs
open Go Go.Vw Go.Vw.Ev
set_option linter.unusedVariables false
set_option linter.unusedSimpArgs false
theorem empty_tidy (m : Rc) : REmpty (tidy m) = REmpty m := by
 unfold tidy
 by_cases h : REmpty m = true
 ·rw [if_pos h, h]; rfl
 ·rw [if_neg h]
theorem meet_of {r : Rc} {p : Pt} {x y : Int} {d : Nat} (h : InSq p x y d) (hr : RIn r p = true) : REmpty (RMeet (sqR x y d) r) = false := by
 unfold RMeet
 rw [empty_tidy]
 obtain ⟨h1, h2, h3, h4⟩ := h
 unfold RIn at hr
 simp only [Bool.and_eq_true, decide_eq_true_eq] at hr
 unfold REmpty sqR
 simp only [Bool.or_eq_false_iff, decide_eq_false_iff_not]
 omega
def inSel (L : List (Int × Pt)) (r : Rc) (l : List Int) : List Int := l.filter fun id => RIn r (posOf L id)
def CIn (h : Nat) (cl : Cl) : Prop := ∀ H tg m L a o cs q x y d r p n c z ks K, TC H tg m L → SqAt H a o cs q → IS H p n z ks → CapOk c n → ¬ ownP p a → ¬ ownP p tg → ¬ ownP p m → apart q.own (ownP p) → Good x y d → d ≤ 4 → Inv (posOf L) q x y d → q.low h →
 ks.length + q.all.length < 20000 →
 (∀ H' p' n' c' z', Fr (ownP p) H H' → IS H' p' n' z' (ks ++ inSel L r q.all) → CapOk c' n' → (∀ b, ownP p' b → ownP p b ∨ ¬ H.has b) → K (.s (.slice p' n' c' z')) H' = true) →
 cl i_quad_Tree_in [.s (.ptr (.at tg 0)), .s (.slice p n c z), .s (.ptr (.at a o)), .agg (rcC (sqR x y d)), .agg (rcC r)] H K = true
theorem B_quad_Tree_in_ {lf : Nat} {cl : Cl} {h : Nat} (hlf : 20000 ≤ lf) (hq : CQuarter cl) (hM : CRcRc i_geom_Meet RMeet cl) (hE : CRcB i_geom_Empty REmpty cl) (hI : CRcPtB i_geom_In RIn cl) (hin : ∀ g, g < h → CIn g cl)
  {H : AH} {tg m : Pn} {L : List (Int × Pt)} {a : Pn} {o : Nat} {cs : List AS} {q : QT} {x y : Int} {d : Nat} {r : Rc} {p : AP} {n z : Nat} {c : ACap} {ks : List Int} {K : AV → AH → Bool}
  (tc : TC H tg m L) (sq : SqAt H a o cs q) (his : IS H p n z ks) (hcap : CapOk c n) (pa : ¬ ownP p a) (pt : ¬ ownP p tg) (pm : ¬ ownP p m) (pq : apart q.own (ownP p)) (hg : Good x y d) (hd4 : d ≤ 4) (hinv : Inv (posOf L) q x y d) (hlow : q.low h)
  (hlen : ks.length + q.all.length < 20000)
  (hk : ∀ H' p' n' c' z', Fr (ownP p) H H' → IS H' p' n' z' (ks ++ inSel L r q.all) → CapOk c' n' → (∀ b, ownP p' b → ownP p b ∨ ¬ H.has b) → K (.s (.slice p' n' c' z')) H' = true) :
  B_quad_Tree_in lf cl (.at tg 0) p n c z (.at a o) (rcC (sqR x y d)) (rcC r) H K = true := by
 unfold B_quad_Tree_in
 refine newK_w (newK_w ?_)
 have hL0 : Le H ((H.new (.row (rcC (sqR x y d)))).new (.row (rcC r))) := (Le.new H _).newr _
 have g1e := get_new1 H (.row (rcC (sqR x y d))) (.row (rcC r))
 have g3e := get_new (H.new (.row (rcC (sqR x y d)))) (.row (rcC r))
 have g1h : ((H.new (.row (rcC (sqR x y d)))).new (.row (rcC r))).has H.nx := has_new (has_new_self _ _)
 have g3h : ((H.new (.row (rcC (sqR x y d)))).new (.row (rcC r))).has (H.new (.row (rcC (sqR x y d)))).nx := has_new_self _ _
 have n1 : ¬ H.has H.nx := not_has_nx H
 have n3 : ¬ H.has (H.new (.row (rcC (sqR x y d)))).nx := (Le.new H _).nx
 generalize (H.new (.row (rcC (sqR x y d)))).new (.row (rcC r)) = H2 at *
 generalize (H.new (.row (rcC (sqR x y d)))).nx = g3 at *
 generalize H.nx = g1 at *
 have sq2 := sq.le hL0
 have tc2 := tc.le hL0
 have is2 := his.fr (hL0.fr fun _ => False) fun _ _ => id
 have done : ∀ {H'}, Le H H' → inSel L r q.all = [] → K (.s (.slice p n c z)) H' = true := fun hl he => hk _ _ _ _ _ (hl.fr _) (by rw [he, List.append_nil]; exact his.fr (hl.fr fun _ => False) fun _ _ => id) hcap fun b hb => .inl hb
 simp only [nilK_at, fN_eq, Nat.add_eq, Nat.add_zero]
 refine rowK_w sq2.get (ldI_w sq2.c0 ?_)
 rw [fB_eq, iEq_beq]
 refine ifA_w (fun hx => ?_) (fun hx => ?_)
 ·refine done hL0 ?_
  have : q.all = [] := by simpa using hx
  rw [this]; rfl
 refine rowK_w g1e ?_
 rw [ldG_all (fr4 _) (by decide)]
 refine rowK_w g3e ?_
 rw [ldG_all (fr4 _) (by decide)]
 refine hM _ _ _ _ fun H3 hL3 => ?_
 rw [asG_]
 refine hE _ _ _ fun H4 hL4 => arB_w (ifA_w (fun hx => ?_) (fun _ => ?_))
 ·refine done ((hL0.trans hL3).trans hL4) (List.filter_eq_nil_iff.2 fun id hid hr => ?_)
  rw [meet_of (hinv.mem id hid) hr] at hx
  cases hx
 have hL24 := hL3.trans hL4
 have sq4 := sq2.le hL24
 have tc4 := tc2.le hL24
 have is4 := is2.fr (hL24.fr fun _ => False) fun _ _ => id
 have g1e4 := (hL24.get _ g1h).trans g1e
 have g3e4 := (hL24.get _ g3h).trans g3e
 have g1h4 := hL24.has _ g1h
 have g3h4 := hL24.has _ g3h
 have hL04 := hL0.trans hL24
 clear done hL0 g1e g3e g1h g3h sq2 tc2 is2 hL24 hL3 hL4
 refine rowK_w sq4.get ?_
 have p1 : ¬ ownP p g1 := fun h => n1 (his.own_has _ h)
 have p3 : ¬ ownP p g3 := fun h => n3 (his.own_has _ h)
 let St : AP → Nat → Nat → ACap → AH → List Int → Prop := fun p' n' z' c' H' l => Fr (ownP p) H4 H' ∧ IS H' p' n' z' (ks ++ l) ∧ CapOk c' n' ∧ ∀ b, ownP p' b → ownP p b ∨ ¬ H4.has b
 have keep : ∀ {p' n' z' c' H' l}, St p' n' z' c' H' l → (∀ b, H4.has b → ¬ ownP p b → ¬ ownP p' b) := fun h b hb hn ho => (h.2.2.2 b ho).elim hn fun h' => h' hb
 have fin : ∀ {p' n' z' c' H'}, St p' n' z' c' H' (inSel L r q.all) → K (.s (.slice p' n' c' z')) H' = true := fun h =>
  hk _ _ _ _ _ ((hL04.fr _).trans h.1 fun b hb => .inl hb) h.2.1 h.2.2.1 fun b hb => (h.2.2.2 b hb).imp (fun h => h) fun h h' => h (hL04.has _ h')
 have st0 : St p n z c H4 [] := ⟨Fr.refl _ _, by simpa using is4, hcap, fun b hb => .inl hb⟩
 have selLen : ∀ l : List Int, (inSel L r l).length ≤ l.length := fun l => List.length_filter_le _ _
 cases q with
 | leaf pl cl' zl ids =>
  have isl : IS H4 pl ids.length zl ids := sq4.ok.1
  refine ldSl_w sq4.c1 ?_
  refine loopX_w (fun s H5 => s.1 = .at tg 0 ∧ s.2.2.1 = .at a o ∧ s.2.2.2.1 = .at g1 0 ∧ s.2.2.2.2.1 = .at g3 0 ∧ s.2.2.2.2.2.1 = (pl, ids.length, cl', zl) ∧ s.2.2.2.2.2.2.1 = ((ids.length : Nat) : Int) ∧ ∃ i : Nat, s.2.2.2.2.2.2.2 = (i : Int) ∧ i ≤ ids.length ∧
    St s.2.1.1 s.2.1.2.1 s.2.1.2.2.2 s.2.1.2.2.1 H5 (inSel L r (ids.take i))) (fun s => ids.length - s.2.2.2.2.2.2.2.toNat) ⟨rfl, rfl, rfl, rfl, rfl, rfl, 0, rfl, by omega, by simpa [inSel] using st0⟩ (by simp only [QT.all] at hlen; simp; omega) ?_
  rintro self ⟨_, ⟨p', n', c', z'⟩, _, _, _, ⟨_, _, _, _⟩, _, _⟩ H5 ⟨e1, e2, e3, e4, e5, e6, i, e7, hi, st⟩ ih
  simp only [Prod.mk.injEq] at e1 e2 e3 e4 e5 e6 e7
  obtain ⟨e5a, e5b, e5c, e5d⟩ := e5
  subst e1 e2 e3 e4 e5a e5b e5c e5d e6 e7
  simp only at st
  have k5 := keep st
  have g3e5 := (st.1.get _ g3h4 p3).trans g3e4
  have tc5 := tc4.fr st.1 pt pm
  have hn' := st.2.1.1
  have hsl := selLen (ids.take i)
  simp only [QT.all] at hlen
  simp only [List.length_append, List.length_take] at hn' hsl
  simp only [pR_, fB_eq, iLt_dec, nilK_at, fN_eq, Nat.add_eq, Nat.add_zero]
  refine ifA_w (fun hx => ?_) (fun hx => ?_)
  ·have hxi : i < ids.length := by have := of_decide_eq_true hx; omega
   clear hx
   obtain ⟨g, cs', rfl, hgh, hgg, hcell⟩ := isl.at hxi
   have hgp : ¬ ownP p g := pq g ⟨0, rfl⟩
   simp only [nilK_at, fN_eq]
   refine idxK_w (by omega) (by omega) ?_
   simp only [Int.toNat_natCast, Nat.mul_eq, Nat.mul_one, Nat.zero_add]
   refine rowK_w ((st.1.get _ hgh hgp).trans hgg) (ldI_w hcell (rowK_w g3e5 ?_))
   rw [ldG_all (fr4 _) (by decide)]
   refine tcK_w tc5 (asMp_w (mapK_w tc5.map (pos_w fun _ => ?_))) rfl
   show asG (.agg (ptC _)) _ = true
   rw [asG_]
   refine hI _ _ _ _ fun H6 hL6 => arB_w ?_
   have st6 : St p' n' z' c' H6 (inSel L r (ids.take i)) := ⟨st.1.trans (hL6.fr fun _ => False) fun _ h => h.elim, st.2.1.fr (hL6.fr fun _ => False) fun _ _ => id, st.2.2.1, st.2.2.2⟩
   have step : inSel L r (ids.take (i + 1)) = inSel L r (ids.take i) ++ if RIn r (posOf L ids[i]) = true then [ids[i]] else [] := by
    unfold inSel
    rw [List.take_succ_eq_append_getElem hxi, List.filter_append]
    congr 1
    by_cases hb : RIn r (posOf L ids[i]) = true
    ·rw [if_pos hb]; simp [hb]
    ·rw [if_neg hb]; simp [hb]
   rw [iAdd_]
   refine ifA_w (fun hb => ?_) (fun hb => ?_)
   ·rw [if_pos hb] at step
    refine newK_w (elK_w (get_new _ _) (by simp) rfl ?_)
    have is6 : IS (H6.new (.row [.int .i64 ids[i]])) p' n' z' (ks ++ inSel L r (ids.take i)) := st6.2.1.fr ((Le.new _ _).fr fun _ => False) fun _ _ => id
    refine appH_w (m := 1) (js := [ids[i]]) is6 st6.2.2.1 rfl (by omega) fun p7 c7 z7 H7 f7 is7 hown7 hcap7 => ?_
    refine w64_w (by simp only [Int.ofNat_eq_natCast]; omega) (by simp only [Int.ofNat_eq_natCast]; omega) (ih _ _ ⟨rfl, rfl, rfl, rfl, rfl, rfl, i + 1, by simp, by omega, ?_⟩ (by simp; omega))
    refine ⟨(st6.1.new _).trans f7 fun b hb => st6.2.2.2 b hb, ?_, hcap7, fun b hb => ?_⟩
    ·show IS H7 p7 (n' + 1) z7 _
     rw [step, ← List.append_assoc]; exact is7
    ·rcases hown7 b hb with h | h
     ·exact st6.2.2.2 b h
     ·exact .inr fun h' => h (has_new (st6.1.has _ h'))
   ·rw [if_neg (by simp [hb])] at step
    refine w64_w (by simp only [Int.ofNat_eq_natCast]; omega) (by simp only [Int.ofNat_eq_natCast]; omega) (ih _ _ ⟨rfl, rfl, rfl, rfl, rfl, rfl, i + 1, by simp, by omega, ?_⟩ (by simp; omega))
    simp only
    rw [step, List.append_nil]; exact st6
  ·have hx : i = ids.length := by have := of_decide_eq_false hx; omega
   subst hx
   rw [List.take_length] at st
   obtain ⟨l0, rfl⟩ : ∃ l0, lf = l0 + 1 := ⟨lf - 1, by omega⟩
   rw [loopX_succ]
   simp only [pR_, nilK_at, fN_eq, Nat.add_eq]
   refine rowK_w ((st.1.get _ sq4.has pa).trans sq4.get) (ldP_w sq4.c2 ?_)
   exact ifA_w (fun hx => absurd hx (by simp [isNilP])) fun _ => fin st
 | node b k =>
  refine ldSl_w sq4.c1 ?_
  obtain ⟨l0, rfl⟩ : ∃ l0, lf = l0 + 1 := ⟨lf - 1, by omega⟩
  rw [loopX_succ]
  simp only [pR_, fB_eq, iLt_dec]
  refine ifA_w (fun hx => absurd hx (by decide)) (fun _ => ?_)
  obtain ⟨hd3, _, hkids⟩ := inv_node.1 hinv
  cases h with
  | zero => exact hlow.elim
  | succ h =>
  refine loopX_w (fun s H5 => s.1 = .at tg 0 ∧ s.2.2.1 = .at a o ∧ s.2.2.2.1 = .at g1 0 ∧ s.2.2.2.2.1 = .at g3 0 ∧ ∃ i : Nat, s.2.2.2.2.2 = (i : Int) ∧ i ≤ 4 ∧ St s.2.1.1 s.2.1.2.1 s.2.1.2.2.2 s.2.1.2.2.1 H5 (inSel L r (upto k i))) (fun s => 4 - s.2.2.2.2.2.toNat)
   ⟨rfl, rfl, rfl, rfl, 0, rfl, by omega, by simpa [inSel, upto] using st0⟩ (by simp; omega) ?_
  rintro self ⟨_, ⟨p', n', c', z'⟩, _, _, _, _⟩ H5 ⟨e1, e2, e3, e4, i, e5, hi, st⟩ ih
  simp only at e1 e2 e3 e4 e5 st
  subst e1 e2 e3 e4 e5
  have k5 := keep st
  have ga5 := (st.1.get _ sq4.has pa).trans sq4.get
  have ha5 := st.1.has _ sq4.has
  have g1e5 := (st.1.get _ g1h4 p1).trans g1e4
  have g3e5 := (st.1.get _ g3h4 p3).trans g3e4
  simp only [pR_, nilK_at, fN_eq, Nat.add_eq, Nat.add_zero]
  refine rowK_w ga5 (ldP_w sq4.c2 ?_)
  refine ifA_w (fun _ => ?_) (fun hx => absurd hx (by simp [isNilP]))
  refine ifA_w (fun hx => ?_) (fun hx => ?_)
  ·have hx : i < 4 := by have := of_decide_eq_true hx; simp only [Int.ofNat_eq_natCast] at this; omega
   refine getK_w ga5 (rowK_w ga5 (ldP_w sq4.c2 (nilK_w (idxK_w (by omega) (by omega) ?_))))
   simp only [Int.toNat_natCast, Nat.mul_eq, Nat.zero_add]
   refine rowK_w g1e5 ?_
   rw [ldG_all (fr4 _) (by decide)]
   refine getK_w g3e5 (rowK_w g3e5 ?_)
   rw [ldG_all (fr4 _) (by decide)]
   refine hq _ _ _ _ _ _ hg hd3 hx fun H6 hL6 => ?_
   refine okK_w (kSame_p ((hL6.get _ (st.1.has _ g3h4)).trans g3e5) rfl (kSame_p ((hL6.get _ ha5).trans ga5) sq4.pl (kSame_nil _))) ?_
   rw [asG_, Nat.mul_comm i 3]
   have f6 : Fr (ownP p) H4 H6 := st.1.trans (hL6.fr fun _ => False) fun _ h => h.elim
   have ok6 : (QT.node b k).ok H6 := sq4.ok.fr f6 pq
   have own_k : ∀ j, j < 4 → ∀ c, (k j).own c → (QT.node b k).own c := fun j hj c hc => own_node.2 (.inr ⟨j, hj, hc⟩)
   have own_b : (QT.node b k).own b := own_node.2 (.inl rfl)
   have own_h : ∀ c, (QT.node b k).own c → H4.has c := fun c hc => sq4.ok.has c hc
   have hul := upto_le b k (i + 1) (by omega)
   have hsl := selLen (upto k i)
   have hsum : (upto k (i + 1)).length = (upto k i).length + (k i).all.length := by simp [upto]
   refine hin h (by omega) H6 tg m L b (3 * i) (c4 k) (k i) (kx x d i) (ky y d i) (d + 1) r p' n' c' z' (ks ++ inSel L r (upto k i)) _ (tc4.fr f6 pt pm) (SqAt.kid ok6 sq4.sep hx) (st.2.1.fr (hL6.fr fun _ => False) fun _ _ => id) st.2.2.1
    (k5 b (own_h b own_b) (pq b own_b)) (k5 tg tc4.has pt) (k5 m tc4.hasm pm) (fun c hc => k5 c (own_h c (own_k i hx c hc)) (pq c (own_k i hx c hc))) (hg.kid (by omega) hx) (by omega) (hkids i hx) (hlow i hx) (by rw [List.length_append]; omega) fun H7 p7 n7 c7 z7 f7 is7 hcap7 hown7 => ?_
   rw [asSl_, iAdd_]
   refine w64_w (by simp only [Int.ofNat_eq_natCast]; omega) (by simp only [Int.ofNat_eq_natCast]; omega) (ih _ _ ⟨rfl, rfl, rfl, rfl, i + 1, by simp, by omega, ?_⟩ (by simp; omega))
   refine ⟨f6.trans f7 fun c hc => st.2.2.2 c hc, ?_, hcap7, fun c hc => ?_⟩
   ·simp only
    rw [show inSel L r (upto k (i + 1)) = inSel L r (upto k i) ++ inSel L r (k i).all by simp [inSel, upto], ← List.append_assoc]
    exact is7
   ·rcases hown7 c hc with h | h
    ·exact st.2.2.2 c h
    ·exact .inr fun h' => h (f6.has _ h')
  ·have hx : i = 4 := by have := of_decide_eq_false hx; simp only [Int.ofNat_eq_natCast] at this; omega
   subst hx
   rw [upto4 b k] at st
   exact fin st
end Go.Proofs
end
section
namespace Go.Proofs
open Go Go.Vw Go.Vw.Ev
set_option linter.unusedVariables false
set_option linter.unusedSimpArgs false
structure TQ (H : AH) (g m : Pn) (L : List (Int × Pt)) (ids : List Int) (q : QT) : Prop where
 has : H.has g
 get : H.get g = some (.row (.map (some m) :: q.cells))
 hasm : H.has m
 map : H.get m = some (.imap (aImg ptV L))
 mg : m ≠ g
 mq : ¬ q.own m
 gq : ¬ q.own g
 ok : q.ok H
 sep : q.sep
 inv : Inv (posOf L) q 0 0 0
 perm : q.all.Perm ids
 nod : ids.Nodup
 nodL : (aKeys L).Nodup
 kb : ∀ k ∈ aKeys L, 0 ≤ k ∧ k ≤ 9223372036854775807
 len : ids.length < 10000
def own3 (g m : Pn) (q : QT) : Pn → Prop := fun a => a = g ∨ a = m ∨ q.own a
def TRq (H : AH) (g : Pn) (L : List (Int × Pt)) (ids : List Int) (O : Pn → Prop) : Prop := ∃ m q, TQ H g m L ids q ∧ O = own3 g m q
def TR (H : AH) (g : Pn) (L : List (Int × Pt)) (O : Pn → Prop) : Prop := TRq H g L (aKeys L) O
theorem TQ.fr {F : Pn → Prop} {H H' : AH} {g m : Pn} {L : List (Int × Pt)} {ids : List Int} {q : QT} (h : TQ H g m L ids q) (k : Fr F H H') (hf : apart (own3 g m q) F) : TQ H' g m L ids q :=
 ⟨k.has _ h.has, (k.get _ h.has (hf g (.inl rfl))).trans h.get, k.has _ h.hasm, (k.get _ h.hasm (hf m (.inr (.inl rfl)))).trans h.map, h.mg, h.mq, h.gq, h.ok.fr k fun a ha => hf a (.inr (.inr ha)), h.sep, h.inv, h.perm, h.nod, h.nodL, h.kb, h.len⟩
theorem TRq.fr {F : Pn → Prop} {H H' : AH} {g : Pn} {L : List (Int × Pt)} {ids : List Int} {O : Pn → Prop} (h : TRq H g L ids O) (k : Fr F H H') (hf : apart O F) : TRq H' g L ids O := by
 obtain ⟨m, q, hq, rfl⟩ := h
 exact ⟨m, q, hq.fr k hf, rfl⟩
theorem TRq.le {H H' : AH} {g : Pn} {L : List (Int × Pt)} {ids : List Int} {O : Pn → Prop} (h : TRq H g L ids O) (k : Le H H') : TRq H' g L ids O := h.fr (k.fr fun _ => False) fun _ _ => id
theorem TRq.has {H : AH} {g : Pn} {L : List (Int × Pt)} {ids : List Int} {O : Pn → Prop} (h : TRq H g L ids O) (a : Pn) (ha : O a) : H.has a := by
 obtain ⟨m, q, hq, rfl⟩ := h
 rcases ha with rfl | rfl | ha
 ·exact hq.has
 ·exact hq.hasm
 ·exact hq.ok.has a ha
theorem TQ.sq {H : AH} {g m : Pn} {L : List (Int × Pt)} {ids : List Int} {q : QT} (h : TQ H g m L ids q) : SqAt H g 1 (.map (some m) :: q.cells) q :=
 ⟨h.has, h.get, rfl, rfl, rfl, h.ok, h.sep, h.gq, by rw [List.all_cons, cells_plain h.ok]; rfl⟩
theorem TQ.tc {H : AH} {g m : Pn} {L : List (Int × Pt)} {ids : List Int} {q : QT} (h : TQ H g m L ids q) : TC H g m L := ⟨h.has, ⟨_, h.get, rfl⟩, h.hasm, h.map⟩
theorem setSq1 (m : Pn) (q r : QT) : setSq (.map (some m) :: q.cells) 1 r = .map (some m) :: r.cells := rfl
theorem good0 : Good 0 0 0 := by simp [Good, sd]
theorem on_sq {p : Pt} : On p = true ↔ InSq p 0 0 0 := by
 unfold On InSq
 simp only [Bool.and_eq_true, decide_eq_true_eq]
 show _ ↔ 0 ≤ p.x ∧ p.x < 0 + 64 ∧ 0 ≤ p.y ∧ p.y < 0 + 64
 omega
theorem posOf_set_ne {L : List (Int × Pt)} {id j : Int} {p : Pt} (h : j ≠ id) : posOf (aSet L id p) j = posOf L j := by unfold posOf; rw [aGet_set_ne L p h]
theorem posOf_set {L : List (Int × Pt)} {id : Int} {p : Pt} : posOf (aSet L id p) id = p := by unfold posOf; rw [aGet_set_same]; rfl
theorem posOf_del_ne {L : List (Int × Pt)} {id j : Int} (h : j ≠ id) : posOf (aDel L id) j = posOf L j := by unfold posOf; rw [aGet_del_ne L h]
theorem keys_set_nodup {L : List (Int × Pt)} {id : Int} {p : Pt} (h : (aKeys L).Nodup) : (aKeys (aSet L id p)).Nodup := by
 by_cases hk : id ∈ aKeys L
 ·rw [aKeys_set_old L p hk]; exact h
 ·rw [aKeys_set_new L p hk]
  exact List.nodup_append.2 ⟨h, by simp, fun a ha b hb => by simp only [List.mem_singleton] at hb; subst hb; exact fun e => hk (e ▸ ha)⟩
theorem keys_set_mem {L : List (Int × Pt)} {id k : Int} {p : Pt} (h : k ∈ aKeys (aSet L id p)) : k = id ∨ k ∈ aKeys L := by
 by_cases hk : id ∈ aKeys L
 ·rw [aKeys_set_old L p hk] at h; exact .inr h
 ·rw [aKeys_set_new L p hk] at h
  rcases List.mem_append.1 h with h | h
  ·exact .inr h
  ·exact .inl (by simpa using h)
def CLay (cl : Cl) : Prop := ∀ H g L ids O id p K, TRq H g L ids O → id ∉ ids → On p = true → 0 ≤ id → id ≤ 9223372036854775807 → ids.length < 9999 →
 (∀ H' O', Fr O H H' → TRq H' g (aSet L id p) (id :: ids) O' → (∀ a, O' a → O a ∨ ¬ H.has a) → K (.tup []) H' = true) → cl i_quad_Tree_Lay [.s (.ptr (.at g 0)), .s (.int .i64 id), .agg (ptC p)] H K = true
theorem B_quad_Tree_Lay_ {lf : Nat} {cl : Cl} (hwh : CRc0 i_quad_whole ⟨0, 0, 64, 64⟩ cl) (hadd : CAdd 0 cl) {H : AH} {g : Pn} {L : List (Int × Pt)} {ids : List Int} {O : Pn → Prop} {id : Int} {p : Pt} {K : AV → AH → Bool}
  (tr : TRq H g L ids O) (hid : id ∉ ids) (hon : On p = true) (h0 : 0 ≤ id) (h1 : id ≤ 9223372036854775807) (hlen : ids.length < 9999)
  (hk : ∀ H' O', Fr O H H' → TRq H' g (aSet L id p) (id :: ids) O' → (∀ a, O' a → O a ∨ ¬ H.has a) → K (.tup []) H' = true) : B_quad_Tree_Lay lf cl (.at g 0) id (ptC p) H K = true := by
 obtain ⟨m, q, t, rfl⟩ := tr
 unfold B_quad_Tree_Lay
 refine newK_w ?_
 have hL := Le.new H (.row (ptC p))
 have t1 := t.fr (hL.fr fun _ => False) fun _ _ h => h
 have gp := get_new H (.row (ptC p))
 have nn := not_has_nx H
 generalize H.new (.row (ptC p)) = H1 at *
 simp only [nilK_at, fN_eq, Nat.add_eq, Nat.add_zero, Nat.zero_add]
 refine rowK_w t1.get (ldM_w rfl (rowK_w gp ?_))
 rw [ldG_all (fr2 p) (by decide)]
 refine asMp_w (mapK_w t1.map (fL_w (wrK_w ?_)))
 rw [show (AV.agg (ptC p)) = ptV p from rfl, setA_img]
 have f2 : Fr (fun a => a = m) H1 (H1.put m (.imap (aImg ptV (aSet L id p)))) := (Fr.refl (fun a => a = m) _).put (.inl rfl) _
 have gm2 := get_put H1 m (.imap (aImg ptV (aSet L id p)))
 generalize H1.put m (.imap (aImg ptV (aSet L id p))) = H2 at *
 refine hwh _ _ fun H3 hL3 => ?_
 rw [asG_]
 have f3 : Fr (fun a => a = m) H1 H3 := f2.trans (hL3.fr fun _ => False) fun _ h => h.elim
 have gg3 := (f3.get g t1.has (Ne.symm t1.mg)).trans t1.get
 have gm3 := (hL3.get m (f2.has m t1.hasm)).trans gm2
 have ok3 : q.ok H3 := t1.ok.fr f3 fun a ha h => t1.mq (h ▸ ha)
 have hall : ∀ j ∈ q.all, j ≠ id := fun j hj e => hid (e ▸ t.perm.mem_iff.1 hj)
 have inv3 : Inv (posOf (aSet L id p)) q 0 0 0 := t.inv.congr fun j hj => posOf_set_ne (hall j hj)
 have hql := t.perm.length_eq
 refine hadd H3 g m (aSet L id p) g 1 (.map (some m) :: q.cells) q 0 0 id _
  ⟨⟨f3.has _ t1.has, ⟨_, gg3, rfl⟩, f3.has _ t1.hasm, gm3⟩, ⟨f3.has _ t1.has, gg3, rfl, rfl, rfl, ok3, t1.sep, t1.gq, by rw [List.all_cons, cells_plain ok3]; rfl⟩, t1.mg, t1.mq, t1.gq, fun _ => by decide, good0, by decide, inv3, by rw [posOf_set]; exact on_sq.1 hon, by omega⟩ ?_
 intro H4 q4 f4 s4 i4 p4 g4
 show tup0 (AV.tup []) _ = true
 rw [tup0_]
 have hm4 : ¬ ((m = g ∨ q.own m) ∨ False) := fun h => h.elim (fun h => h.elim t1.mg t1.mq) fun h => h
 have hasm3 := f3.has _ t1.hasm
 refine hk H4 (own3 g m q4) ⟨fun a ha => f4.has a (f3.has a (hL.has a ha)), fun a ha hn => ?_⟩ ⟨m, q4, ⟨s4.has, ?_, f4.has _ hasm3, (f4.get m hasm3 hm4).trans gm3, t1.mg, fun h => ?_, s4.off, s4.ok, s4.sep, i4, ?_, ?_, keys_set_nodup t.nodL, fun k hk => ?_, by simp; omega⟩, rfl⟩ fun a ha => ?_
 ·refine (f4.get a (f3.has a (hL.has a ha)) fun h => hn ?_).trans ((f3.get a (hL.has a ha) fun h => hn (.inr (.inl h))).trans (hL.get a ha))
  rcases h with (h | h) | h
  ·exact .inl h
  ·exact .inr (.inr h)
  ·exact h.elim
 ·rw [s4.get, setSq1]
 ·exact (g4 m h).elim t1.mq fun h' => h' hasm3
 ·exact p4.trans (t.perm.cons id)
 ·exact List.nodup_cons.2 ⟨hid, t.nod⟩
 ·rcases keys_set_mem hk with rfl | h
  ·exact ⟨h0, h1⟩
  ·exact t.kb k h
 ·rcases ha with h | h | h
  ·exact .inl (.inl h)
  ·exact .inl (.inr (.inl h))
  ·rcases g4 a h with h | h
   ·exact .inl (.inr (.inr h))
   ·exact .inr fun h' => h (f3.has a (hL.has a h'))
def CNewQ (cl : Cl) : Prop := ∀ H K, (∀ H' g O, Le H H' → TR H' g [] O → (∀ a, O a → ¬ H.has a) → K (.s (.ptr (.at g 0))) H' = true) → cl i_quad_New [] H K = true
theorem B_quad_New_ {lf : Nat} {cl : Cl} {H : AH} {K : AV → AH → Bool} (hk : ∀ H' g O, Le H H' → TR H' g [] O → (∀ a, O a → ¬ H.has a) → K (.s (.ptr (.at g 0))) H' = true) : B_quad_New lf cl H K = true := by
 unfold B_quad_New
 have hne : H.nx ≠ (H.new (.imap [])).nx := has_ne (has_new_self _ _)
 have t : TQ ((H.new (.imap [])).new (.row [AS.map (some H.nx), AS.int .i64 (Int.ofNat 0), AS.slice AP.nil 0 (.lit 0) 1, AS.ptr AP.nil])) (H.new (.imap [])).nx H.nx [] [] (.leaf .nil (.lit 0) 1 []) :=
  {has := has_new_self _ _, get := get_new _ _, hasm := has_new (has_new_self _ _), map := get_new1 _ _ _, mg := hne, mq := zero4_own, gq := zero4_own, ok := ⟨IS.nil, Nat.le_refl 0⟩, sep := trivial, inv := ⟨.inl (by simp), fun _ h => by cases h⟩,
   perm := List.Perm.refl _, nod := List.nodup_nil, nodL := List.nodup_nil, kb := (fun _ h => by cases h), len := by simp }
 refine newK_w (newK_w (hk _ _ (own3 _ H.nx (.leaf .nil (.lit 0) 1 [])) ((Le.new H _).newr _) ⟨_, _, t, rfl⟩ ?_))
 rintro a (rfl | rfl | h)
 ·exact (Le.new H _).nx
 ·exact not_has_nx H
 ·exact absurd h zero4_own
end Go.Proofs
end
section
namespace Go.Proofs
open Go Go.Vw Go.Vw.Ev
set_option linter.unusedVariables false
set_option linter.unusedSimpArgs false
theorem lkP_w {L : List (Int × Pt)} {id : Int} {K : AV → Bool → Bool} (h : K (ptV (posOf L id)) (aGet L id).isSome = true) : lkZ (aImg ptV L) id (.agg [.int .i64 (Int.ofNat 0), .int .i64 (Int.ofNat 0)]) K = true := by
 refine lkZ_w (fun v hv => ?_) (fun hn => ?_)
 ·unfold posOf at h; rw [hv] at h; exact h
 ·unfold posOf at h; rw [hn] at h; exact h
theorem TRq.permute {H : AH} {g : Pn} {L : List (Int × Pt)} {ids ids' : List Int} {O : Pn → Prop} (h : TRq H g L ids O) (hp : ids.Perm ids') : TRq H g L ids' O := by
 obtain ⟨m, q, t, rfl⟩ := h
 exact ⟨m, q, { t with perm := t.perm.trans hp, nod := hp.nodup_iff.1 t.nod, len := by rw [← hp.length_eq]; exact t.len }, rfl⟩
theorem root_rem {cl : Cl} (hrem : CRem 0 cl) {H : AH} {g : Pn} {L : List (Int × Pt)} {ids : List Int} {O : Pn → Prop} {id : Int} {K : AV → AH → Bool} (tr : TRq H g L ids O) (hid : id ∈ ids)
  (hk : ∀ H' O' ids', Fr O H H' → TRq H' g L ids' O' → ids.Perm (id :: ids') → (∀ a, O' a → O a ∨ ¬ H.has a) → K (.tup []) H' = true) :
  cl i_quad_Tree_remove [.s (.ptr (.at g 0)), .s (.ptr (.at g 1)), .agg (rcC ⟨0, 0, 64, 64⟩), .s (.int .i64 id)] H K = true := by
 obtain ⟨m, q, t, rfl⟩ := tr
 have hql := t.perm.length_eq
 have hl := t.len
 refine hrem H g m L g 1 (.map (some m) :: q.cells) q 0 0 id K ⟨t.tc, t.sq, t.mg, t.mq, t.gq, fun _ => by decide, good0, by decide, t.inv, t.perm.mem_iff.2 hid, t.perm.nodup_iff.2 t.nod, by omega⟩ ?_
 intro H4 q4 f4 s4 i4 p4 g4
 have hm4 : ¬ (m = g ∨ q.own m) := fun h => h.elim t.mg t.mq
 have hp4 : ids.Perm (id :: q4.all) := t.perm.symm.trans p4
 refine hk H4 (own3 g m q4) q4.all (f4.mono fun a h => h.elim .inl fun h => .inr (.inr h)) ⟨m, q4, ⟨s4.has, (s4.get.trans (by rw [setSq1])), f4.has _ t.hasm, (f4.get m t.hasm hm4).trans t.map, t.mg, fun h => (g4 m h).elim t.mq fun h' => h' t.hasm, s4.off, s4.ok, s4.sep, i4, List.Perm.refl _, (List.nodup_cons.1 (hp4.nodup_iff.1 t.nod)).2, t.nodL, t.kb, (by have := perm_len hp4; omega)⟩, rfl⟩ hp4 fun a ha => ?_
 rcases ha with h | h | h
 ·exact .inl (.inl h)
 ·exact .inl (.inr (.inl h))
 ·exact (g4 a h).imp (fun h => .inr (.inr h)) fun h => h
def CDrop (cl : Cl) : Prop := ∀ H g L O id K, TR H g L O → (∀ H' O', Fr O H H' → TR H' g (aDel L id) O' → (∀ a, O' a → O a ∨ ¬ H.has a) → K (.s (.int .i64 (if (aGet L id).isSome = true then 0 else 15))) H' = true) →
 cl i_quad_Tree_Drop [.s (.ptr (.at g 0)), .s (.int .i64 id)] H K = true
theorem aDel_none : ∀ {L : List (Int × Pt)} {id : Int}, aGet L id = none → aDel L id = L
 | [], _, _ => rfl
 | x :: r, id, h => by
  unfold aGet at h
  split at h
  ·cases h
  ·rename_i hn
   unfold aDel
   rw [if_neg hn, aDel_none h]
theorem B_quad_Tree_Drop_ {lf : Nat} {cl : Cl} (hwh : CRc0 i_quad_whole ⟨0, 0, 64, 64⟩ cl) (hrem : CRem 0 cl) {H : AH} {g : Pn} {L : List (Int × Pt)} {O : Pn → Prop} {id : Int} {K : AV → AH → Bool} (tr : TR H g L O)
  (hk : ∀ H' O', Fr O H H' → TR H' g (aDel L id) O' → (∀ a, O' a → O a ∨ ¬ H.has a) → K (.s (.int .i64 (if (aGet L id).isSome = true then 0 else 15))) H' = true) : B_quad_Tree_Drop lf cl (.at g 0) id H K = true := by
 unfold B_quad_Tree_Drop
 have tr0 := tr
 obtain ⟨m, q, t, hO⟩ := tr0
 simp only [nilK_at, fN_eq, Nat.add_eq, Nat.add_zero, Nat.zero_add]
 refine rowK_w t.get (ldM_w rfl (asMp_w (mapK_w t.map (lkP_w ?_))))
 show asG (.agg (ptC _)) _ = true
 rw [asG_]
 refine newK_w (stoN_we (ds := ptC (posOf L id)) (get_new _ _) rfl (by simp) (by simp [ptC]) ?_)
 have hL2 : Le H ((H.new (.row [.int .i64 (Int.ofNat 0), .int .i64 (Int.ofNat 0)])).put H.nx (.row (ptC (posOf L id)))) := (Le.new _ _).put (not_has_nx _) _
 generalize (H.new (.row [.int .i64 (Int.ofNat 0), .int .i64 (Int.ofNat 0)])).put H.nx (.row (ptC (posOf L id))) = H2 at *
 rw [fB_eq]
 refine ifA_w (fun hx => ?_) (fun hx => ?_)
 ·have hn : aGet L id = none := by simpa using hx
  have := hk H2 O (hL2.fr _) (by rw [aDel_none hn]; exact tr.le hL2) fun a h => .inl h
  rw [hn] at this
  exact this
 have hs : (aGet L id).isSome = true := by simpa using hx
 have hid : id ∈ aKeys L := by
  obtain ⟨v, hv⟩ := Option.isSome_iff_exists.1 hs
  exact aGet_some_mem hv
 refine hwh _ _ fun H3 hL3 => ?_
 rw [asG_]
 have hL03 := hL2.trans hL3
 refine root_rem hrem (tr.le hL03) hid fun H4 O4 ids4 f4 t4 p4 o4 => ?_
 show tup0 (AV.tup []) _ = true
 rw [tup0_]
 obtain ⟨m4, q4, t4, rfl⟩ := t4
 refine rowK_w t4.get (ldM_w rfl (asMp_w (mapK_w t4.map (fL_w (wrK_w ?_)))))
 rw [delA_img]
 have f5 : Fr (fun a => a = m4) H4 (H4.put m4 (.imap (aImg ptV (aDel L id)))) := (Fr.refl (fun a => a = m4) _).put (.inl rfl) _
 have hnid : id ∉ ids4 := (List.nodup_cons.1 (p4.nodup_iff.1 t.nod)).1
 have hkeys : ids4.Perm (aKeys (aDel L id)) := by
  rw [aKeys_del]
  have h1 := filter_perm t.nod hid
  have e : (aKeys L).filter (fun x => !(x == id)) = (aKeys L).filter (fun j => decide (j ≠ id)) := by
   congr 1
   funext x
   by_cases h : x = id <;> simp [h]
  rw [e] at h1
  exact (List.perm_cons id).1 (p4.symm.trans h1)
 have ok5 : q4.ok (H4.put m4 (.imap (aImg ptV (aDel L id)))) := t4.ok.fr f5 fun a ha h => t4.mq (h ▸ ha)
 have hall : ∀ j ∈ q4.all, j ≠ id := fun j hj e => hnid (e ▸ t4.perm.mem_iff.1 hj)
 have := hk (H4.put m4 (.imap (aImg ptV (aDel L id)))) (own3 g m4 q4) ⟨fun a ha => f5.has a (f4.has a (hL03.has a ha)), fun a ha hn => ?_⟩
  ⟨m4, q4, ⟨f5.has _ t4.has, (f5.get _ t4.has (Ne.symm t4.mg)).trans t4.get, f5.has _ t4.hasm, get_put _ _ _, t4.mg, t4.mq, t4.gq, ok5, t4.sep, t4.inv.congr fun j hj => posOf_del_ne (hall j hj), t4.perm.trans hkeys, hkeys.nodup_iff.1 t4.nod, (by rw [aKeys_del]; exact t.nodL.filter _), fun k hk => t.kb k (by rw [aKeys_del] at hk; exact (List.mem_filter.1 hk).1), (by rw [← hkeys.length_eq]; exact t4.len)⟩, rfl⟩ fun a h => (o4 a h).imp (fun h => h) fun h h' => h (hL03.has a h')
 ·rw [hs] at this; exact this
 ·have hm : a = m4 → O a := fun e => by
   rcases o4 m4 (.inr (.inl rfl)) with h | h
   ·exact e ▸ h
   ·exact absurd (hL03.has a ha) (e ▸ h)
  exact (f5.get a (f4.has a (hL03.has a ha)) fun h => hn (hm h)).trans ((f4.get a (hL03.has a ha) hn).trans (hL03.get a ha))
end Go.Proofs
end
section
namespace Go.Proofs
open Go Go.Vw Go.Vw.Ev
set_option linter.unusedVariables false
set_option linter.unusedSimpArgs false
def CSortI (cl : Cl) : Prop := ∀ H p n z c ks K, IS H p n z ks → n ≤ 1000000 → (∀ H', Fr (ownP p) H H' → IS H' p n z (srtI ks) → K (.tup []) H' = true) → cl i_slices_Sort_int [.s (.slice p n c z)] H K = true
theorem srtI_len (l : List Int) : (srtI l).length = l.length := (srtI_perm l).length_eq
theorem sortB_ {cl : Cl} {H : AH} {p : AP} {n z : Nat} {c : ACap} {ks : List Int} {K : AV → AH → Bool} (his : IS H p n z ks) (hn : n ≤ 1000000) (hk : ∀ H', Fr (ownP p) H H' → IS H' p n z (srtI ks) → K (.tup []) H' = true) : sortB cl [.s (.slice p n c z)] H K = true := by
 have hnl := his.1
 rcases his.2 with ⟨rfl, rfl⟩ | ⟨g, cs, rfl, rfl, hh, hg, hl, ht⟩
 ·simp only [List.length_nil] at hnl
  subst hnl
  show okK (Nat.beq 0 0) _ = true
  exact okK_w rfl (hk _ (Fr.refl _ _) IS.nil)
 ·show okK (Nat.ble n 1000000) _ = true
  refine okK_w (Nat.ble_eq_true_of_le hn) ?_
  rw [rowW_row hg]
  refine ldN_w (ys := intsA ks) (by omega) (by rw [List.drop_zero, hnl]; exact ht) ?_
  rw [intsOf_intsA]
  dsimp only
  refine fL_w (fL_w (wrK_w ?_))
  rw [ap_eq, ap_eq, tk_eq, dr_eq, List.take_zero, List.nil_append]
  refine hk _ ((Fr.refl (ownP (.at g 0)) _).put (.inl ⟨0, rfl⟩) _) ⟨by rw [srtI_len]; exact hnl, .inr ⟨g, _, rfl, rfl, has_put hh, get_put _ _ _, by simp [intsA_length], ?_⟩⟩
  rw [List.take_append_of_le_length (by simp [intsA_length]), List.take_of_length_le (by simp [intsA_length])]
theorem srtI_congr {l l' : List Int} (h : l.Perm l') : srtI l = srtI l' := by
 refine List.Perm.eq_of_pairwise (le := fun a b => a ≤ b) (fun a b _ _ h1 h2 => Int.le_antisymm h1 h2) (srtI_sorted l) (srtI_sorted l') ((srtI_perm l).trans (h.trans (srtI_perm l').symm))
noncomputable def inL (L : List (Int × Pt)) (r : Rc) : List Int := srtI (inSel L r (aKeys L))
def CInT (cl : Cl) : Prop := ∀ H g L O r K, TR H g L O → (∀ H' p c z, Le H H' → IS H' p (inL L r).length z (inL L r) → CapOk c (inL L r).length → (∀ a, ownP p a → ¬ H.has a) → K (.s (.slice p (inL L r).length c z)) H' = true) →
 cl i_quad_Tree_In [.s (.ptr (.at g 0)), .agg (rcC r)] H K = true
theorem B_quad_Tree_In_ {lf : Nat} {cl : Cl} (hwh : CRc0 i_quad_whole ⟨0, 0, 64, 64⟩ cl) (hin : CIn 4 cl) (hsort : CSortI cl) {H : AH} {g : Pn} {L : List (Int × Pt)} {O : Pn → Prop} {r : Rc} {K : AV → AH → Bool} (tr : TR H g L O)
  (hk : ∀ H' p c z, Le H H' → IS H' p (inL L r).length z (inL L r) → CapOk c (inL L r).length → (∀ a, ownP p a → ¬ H.has a) → K (.s (.slice p (inL L r).length c z)) H' = true) : B_quad_Tree_In lf cl (.at g 0) (rcC r) H K = true := by
 unfold B_quad_Tree_In
 refine newK_w ?_
 have hL := Le.new H (.row (rcC r))
 have gr := get_new H (.row (rcC r))
 have hr := has_new_self H (.row (rcC r))
 have tr1 := tr.le hL
 generalize H.new (.row (rcC r)) = H1 at *
 generalize H.nx = gb at *
 simp only [nilK_at, fN_eq, Nat.add_eq, Nat.add_zero, Nat.zero_add]
 refine getK_w gr (rowK_w gr ?_)
 rw [ldG_all (fr4 r) (by decide)]
 refine hwh _ _ fun H2 hL2 => ?_
 refine okK_w (kSame_p ((hL2.get _ hr).trans gr) rfl (kSame_nil _)) ?_
 rw [asG_]
 obtain ⟨m, q, t, hO⟩ := tr1.le hL2
 have hlen := t.len
 have hql := t.perm.length_eq
 have np : ∀ a, ¬ ownP .nil a := fun a ⟨o, h⟩ => by cases h
 refine hin H2 g m L g 1 (.map (some m) :: q.cells) q 0 0 0 r .nil 0 (.lit 0) 1 [] _ t.tc t.sq IS.nil (Nat.le_refl 0) (np _) (np _) (np _) (fun a _ => np a) good0 (by decide) t.inv (t.inv.low 4 (by omega)) (by simp; omega) fun H3 p n c z f3 is3 cap3 own3 => ?_
 rw [asSl_]
 rw [List.nil_append] at is3
 have hsl : (inSel L r q.all).length ≤ q.all.length := List.length_filter_le _ _
 have hn3 := is3.1
 have hperm : (inSel L r q.all).Perm (inSel L r (aKeys L)) := t.perm.filter _
 refine hsort _ _ _ _ _ _ _ is3 (by omega) fun H4 f4 is4 => ?_
 rw [tup0_]
 rw [srtI_congr hperm] at is4
 have hn : n = (inL L r).length := by rw [hn3, hperm.length_eq]; exact (srtI_len _).symm
 subst hn
 have hfresh : ∀ a, ownP p a → ¬ H2.has a := fun a ha => (own3 a ha).elim (fun h => absurd h (np a)) fun h => h
 have hL02 := hL.trans hL2
 exact hk H4 p c z ⟨fun a ha => f4.has a (f3.has a (hL02.has a ha)), fun a ha => (f4.get a (f3.has a (hL02.has a ha)) fun h => hfresh a h (hL02.has a ha)).trans ((f3.get a (hL02.has a ha) (np a)).trans (hL02.get a ha))⟩ is4 cap3 fun a ha h => hfresh a ha (hL02.has a h)
end Go.Proofs
end
