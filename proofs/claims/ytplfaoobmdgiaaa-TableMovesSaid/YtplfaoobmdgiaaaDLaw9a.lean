/- TableMoves: a thing that is set elsewhere is there, and no longer where it was. -/
import Derived.Test.YtplfaoobmdgiaaaDT
import Derived.Test.YtplfaoobmdgiaaaDD
import Derived.Test.YtplfaoobmdgiaaaBR
namespace Go.Proofs
open Go Go.Vw Go.Vw.Ev
set_option linter.unusedVariables false
set_option linter.unusedSimpArgs false

theorem fBf_w {b x y : Bool} (h : b = false) (hk : y = true) : fB b (fun b' => ifA b' x y) = true := by subst h; exact hk
theorem fBt_w {b x y : Bool} (h : b = true) (hk : x = true) : fB b (fun b' => ifA b' x y) = true := by subst h; exact hk
def thx (id : Int) (p : Pt) : Th := ⟨id, p, fd0, fd0, fd0, fd0⟩
theorem isTh_thx {id : Int} {p : Pt} (h0 : 0 ≤ id) (h1 : id ≤ 1000000) : IsTh (thx id p) = On p := by
  unfold IsTh thx
  simp [h0, h1, IsF, fd0]
theorem inT_one (id : Int) (t : Th) (r : Rc) : (inT [(id, t)] r).length = if RIn r t.pt = true then 1 else 0 := by
  unfold inT
  rw [srtI_len]
  simp only [aKeys, List.map_cons, List.map_nil, List.filter_cons, List.filter_nil, thOf, aGet, if_true, Option.getD_some]
  split <;> rfl
theorem cellsP (a b : Pt) : cellsEqA (ptC a) (ptC b) = (decide (a.x = b.x) && decide (a.y = b.y)) := by
  simp only [ptC, cellsEqA, cellEqA, iEq_dec]
  cases decide (a.x = b.x) <;> cases decide (a.y = b.y) <;> rfl
theorem pt_ext {a b : Pt} : a = b ↔ a.x = b.x ∧ a.y = b.y := by cases a; cases b; simp
theorem B_law9_TableMoves_ {lf : Nat} {cl : Cl} (hlf : 1000 ≤ lf) (hkn : CTrue i_law9_known cl) (hnew : CTNew cl) (hput : CTPut cl) (hset : CTSet cl) (hin : CTIn cl) (hlen : CTLen cl)
    {H : AH} {p : AP} {n : Nat} {c : ACap} {ps : List Pt} {id : Int} (hid : 0 ≤ id ∧ id ≤ 255) (hI : InP H p n ps) : B_law9_TableMoves lf cl p n c 2 id H isT = true := by
  unfold B_law9_TableMoves
  rw [hkn]
  refine arB_w ?_
  rw [fB_eq]
  refine ifA_w (fun hx => absurd hx (by decide)) (fun _ => ?_)
  rw [fB_eq, iLt_dec]
  refine ifA_w (fun _ => rfl) (fun h30 => ?_)
  have h30 : n ≤ 30 := by have := of_decide_eq_false h30; simp only [Int.ofNat_eq_natCast, Int.cast_ofNat_Int] at this; omega
  refine hnew _ _ fun H1 g O hL1 tt1 hz1 => ?_
  rw [asP_]
  refine w64_w (by omega) (by omega) (tmp_w rfl rfl fun gx H2 hL2 hx2 nx2 gx2 => ?_)
  refine rowK_w gx2 (ldG_we (ys := thC (thx id ⟨0, 0⟩)) (Nat.le_refl 11) (by decide) rfl ?_)
  refine hput H2 g [] O (thx id ⟨0, 0⟩) _ (tt1.le hL2) fun H3 O3 f3 t3 o3 => arI_w ?_
  have e0 : tputE [] (thx id ⟨0, 0⟩) = 0 := by
    unfold tputE
    rw [isTh_thx hid.1 (by omega), if_neg (by simp [On, aGet]), if_neg (by simp)]
  have el : tputL [] (thx id ⟨0, 0⟩) = [(id, thx id ⟨0, 0⟩)] := by unfold tputL; rw [if_pos e0]; rfl
  rw [e0]
  rw [el] at t3
  refine fBf_w rfl ?_
  have nO : ¬ O gx := fun h => nx2 (tt1.has _ h)
  have nHx : ¬ H.has gx := fun h => nx2 (hL1.has _ h)
  refine loopX_w (fun x Hk => x.1 = (p, n, c, 2) ∧ x.2.1 = .at g 0 ∧ x.2.2.1 = .at gx 0 ∧ ∃ i : Nat, x.2.2.2 = (i : Int) ∧ i ≤ n ∧ ∃ (q : Pt) (O : Pn → Prop), On q = true ∧ Le H Hk ∧ TT Hk g [(id, thx id q)] O ∧ (∀ a, O a → ¬ H.has a) ∧ Hk.has gx ∧ Hk.get gx = some (.row (thC (thx id q))) ∧ ¬ O gx) (fun x => 60 - x.2.2.2.toNat)
    ⟨rfl, rfl, rfl, 0, rfl, by omega, ⟨0, 0⟩, O3, by decide, ⟨fun a ha => f3.has a (hL2.has a (hL1.has a ha)), fun a ha => (f3.get a (hL2.has a (hL1.has a ha)) fun h => hz1 a h ha).trans ((hL1.trans hL2).get a ha)⟩, t3, fun a ha => (o3 a ha).elim (hz1 a) fun h hh => h (hL2.has _ (hL1.has _ hh)),
      f3.has _ hx2, (f3.get _ hx2 nO).trans gx2, fun h => (o3 _ h).elim nO fun h => h hx2⟩ (by simp; omega) ?_
  clear t3 f3 o3 O3 tt1 hz1 nO gx2 hx2 hL2 nx2 O
  rintro self ⟨x1, x2, x3, x4⟩ H1 ⟨e1, e2, e3, i, e4, hi, w, O, hw, hL1, tt, hz, hx1, gx1, nO⟩ ih
  simp only at e1 e2 e3 e4
  subst e1 e2 e3 e4
  simp only [pR_, fB_eq, iLt_dec]
  refine ifA_w (fun hx => ?_) (fun hx => rfl)
  have hx : i < n := by have := of_decide_eq_true hx; simp only [Int.ofNat_eq_natCast] at this; omega
  obtain ⟨gp, rfl, hgp, gp0⟩ := hI.2 (by omega)
  have hlen' : (ptsC ps).length = n * 2 := by rw [ptsC_len, hI.1]
  have hat := ptsC_at ps i (by rw [hI.1]; omega)
  generalize ps[i]'(by rw [hI.1]; omega) = q at hat
  simp only [nilK_at, fN_eq, Nat.add_eq, Nat.mul_eq, Nat.zero_add, Nat.add_zero]
  refine rowK_w gx1 (ldG_we (by rw [thC_len]; decide) (by decide) (thC_1 _) (tmp_w rfl rfl fun gw H2 hL2 hw2 nw2 gw2 => ?_))
  refine idxK_w (by omega) (by omega) (rowK_wf (((hL1.trans hL2).get _ hgp).trans gp0) (ldG_we (ys := ptC q) (by rw [hlen', Int.toNat_natCast]; omega) (by decide) (by rw [Int.toNat_natCast]; exact hat) ?_))
  refine stoN_we (cs := thC (thx id w)) (ds := thC (thx id q)) ((hL2.get _ hx1).trans gx1) rfl (by rw [thC_len]; decide) rfl ?_
  have f3 : Fr (fun a => a = gx) H2 (H2.put gx (.row (thC (thx id q)))) := (Fr.refl (fun a => a = gx) _).put (.inl rfl) _
  have hL3 : Le H (H2.put gx (.row (thC (thx id q)))) := (hL1.trans hL2).put nHx _
  have gx3 := get_put H2 gx (.row (thC (thx id q)))
  have hx3 : (H2.put gx (.row (thC (thx id q)))).has gx := has_put (hL2.has _ hx1)
  have gwx : gw ≠ gx := fun e => nw2 (e ▸ hx1)
  have nOw : ¬ O gw := fun h => nw2 (tt.has _ h)
  have gw3 := (f3.get _ hw2 gwx).trans gw2
  have hw3 := f3.has _ hw2
  have t3 := (tt.le hL2).fr f3 fun a ha e => nO (e ▸ ha)
  generalize H2.put gx (.row (thC (thx id q))) = H3 at *
  refine rowK_w gx3 (ldG_we (by rw [thC_len]; decide) (by decide) (thC_all _) ?_)
  refine hset H3 g _ O (thx id q) _ t3 (by simp) fun H4 O4 f4 t4 o4 => arI_w ?_
  have hL4 : Le H H4 := ⟨fun a ha => f4.has a (hL3.has a ha), fun a ha => (f4.get a (hL3.has a ha) fun h => hz a h ha).trans (hL3.get a ha)⟩
  have hz4 : ∀ a, O4 a → ¬ H.has a := fun a h => (o4 a h).elim (hz a) fun h2 h3 => h2 (hL3.has a h3)
  have nO4 : ¬ O4 gx := fun h => (o4 _ h).elim nO fun h => h hx3
  have gx4 := (f4.get _ hx3 nO).trans gx3
  have gw4 := (f4.get _ hw3 nOw).trans gw3
  have hx4 := f4.has _ hx3
  have hw4 := f4.has _ hw3
  have hg : (aGet [(id, thx id w)] id).isSome = true := by simp [aGet]
  refine joinX_w (fun x Hx => x.1 = (.at gp 0, n, c, 2) ∧ x.2.1 = .at g 0 ∧ x.2.2.1 = .at gx 0 ∧ x.2.2.2.1 = (i : Int) ∧ x.2.2.2.2 = .at gw 0 ∧ ∃ (u : Pt) (O : Pn → Prop), On u = true ∧ Le H Hx ∧ TT Hx g [(id, thx id u)] O ∧ (∀ a, O a → ¬ H.has a) ∧ Hx.has gx ∧ Hx.get gx = some (.row (thC (thx id u))) ∧ ¬ O gx ∧ Hx.has gw ∧ Hx.get gw = some (.row (ptC w))) ?_ ?_
  · clear hL4 hz4 nO4 gx4 gw4 hx4 hw4 f4 t4 o4 gx3 hx3 gw3 hw3 t3 f3 hL3 nOw gw2 hw2 nO gx1 hx1 tt hz hL2 hL1
    rintro ⟨y1, y2, y3, y4, y5⟩ H5 ⟨e1, e2, e3, e4, e5, u, O, hu, hL5, t5, hz5, hx5, gx5, nO5, hw5, gw5⟩
    simp only at e1 e2 e3 e4 e5
    subst e1 e2 e3 e4 e5
    have bu : 0 ≤ u.x ∧ u.x < 64 ∧ 0 ≤ u.y ∧ u.y < 64 := by unfold On at hu; simpa only [Bool.and_eq_true, decide_eq_true_eq] using hu
    have bw : 0 ≤ w.x ∧ w.x < 64 ∧ 0 ≤ w.y ∧ w.y < 64 := by unfold On at hw; simpa only [Bool.and_eq_true, decide_eq_true_eq] using hw
    simp only [pR_, nilK_at, fN_eq, Nat.add_eq, Nat.zero_add, Nat.add_zero, iAdd_, Int.ofNat_eq_natCast, Int.cast_ofNat_Int]
    refine rowK_w gx5 (ldI_w (n := u.x) rfl (rowK_w gx5 (ldI_w (n := u.y) rfl (rowK_w gx5 (ldI_w (n := u.x) rfl (w64_w (by omega) (by omega) (rowK_w gx5 (ldI_w (n := u.y) rfl (w64_w (by omega) (by omega) ?_)))))))))
    refine tmp_w rfl rfl fun ga H6 hL6 ha6 na6 ga6 => ?_
    have gx6 := (hL6.get _ hx5).trans gx5
    have gw6 := (hL6.get _ hw5).trans gw5
    refine rowK_w gw6 (ldI_w (n := w.x) rfl (rowK_w gw6 (ldI_w (n := w.y) rfl (rowK_w gw6 (ldI_w (n := w.x) rfl (w64_w (by omega) (by omega) (rowK_w gw6 (ldI_w (n := w.y) rfl (w64_w (by omega) (by omega) ?_)))))))))
    refine tmp_w rfl rfl fun gb H7 hL7 hb7 nb7 gb7 => ?_
    have hL57 := hL6.trans hL7
    refine rowK_w ((hL7.get _ ha6).trans ga6) (ldG_we (ys := rcC ⟨u.x, u.y, u.x + 1, u.y + 1⟩) (by simp) (by decide) rfl ?_)
    refine hin H7 g _ O _ _ (t5.le hL57) (by simp) fun H8 p8 c8 z8 hL8 sl8 => ?_
    rw [asSl_, inT_one, if_pos (show RIn ⟨u.x, u.y, u.x + 1, u.y + 1⟩ (thx id u).pt = true from one_rect.2 rfl)]
    refine (show ifA false _ _ = true from ?_)
    rw [ifA_f]
    have hL58 := hL57.trans hL8
    have gx8 := (hL58.get _ hx5).trans gx5
    have gw8 := (hL58.get _ hw5).trans gw5
    have t8 := t5.le hL58
    refine rowK_w gx8 (ldG_we (by rw [thC_len]; decide) (by decide) (thC_1 _) (rowK_w gw8 (ldG_we (ys := ptC w) (by simp [ptC]) (by decide) rfl (okK_w rfl ?_))))
    rw [cellsP]
    refine ifA_w (fun hd => ?_) (fun hd => ?_)
    · refine rowK_w ((hL8.get _ hb7).trans gb7) (ldG_we (ys := rcC ⟨w.x, w.y, w.x + 1, w.y + 1⟩) (by simp) (by decide) rfl ?_)
      refine hin H8 g _ O _ _ t8 (by simp) fun H9 p9 c9 z9 hL9 sl9 => ?_
      have hne : ¬ RIn ⟨w.x, w.y, w.x + 1, w.y + 1⟩ (thx id u).pt = true := fun h => by
        have : u = w := one_rect.1 h
        subst this
        simp [thx] at hd
      rw [asSl_, inT_one, if_neg hne]
      refine (show ifA false _ _ = true from ?_)
      rw [ifA_f]
      refine hlen H9 g _ O _ (t8.le hL9) (arI_w ?_)
      refine (show ifA false _ _ = true from ?_)
      rw [ifA_f]
      have hL59 := hL58.trans hL9
      exact w64_w (by omega) (by omega) (ih _ _ ⟨rfl, rfl, rfl, i + 1, by simp, by omega, u, O, hu, hL5.trans hL59, t5.le hL59, hz5, hL59.has _ hx5, (hL59.get _ hx5).trans gx5, nO5⟩ (by simp; omega))
    · refine hlen H8 g _ O _ t8 (arI_w ?_)
      refine (show ifA false _ _ = true from ?_)
      rw [ifA_f]
      exact w64_w (by omega) (by omega) (ih _ _ ⟨rfl, rfl, rfl, i + 1, by simp, by omega, u, O, hu, hL5.trans hL58, t8, hz5, hL58.has _ hx5, gx8, nO5⟩ (by simp; omega))
  · intro J hJ
    cases hq : On q with
    | true =>
      have e : tsetE [(id, thx id w)] (thx id q) = 0 := by unfold tsetE; rw [isTh_thx hid.1 (by omega), hq, if_neg (by decide)]; exact if_pos hg
      have el : tsetL [(id, thx id w)] (thx id q) = [(id, thx id q)] := by unfold tsetL; rw [if_pos e]; simp [aSet, thx]
      rw [e]
      rw [el] at t4
      refine (show ifA false _ _ = true from ?_)
      rw [ifA_f]
      exact hJ _ _ ⟨rfl, rfl, rfl, rfl, rfl, q, O4, hq, hL4, t4, hz4, hx4, gx4, nO4, hw4, gw4⟩
    | false =>
      have e : tsetE [(id, thx id w)] (thx id q) = 11 := by unfold tsetE; rw [isTh_thx hid.1 (by omega), hq, if_pos rfl]
      have el : tsetL [(id, thx id w)] (thx id q) = [(id, thx id w)] := by unfold tsetL; rw [if_neg (by rw [e]; decide)]
      rw [e]
      rw [el] at t4
      refine (show ifA true _ _ = true from ?_)
      rw [ifA_t]
      refine (show ifA false _ _ = true from ?_)
      rw [ifA_f]
      refine rowK_w gw4 (ldG_we (ys := ptC w) (by simp [ptC]) (by decide) rfl ?_)
      refine stoN_we (cs := thC (thx id q)) (ds := thC (thx id w)) gx4 rfl (by rw [thC_len]; decide) rfl ?_
      have f5 : Fr (fun a => a = gx) H4 (H4.put gx (.row (thC (thx id w)))) := (Fr.refl (fun a => a = gx) _).put (.inl rfl) _
      exact hJ _ _ ⟨rfl, rfl, rfl, rfl, rfl, w, O4, hw, hL4.put nHx _, t4.fr f5 fun a ha e => nO4 (e ▸ ha), hz4, has_put hx4, get_put _ _ _, nO4, has_put hw4, (f5.get _ hw4 gwx).trans gw4⟩
end Go.Proofs
