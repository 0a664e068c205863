/- ActTwice: a thing that is dropped can't be moved, set, dropped; its number may be put again. -/
import Derived.Test.YtnncbfpkeikfaaaDX
import Derived.Test.YtnncbfpkeikfaaaBQ
namespace Go.Proofs
open Go Go.Vw Go.Vw.Ev
set_option linter.unusedVariables false
set_option linter.unusedSimpArgs false

def CTrueA (f : Nat) (cl : Cl) : Prop := ∀ H K, cl f [] H K = K (.s (.bool true)) H
theorem fr_le {O : Pn → Prop} {H0 H H' : AH} (h : Le H0 H) (f : Fr O H H') (hz : ∀ a, O a → ¬ H0.has a) : Le H0 H' :=
  ⟨fun a ha => f.has a (h.has a ha), fun a ha => (f.get a (h.has a ha) fun h' => hz a h' ha).trans (h.get a ha)⟩
theorem B_law11_ActTwice_ {lf : Nat} {cl : Cl} (hkn : CTrueA i_law11_known cl) (hnew : CTNew cl) (hdo : CDo cl) (hcheck : CCheck cl) {H : AH} {k : Int} {p q : Pt} (hk : 0 ≤ k ∧ k ≤ 255) : B_law11_ActTwice lf cl k (ptC p) (ptC q) H isT = true := by
  unfold B_law11_ActTwice
  refine new_w fun gp H1 h1 hp1 np gp1 => new_w fun gq H2 h2 hq2 nq gq2 => ?_
  rw [hkn]
  refine arB_w (fBf_w' rfl (w64_w (by omega) (by omega) ?_))
  refine hnew _ _ fun H3 g O h3 tt3 hz3 => ?_
  rw [asP_]
  have Kp : Keep H3 O gp (.row (ptC p)) := ⟨h3.has _ (h2.has _ hp1), (h3.get _ (h2.has _ hp1)).trans ((h2.get _ hp1).trans gp1), fun h => hz3 _ h (h2.has _ hp1)⟩
  have Kq : Keep H3 O gq (.row (ptC q)) := ⟨h3.has _ hq2, (h3.get _ hq2).trans gq2, fun h => hz3 _ h hq2⟩
  have k0 : 0 ≤ k := hk.1
  have k1 : k ≤ 1000000 := by omega
  refine rowK_w Kp.get (ldI_w (n := p.x) rfl (fI_w (fI_w (rowK_w Kp.get (ldI_w (n := p.y) rfl (fI_w (fI_w ?_)))))))
  have hon : On ⟨mxA (Int.ofNat 0) (mnA p.x (Int.ofNat 63)), mxA (Int.ofNat 0) (mnA p.y (Int.ofNat 63))⟩ = true := by
    rw [mxA_, mxA_, mnA_, mnA_]
    exact on_of (by simp only [Int.ofNat_eq_natCast]; omega) (by simp only [Int.ofNat_eq_natCast]; omega) (by simp only [Int.ofNat_eq_natCast]; omega) (by simp only [Int.ofNat_eq_natCast]; omega)
  generalize mxA (Int.ofNat 0) (mnA p.x (Int.ofNat 63)) = ux at *
  generalize mxA (Int.ofNat 0) (mnA p.y (Int.ofNat 63)) = uy at *
  refine tmp_w rfl rfl fun gu H4 h4 hu4 nu gu4 => ?_
  have Ku : Keep H4 O gu (.row (ptC ⟨ux, uy⟩)) := ⟨hu4, gu4, fun h => nu (tt3.has _ h)⟩
  refine rowK_w Ku.get (ldG_we (ys := ptC ⟨ux, uy⟩) (lb rfl) (lb rfl) rfl (okK_w rfl (fL_w ?_)))
  refine tmp_w rfl rfl fun gc H5 h5 hc5 nc gc5 => ?_
  have tt5 := tt3.le (h4.trans h5)
  have Kc : Keep H5 O gc (.row (cmC (putC ⟨ux, uy⟩))) := ⟨hc5, gc5, fun h => nc ((tt3.le h4).has _ h)⟩
  have Ku := Ku.le h5
  have Kq := Kq.le (h4.trans h5)
  refine rowK_w Kc.get (ldG_we (ys := cmC (putC ⟨ux, uy⟩)) (lb rfl) (lb rfl) rfl ?_)
  -- put
  refine hdo H5 g [] O (putC ⟨ux, uy⟩) k _ tt5 (by simp) fun H6 O6 f6 t6 o6 => ?_
  obtain ⟨e6, l6⟩ := do_put (L := []) hon (by simp) (full_small _ (by simp)) k0 k1 rfl
  rw [l6] at t6
  rw [tup2_, e6]
  refine arI_w (arI_w ?_)
  have Kc := Kc.step f6 o6
  have Ku := Ku.step f6 o6
  have Kq := Kq.step f6 o6
  have t6 : TT H6 g [(k, putT (putC ⟨ux, uy⟩) k)] O6 := t6
  generalize hT : putT (putC ⟨ux, uy⟩) k = T at *
  have hg : (aGet [(k, T)] k).isSome = true := by simp [aGet]
  -- put again
  refine rowK_w Kc.get (ldG_we (ys := cmC (putC ⟨ux, uy⟩)) (lb rfl) (lb rfl) rfl ?_)
  refine hdo H6 g _ O6 (putC ⟨ux, uy⟩) k _ t6 (by simp) fun H7 O7 f7 t7 o7 => ?_
  obtain ⟨e7, l7⟩ := do_put_again (L := [(k, T)]) (id := k) hon (by simp) (full_small _ (by simp)) hg
  rw [l7] at t7
  rw [tup2_, e7]
  refine arI_w (arI_w ?_)
  have Kc := Kc.step f7 o7
  have Ku := Ku.step f7 o7
  have Kq := Kq.step f7 o7
  -- drop
  refine hdo H7 g _ O7 (dropC k) 0 _ t7 (by simp) fun H8 O8 f8 t8 o8 => ?_
  obtain ⟨e8, _, l8⟩ := do_ok (L := [(k, T)]) (c := dropC k) (id := 0) (by rw [check_drop k0 k1, if_pos hg]) rfl
  rw [l8, show doneL [(k, T)] (dropC k) 0 = [] by show aDel [(k, T)] k = []; simp [aDel]] at t8
  rw [tup2_, e8]
  refine arI_w (arI_w ?_)
  have Kc := Kc.step f8 o8
  have Ku := Ku.step f8 o8
  have Kq := Kq.step f8 o8
  have hn : (aGet ([] : List (Int × Th)) k).isSome = false := rfl
  -- drop again
  refine hdo H8 g _ O8 (dropC k) 0 _ t8 (by simp) fun H9 O9 f9 t9 o9 => ?_
  have c9 : checkE [] (dropC k) = 15 := by rw [check_drop k0 k1, hn]; rfl
  obtain ⟨e9, _, l9⟩ := do_no (L := []) (c := dropC k) (id := 0) (by rw [c9]; decide)
  rw [l9] at t9
  rw [tup2_, e9, c9]
  refine arI_w (arI_w ?_)
  have Kc := Kc.step f9 o9
  have Ku := Ku.step f9 o9
  have Kq := Kq.step f9 o9
  -- move
  refine rowK_w Ku.get (ldG_we (ys := ptC ⟨ux, uy⟩) (lb rfl) (lb rfl) rfl (okK_w rfl (fL_w ?_)))
  refine hdo H9 g _ O9 (moveC k ⟨ux, uy⟩) 0 _ t9 (by simp) fun H10 O10 f10 t10 o10 => ?_
  have c10 : checkE [] (moveC k ⟨ux, uy⟩) = 15 := by rw [check_move k0 k1 (on_near hon), hn]; rfl
  obtain ⟨e10, _, l10⟩ := do_no (L := []) (c := moveC k ⟨ux, uy⟩) (id := 0) (by rw [c10]; decide)
  rw [l10] at t10
  rw [tup2_, e10, c10]
  refine arI_w (arI_w ?_)
  have Kc := Kc.step f10 o10
  have Kq := Kq.step f10 o10
  -- set
  refine hdo H10 g _ O10 (setC k 0 fdZ) 0 _ t10 (by simp) fun H11 O11 f11 t11 o11 => ?_
  have c11 : checkE [] (setC k 0 fdZ) = 15 := by rw [check_set k0 k1 (by decide) (by decide) isF_Z, hn]; rfl
  obtain ⟨e11, _, l11⟩ := do_no (L := []) (c := setC k 0 fdZ) (id := 0) (by rw [c11]; decide)
  rw [l11] at t11
  rw [tup2_, e11, c11]
  refine arI_w (arI_w ?_)
  have Kc := Kc.step f11 o11
  have Kq := Kq.step f11 o11
  -- put once more
  refine rowK_w Kc.get (ldG_we (ys := cmC (putC ⟨ux, uy⟩)) (lb rfl) (lb rfl) rfl ?_)
  refine hdo H11 g [] O11 (putC ⟨ux, uy⟩) k _ t11 (by simp) fun H12 O12 f12 t12 o12 => ?_
  rw [l6] at t12
  rw [tup2_, e6]
  refine arI_w (arI_w ?_)
  have Kq := Kq.step f12 o12
  have t12 : TT H12 g [(k, T)] O12 := t12
  -- may it be moved
  refine rowK_w Kq.get (ldG_we (ys := ptC q) (lb rfl) (lb rfl) rfl (okK_w rfl (fL_w ?_)))
  refine tmp_w rfl rfl fun gm H13 h13 hm13 nm gm13 => ?_
  refine rowK_w gm13 (ldG_we (ys := cmC (moveC k q)) (lb rfl) (lb rfl) rfl ?_)
  refine hcheck H13 g _ O12 (moveC k q) _ (t12.le h13) (by simp) fun H14 h14 => arI_w ?_
  have hgq := (Kq.le (h13.trans h14)).get
  have e14 : checkE [(k, T)] (moveC k q) = if (nearB q.x && nearB q.y) = false then 11 else if On q = false then 14 else 0 := by
    cases hw : nearB q.x && nearB q.y with
    | false => rw [check_is (by rw [isCm_move k q k0 k1, hw])]; rfl
    | true =>
      rw [check_move k0 k1 hw, hg, full_small _ (by simp)]
      simp
  rw [e14]
  generalize hE : (if (nearB q.x && nearB q.y) = false then (11 : Int) else if On q = false then 14 else 0) = E
  refine joinX_w (fun x Hx => Hx = H14 ∧ x = (.at gq 0, 0, 11, 0, 15, 15, 15, 0, E, On q)) ?_ ?_
  · rintro x Hx ⟨rfl, rfl⟩
    simp only [pR_]
    refine joinX_w (fun x H' => H' = Hx ∧ x = (0, 11, 0, 15, 15, 15, 0, E, On q, !(nearB q.x && nearB q.y))) ?_ ?_
    · rintro x Hx' ⟨rfl, rfl⟩
      simp only [pR_]
      refine joinX_w (fun x H' => H' = Hx' ∧ x = (0, 11, 0, 15, 15, 15, 0, E, E)) ?_ ?_
      · rintro x Hy ⟨rfl, rfl⟩
        simp only [pR_]
        refine fBt_w' rfl (fBt_w' rfl (fBt_w' rfl (fBt_w' rfl (fBt_w' rfl (fBt_w' rfl (fBt_w' rfl ?_))))))
        rw [fB_eq, iEq_dec, decide_eq_true rfl]
        rfl
      · intro J hJ
        refine ifA_w (fun hw => ?_) (fun hw => ?_)
        · have hw : (nearB q.x && nearB q.y) = false := by cases h : nearB q.x && nearB q.y <;> rw [h] at hw <;> first | rfl | cases hw
          rw [if_pos hw] at hE
          subst hE
          exact hJ _ _ ⟨rfl, rfl⟩
        · have hw : ¬ (nearB q.x && nearB q.y) = false := fun h => by rw [h] at hw; cases hw
          rw [if_neg hw] at hE
          rw [fB_eq]
          refine ifA_w (fun ho => ?_) (fun ho => ?_)
          · rw [if_pos (by simpa using ho)] at hE
            subst hE
            exact hJ _ _ ⟨rfl, rfl⟩
          · rw [if_neg (by simpa using ho)] at hE
            subst hE
            exact hJ _ _ ⟨rfl, rfl⟩
    · intro J hJ
      have wide : ∀ {b : Bool}, b = (!(nearB q.x && nearB q.y)) → J (0, 11, 0, 15, 15, 15, 0, E, On q, b) Hx = true := fun h => hJ _ _ ⟨rfl, by rw [h]⟩
      have nn : ∀ n : Int, nearB n = (!(decide (n < -1000)) && !(decide (1000 < n))) := fun n => by unfold nearB; rw [show decide (-1000 ≤ n) = !decide (n < -1000) by by_cases h : n < -1000 <;> simp [h] <;> omega, show decide (n ≤ 1000) = !decide (1000 < n) by by_cases h : 1000 < n <;> simp [h] <;> omega]
      simp only [nilK_at, fN_eq, Nat.add_eq, Nat.zero_add, Nat.add_zero, fB_eq, iLt_dec]
      refine rowK_w hgq (ldI_w (n := q.x) rfl (ifA_w (fun h1 => wide (by rw [nn q.x, show decide (q.x < -1000) = true from h1]; rfl)) (fun h1 => ?_)))
      refine rowK_w hgq (ldI_w (n := q.x) rfl (ifA_w (fun h2 => wide (by rw [nn q.x, show decide (1000 < q.x) = true from h2]; simp)) (fun h2 => ?_)))
      refine rowK_w hgq (ldI_w (n := q.y) rfl (ifA_w (fun h3 => wide (by rw [nn q.y, show decide (q.y < -1000) = true from h3]; simp)) (fun h3 => ?_)))
      refine rowK_w hgq (ldI_w (n := q.y) rfl (wide ?_))
      rw [nn q.x, nn q.y, show decide (q.x < -1000) = false from h1, show decide (1000 < q.x) = false from h2, show decide (q.y < -1000) = false from h3]
      show decide (1000 < q.y) = _
      simp
  · intro J hJ
    have on : ∀ {b : Bool}, b = On q → J (.at gq 0, 0, 11, 0, 15, 15, 15, 0, E, b) H14 = true := fun h => hJ _ _ ⟨rfl, by rw [h]⟩
    simp only [fB_eq, iLt_dec, iLe_dec]
    refine rowK_w hgq (ldI_w (n := q.x) rfl (ifA_w (fun h1 => ?_) (fun h1 => on (by unfold On; rw [show decide (0 ≤ q.x) = false from h1]; rfl))))
    refine rowK_w hgq (ldI_w (n := q.x) rfl (ifA_w (fun h2 => ?_) (fun h2 => on (by unfold On; rw [show decide (q.x < 64) = false from h2]; simp))))
    refine rowK_w hgq (ldI_w (n := q.y) rfl (ifA_w (fun h3 => ?_) (fun h3 => on (by unfold On; rw [show decide (0 ≤ q.y) = false from h3]; simp))))
    refine rowK_w hgq (ldI_w (n := q.y) rfl (on ?_))
    unfold On
    rw [show decide (0 ≤ q.x) = true from h1, show decide (q.x < 64) = true from h2, show decide (0 ≤ q.y) = true from h3]
    rfl
end Go.Proofs
