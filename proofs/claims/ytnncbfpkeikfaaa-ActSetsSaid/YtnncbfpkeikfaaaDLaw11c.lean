/- ActSets: each field is set alone; others stay. -/
import Derived.Test.YtnncbfpkeikfaaaDLaw11a
import Derived.Test.YtnncbfpkeikfaaaDIns
namespace Go.Proofs
open Go Go.Vw Go.Vw.Ev
set_option linter.unusedVariables false
set_option linter.unusedSimpArgs false

theorem B_law11_ActSets_ {lf : Nat} {cl : Cl} (hlf : 1000 ≤ lf) (hkn : CTrueA i_law11_known cl) (hnew : CTNew cl) (hdo : CDo cl) (hget : CTGet cl) {H : AH} {p q : AP} {n m : Nat} {c d : ACap} {xs ws : List Int} (hI : InI H p n .i16 xs) (hJ : InI H q m .u8 ws)
    (hxs : ∀ x ∈ xs, -32768 ≤ x ∧ x ≤ 32767) (hws : ∀ x ∈ ws, 0 ≤ x ∧ x ≤ 255) : B_law11_ActSets lf cl p n c 1 q m d 1 H isT = true := by
  unfold B_law11_ActSets
  rw [hkn]
  refine arB_w (fBf_w' rfl ?_)
  rw [fB_eq, iLt_dec]
  refine ifA_w (fun _ => rfl) (fun h20 => ?_)
  have h20 : n ≤ 20 := by have := of_decide_eq_false h20; simp only [Int.ofNat_eq_natCast, Int.cast_ofNat_Int] at this; omega
  refine hnew _ _ fun H1 g O h1 t1 z1 => ?_
  rw [asP_]
  have on0 : On ⟨0, 0⟩ = true := by decide
  refine hdo H1 g [] O (putC ⟨0, 0⟩) 5 _ t1 (by simp) fun H2 O2 f2 t2 o2 => ?_
  obtain ⟨_, l2⟩ := do_put (L := []) (id := 5) on0 (by simp) (full_small _ (by simp)) (by decide) (by decide) rfl
  rw [l2] at t2
  replace t2 : TT H2 g [(5, tN 5 ⟨0, 0⟩ fun _ => 0)] O2 := t2
  rw [tup2_]
  refine arI_w (arI_w (new_w fun gw H3 h3 hw3 nw3 gw3 => ?_))
  have hL2 : Le H H2 := fr_le h1 f2 z1
  have z2 : ∀ a, O2 a → ¬ H.has a := fun a h => (o2 a h).elim (z1 a) fun h hh => h (h1.has _ hh)
  have nHw : ¬ H.has gw := fun h => nw3 (hL2.has _ h)
  have K3 : Keep H3 O2 gw (.row (wC fun _ => 0)) := ⟨hw3, gw3, fun h => nw3 (t2.has _ h)⟩
  refine loopX_w (fun x Hx => x.1 = (p, n, c, 1) ∧ x.2.1 = (q, m, d, 1) ∧ x.2.2.1 = .at g 0 ∧ x.2.2.2.1 = .at gw 0 ∧ ∃ i : Nat, x.2.2.2.2 = (i : Int) ∧ i ≤ n ∧ Le H Hx ∧ ∃ ns O, TT Hx g [(5, tN 5 ⟨0, 0⟩ ns)] O ∧ (∀ a, O a → ¬ H.has a) ∧ Keep Hx O gw (.row (wC ns))) (fun x => 30 - x.2.2.2.2.toNat)
    ⟨rfl, rfl, rfl, rfl, 0, rfl, by omega, hL2.trans h3, _, O2, t2.le h3, z2, K3⟩ (by simp; omega) ?_
  clear K3 t2 z2 hL2 gw3 nw3 hw3 h3 H3 l2 o2 f2 O2 H2 z1 t1 h1 O H1
  rintro self ⟨x1, x2, x3, x4, x5⟩ H1 ⟨e1, e2, e3, e4, i, e5, hi, hL1, ns, O, tt, hz, Kw⟩ ih
  simp only at e1 e2 e3 e4 e5
  subst e1 e2 e3 e4 e5
  simp only [pR_, fB_eq, iLt_dec]
  refine ifA_w (fun hx => ?_) (fun hx => ?_)
  · have hx : i < n := by have := of_decide_eq_true hx; simp only [Int.ofNat_eq_natCast] at this; omega
    have hil : i < xs.length := by rw [hI.1]; exact hx
    refine fI_w ?_
    rw [show Int.tmod (i : Int) (Int.ofNat 4) = (i : Int) % 4 from Int.tmod_eq_emod_of_nonneg (by omega)]
    refine joinX_w (fun x Hx => Hx = H1 ∧ ∃ k : Int, x = ((p, n, c, 1), (q, m, d, 1), .at g 0, .at gw 0, (i : Int), k) ∧ -1 ≤ k ∧ k ≤ 4) ?_ ?_
    · rintro x Hx ⟨rfl, k, rfl, k0, k1⟩
      simp only [pR_, iLe_dec]
      refine (hI.le hL1).read hx ?_
      have hb := hxs _ (List.getElem_mem hil)
      generalize hv : xs[i] = v at hb
      refine w64_w (by omega) (by omega) (fL_w ?_)
      refine hdo Hx g _ O (setC 5 k ⟨v, []⟩) 0 _ tt (by simp) fun H2 O2 f2 t2 o2 => ?_
      have hL2 : Le H H2 := fr_le hL1 f2 hz
      have z2 : ∀ a, O2 a → ¬ H.has a := fun a h => (o2 a h).elim (hz a) fun h hh => h (hL1.has _ hh)
      have Kw2 := Kw.step f2 o2
      rw [tup2_]
      have ck : checkE [(5, tN 5 ⟨0, 0⟩ ns)] (setC 5 k ⟨v, []⟩) = if k < 0 ∨ 4 ≤ k then 18 else 0 := by
        rw [check_set (by decide) (by decide) k0 (by omega) (isF_N v), aGet_1]; rfl
      by_cases hk : k < 0 ∨ 4 ≤ k
      · rw [if_pos hk] at ck
        obtain ⟨d1, _, d2⟩ := do_no (L := [(5, tN 5 ⟨0, 0⟩ ns)]) (c := setC 5 k ⟨v, []⟩) (id := 0) (by rw [ck]; decide)
        rw [d2] at t2
        rw [d1, ck]
        refine arI_w (arI_w ?_)
        refine joinX_w (fun x H' => H' = H2 ∧ x = ((p, n, c, 1), (q, m, d, 1), .at g 0, .at gw 0, (i : Int), k, 18)) ?_ ?_
        · rintro x H' ⟨rfl, rfl⟩
          simp only [pR_]
          refine (show ifA false _ _ = true from ?_)
          rw [ifA_f]
          exact w64_w (by simp only [iAdd_, Int.ofNat_eq_natCast]; omega) (by simp only [iAdd_, Int.ofNat_eq_natCast]; omega) (ih _ _ ⟨rfl, rfl, rfl, rfl, i + 1, by simp [iAdd_], by omega, hL2, ns, O2, t2, z2, Kw2⟩ (by simp [iAdd_]; omega))
        · intro J hJ'
          refine ifA_w (fun h1 => ?_) (fun h1 => ?_)
          · have h1 : 0 ≤ k := of_decide_eq_true h1
            rw [decide_eq_false (show ¬ k < Int.ofNat 4 by simp only [Int.ofNat_eq_natCast]; omega)]
            refine (show ifA false _ _ = true from ?_)
            rw [ifA_f]
            refine (show ifA true _ _ = true from ?_)
            rw [ifA_t]
            refine (show ifA false _ _ = true from ?_)
            rw [ifA_f]
            exact hJ' _ _ ⟨rfl, rfl⟩
          · refine (show ifA false _ _ = true from ?_)
            rw [ifA_f]
            refine (show ifA true _ _ = true from ?_)
            rw [ifA_t]
            refine (show ifA false _ _ = true from ?_)
            rw [ifA_f]
            exact hJ' _ _ ⟨rfl, rfl⟩
      · rw [if_neg hk] at ck
        have hk0 : 0 ≤ k := by omega
        obtain ⟨kn, rfl⟩ := Int.eq_ofNat_of_zero_le hk0
        have hk4 : kn < 4 := by omega
        obtain ⟨d1, _, d2⟩ := do_ok (L := [(5, tN 5 ⟨0, 0⟩ ns)]) (c := setC 5 (kn : Nat) ⟨v, []⟩) (id := 0) ck rfl
        have d3 : doneL [(5, tN 5 ⟨0, 0⟩ ns)] (setC 5 (kn : Nat) ⟨v, []⟩) 0 = [(5, tN 5 ⟨0, 0⟩ (updN ns kn v))] := by
          show aSet [(5, tN 5 ⟨0, 0⟩ ns)] 5 (setF (thOf [(5, tN 5 ⟨0, 0⟩ ns)] 5) (kn : Nat) ⟨v, []⟩) = _
          rw [aSet_1, thOf_1, setF_N _ _ _ _ kn hk4]
        rw [d2, d3] at t2
        rw [d1]
        refine arI_w (arI_w ?_)
        refine joinX_w (fun x H' => H' = H2 ∧ x = ((p, n, c, 1), (q, m, d, 1), .at g 0, .at gw 0, (i : Int), (kn : Int), 0)) ?_ ?_
        · rintro x H' ⟨rfl, rfl⟩
          simp only [pR_]
          refine (show ifA true _ _ = true from ?_)
          rw [ifA_t]
          refine (hI.le hL2).read hx ?_
          rw [hv]
          refine w64_w (by omega) (by omega) ?_
          simp only [nilK_at]
          refine idxK_w (by omega) (by omega) (fN_w (fN_w ?_))
          simp only [Int.toNat_natCast, Nat.add_eq, Nat.mul_eq, Nat.zero_add, Nat.add_zero]
          refine sto1_w Kw2.get (by simp [wC]; omega) ?_
          rw [wC_set ns v kn hk4]
          have f3 : Fr (fun a => a = gw) H' (H'.put gw (.row (wC (updN ns kn v)))) := (Fr.refl (fun a => a = gw) _).put (.inl rfl) _
          exact w64_w (by simp only [iAdd_, Int.ofNat_eq_natCast]; omega) (by simp only [iAdd_, Int.ofNat_eq_natCast]; omega) (ih _ _ ⟨rfl, rfl, rfl, rfl, i + 1, by simp [iAdd_], by omega, hL2.put nHw _, _, O2, t2.fr f3 fun a ha e => Kw2.out (e ▸ ha), z2, ⟨has_put Kw2.has, get_put _ _ _, Kw2.out⟩⟩ (by simp [iAdd_]; omega))
        · intro J hJ'
          refine ifA_w (fun h1 => ?_) (fun h1 => absurd hk0 (of_decide_eq_false h1))
          rw [decide_eq_true (show (kn : Int) < Int.ofNat 4 by simp only [Int.ofNat_eq_natCast]; omega)]
          refine (show ifA false _ _ = true from ?_)
          rw [ifA_f]
          refine (show ifA false _ _ = true from ?_)
          rw [ifA_f]
          exact hJ' _ _ ⟨rfl, rfl⟩
    · intro J hJ'
      refine ifA_w (fun h1 => ?_) (fun h1 => hJ' _ _ ⟨rfl, _, rfl, by omega, by omega⟩)
      have h1 : i < m := by have := of_decide_eq_true h1; simp only [Int.ofNat_eq_natCast] at this; omega
      have hil : i < ws.length := by rw [hJ.1]; exact h1
      refine (hJ.le hL1).read h1 ?_
      have hb := hws _ (List.getElem_mem hil)
      generalize ws[i] = v at hb
      refine fI_w ?_
      rw [show Int.tmod v (Int.ofNat 6) = v % 6 from Int.tmod_eq_emod_of_nonneg hb.1]
      simp only [iSub_, Int.ofNat_eq_natCast, Int.cast_ofNat_Int]
      exact w64_w (by omega) (by omega) (w64_w (by omega) (by omega) (hJ' _ _ ⟨rfl, _, rfl, by omega, by omega⟩))
  · refine hget H1 g _ O 5 _ tt fun H2 h2 => ?_
    rw [tup2_, asG_, thOf_1, aGet_1]
    refine arB_w (tmp_w rfl rfl fun gx H3 h3 hx3 nx gx3 => ?_)
    have Kw3 := Kw.le (h2.trans h3)
    refine (show ifA true _ _ = true from ?_)
    rw [ifA_t]
    simp only [nilK_at]
    refine rowK_w gx3 (ldG_we (ys := wC ns) (lb rfl) (lb rfl) rfl (rowK_w Kw3.get (ldG_we (ys := wC ns) (lb rfl) (lb rfl) rfl (okK_w rfl ?_))))
    have : cellsEqA (wC ns) (wC ns) = true := by simp only [wC, cellsEqA, cellEqA, iEq_dec, sEq_dec, decide_true]
    rw [this]
    rfl
end Go.Proofs
