import Derived.Test.YtbjciplcaekjpaaOwnLaws2
namespace Go.Proofs
open Go Go.Vw Go.Vw.Ev
set_option linter.unusedVariables false
set_option maxRecDepth 100000

theorem fl_cell {l : List (Int × Int)} (hl : l.length = 16) {j : Nat} (hj : j < 16) : ((fl l).drop (Nat.add 0 (Nat.mul (j : Int).toNat 2))).take 2 = [.int .i64 (l[j]).1, .int .i64 (l[j]).2] ∧ Nat.add 0 (Nat.mul (j : Int).toNat 2) + 2 ≤ (fl l).length := by
  simp only [Nat.add_eq, Nat.mul_eq, Int.toNat_natCast, Nat.zero_add]
  refine ⟨?_, by rw [fl_length, hl]; omega⟩
  rw [Nat.mul_comm]; exact fl_at (by omega)
set_option maxHeartbeats 1000000 in
/-- OwnerCopies. -/
theorem B9_ {lf : Nat} {cl : Cl} {H : AH} {n : Nat} {p : AP} {m : Nat} {c : ACap} {z : Nat} {s : List (Int × Int × Int)} (hlf : 100 ≤ lf) (h16 : C16 cl) (h17 : CNew 17 cl) (h19 : C19 cl) (h20 : C20 cl) (h25 : C25 cl) (h27 : C27 cl) (h28 : C28 cl)
    (hin : In3 H p m s) : B9 lf cl (Int.ofNat n) p m c z H isT = true := by
  unfold B9
  rw [h16]
  refine arB_w (ifA_w (fun e => absurd e (by decide)) fun _ => ?_)
  rw [iLt_dec]
  refine ifA_w (fun _ => rfl) fun e => ?_
  have hm : m ≤ 40 := by simp at e; omega
  have ht : Int.tmod (Int.ofNat n) (Int.ofNat 4) = ((n % 4 : Nat) : Int) := rfl
  have hn4 : n % 4 < 4 := Nat.mod_lt _ (by decide)
  rw [ht]
  generalize hq : n % 4 = q at hn4
  refine fI_w (w64_w (by omega) (by omega) ?_)
  rw [iAdd_]
  refine w64_w (by simp only [Int.ofNat_eq_natCast]; omega) (by simp only [Int.ofNat_eq_natCast]; omega) ?_
  have hkN : kN ((q : Int) + Int.ofNat 1) = ((q + 1 : Nat) : Int) := by simp only [kN, Int.ofNat_eq_natCast]; omega
  refine h17 _ _ _ fun H1 gm hL1 hn1 ho1 => asP_w' ?_
  rw [hkN] at ho1
  generalize hk : q + 1 = k at ho1
  have hk1 : 1 ≤ k ∧ k ≤ 4 := by omega
  refine loopX_w (fun x H' => x.1 = (p, m, c, z) ∧ x.2.1 = .at gm 0 ∧ ∃ i : Nat, x.2.2 = (i : Int) ∧ i ≤ m ∧ In3 H' p m s ∧ ∃ l, l.length = 16 ∧ Bd i l ∧ Sv k l ∧ Obj H' gm k l) (fun x => m - x.2.2.toNat)
    ⟨rfl, rfl, 0, rfl, by omega, hin.le hL1, _, initL_length _ _, initL_bd _, initL_sv (by omega), ho1⟩ (by simp; omega) ?_
  rintro self ⟨⟨p', m', c', z'⟩, q1, _⟩ H3 ⟨hs, hq1, i, hi, him, hin, l, hl, hb, hsv, ho1⟩ ih
  simp only [Prod.mk.injEq] at hs hq1 hi
  obtain ⟨rfl, rfl, rfl, rfl⟩ := hs
  subst hq1 hi
  simp only [pR_]
  rw [iLt_dec]
  refine ifA_w (fun e => ?_) (fun e => rfl)
  have e : i < m' := by simp only [decide_eq_true_eq, Int.ofNat_eq_natCast] at e; omega
  refine h19 _ _ _ _ _ ho1 hl fun H4 gc hL4 hn4 ho4 => asP_w' ?_
  have hcm : gc ≠ gm := fun e => hn4 (e ▸ ho1.2)
  refine h27 _ _ _ _ _ (ho1.le hL4) hl fun H5 g5 hL5 hn5 hh5 hg5 => ?_
  rw [SlAt, asSl_]
  have hin5 := (hin.le hL4).le hL5
  have hidx : (i : Int) < (m' : Int) := by omega
  obtain ⟨g, hpg, hg, hrow, c0, c1, c2⟩ := step3 hin5 e
  generalize hC : (s[i]'(by rw [hin5.1]; exact e)).1 = C at c0
  generalize hF : (s[i]'(by rw [hin5.1]; exact e)).2.1 = F at c1
  generalize hT : (s[i]'(by rw [hin5.1]; exact e)).2.2 = T at c2
  rw [hpg]
  refine nilK_w (idxK_w (by omega) hidx (fN_w (fN_w (rowK_wf hrow (ldI_w c0 ?_)))))
  refine nilK_w (idxK_w (by omega) hidx (fN_w (fN_w (rowK_wf hrow (ldI_w c1 ?_)))))
  refine nilK_w (idxK_w (by omega) hidx (fN_w (fN_w (rowK_wf hrow (ldI_w c2 ?_)))))
  have oc5 := ho4.le hL5
  have om5 := (ho1.le hL4).le hL5
  refine h20 _ _ _ _ _ _ _ _ oc5 hl (hb.small (by omega)) (arI_w ?_)
  have om6 := hand_other (n := k) (l := l) (c := C) (f := F) (t := T) om5 hcm.symm
  have oc6 := hand_obj (c := C) (f := F) (t := T) oc5
  have in6 := hand_in3 (c := C) (f := F) (t := T) hin5 oc5
  have g5c : g5 ≠ gc := fun e => hn5 (e ▸ ho4.2)
  have g56 : (handH H5 gc k l C F T).get g5 = some (.row (fl l)) := (hand_ne g5c).trans hg5
  have hh6 : (handH H5 gc k l C F T).has g5 := hand_has hh5
  refine h27 _ _ _ _ _ om6 hl fun H7 g7 hL7 hn7 hh7 hg7 => ?_
  rw [SlAt, asSl_]
  have om7 := om6.le hL7
  have oc7 := oc6.le hL7
  have in7 := in6.le hL7
  have g57 : H7.get g5 = some (.row (fl l)) := (hL7.get g5 hh6).trans g56
  obtain ⟨g', hpg', hg', hrow', d0, d1, d2⟩ := step3 in7 e
  rw [hC] at d0
  rw [hF] at d1
  rw [hT] at d2
  have hgg : g' = g := by rw [hpg] at hpg'; simpa using hpg'.symm
  subst hgg
  refine loopX_w (fun x H' => H' = H7 ∧ (.at g' 0, m', c', z') = x.1 ∧ x.2.1 = .at gm 0 ∧ x.2.2.1 = (i : Int) ∧ x.2.2.2.1 = .at gc 0 ∧ x.2.2.2.2.1 = (.at g5 0, 16, .lit 16, 2) ∧ x.2.2.2.2.2.1 = (.at g7 0, 16, .lit 16, 2) ∧ ∃ j : Nat, x.2.2.2.2.2.2 = (j : Int) ∧ j ≤ 16) (fun x => 16 - x.2.2.2.2.2.2.toNat)
    ⟨rfl, rfl, rfl, rfl, rfl, rfl, rfl, 0, rfl, by omega⟩ (by simp; omega) ?_
  rintro self2 ⟨⟨a1, a2, a3, a4⟩, b1, b2, b3, ⟨x1, x2, x3, x4⟩, ⟨y1, y2, y3, y4⟩, _⟩ H8 ⟨hH, h1, h2, h3, h4, h5, h6, j, hj, hj16⟩ ih2
  simp only [Prod.mk.injEq] at h1 h2 h3 h4 h5 h6 hj
  obtain ⟨rfl, rfl, rfl, rfl⟩ := h1
  obtain ⟨rfl, rfl, rfl, rfl⟩ := h5
  obtain ⟨rfl, rfl, rfl, rfl⟩ := h6
  subst hH h2 h3 h4 hj
  simp only [pR_]
  rw [iLt_dec]
  refine ifA_w (fun ej => ?_) (fun ej => ?_)
  · have ej : j < 16 := by simp only [decide_eq_true_eq, Int.ofNat_eq_natCast] at ej; omega
    obtain ⟨f1, f2⟩ := fl_cell hl ej
    refine nilK_w (idxK_w (by omega) (by omega) (fN_w (rowK_w g57 (ldG_we f2 (by decide) f1 ?_))))
    refine nilK_w (idxK_w (by omega) (by omega) (fN_w (rowK_w hg7 (ldG_we f2 (by decide) f1 (okK_w rfl ?_)))))
    rw [cells2]
    refine ifA_w (fun e => absurd e (by simp)) fun _ => ?_
    rw [iAdd_]
    refine w64_w (by simp only [Int.ofNat_eq_natCast]; omega) (by simp only [Int.ofNat_eq_natCast]; omega) (ih2 _ _ ⟨rfl, rfl, rfl, rfl, rfl, rfl, rfl, j + 1, by simp, by omega⟩ ?_)
    simp only [Int.ofNat_eq_natCast]; omega
  · refine nilK_w (idxK_w (by omega) hidx (fN_w (fN_w (rowK_wf hrow' (ldI_w d0 ?_)))))
    refine nilK_w (idxK_w (by omega) hidx (fN_w (fN_w (rowK_wf hrow' (ldI_w d1 ?_)))))
    refine nilK_w (idxK_w (by omega) hidx (fN_w (fN_w (rowK_wf hrow' (ldI_w d2 ?_)))))
    refine h20 _ _ _ _ _ _ _ _ om7 hl (hb.small (by omega)) (arI_w ?_)
    have om9 := hand_obj (c := C) (f := F) (t := T) om7
    have oc9 := hand_other (n := k) (l := l) (c := C) (f := F) (t := T) oc7 hcm
    have in9 := hand_in3 (c := C) (f := F) (t := T) in7 om7
    have hl9 := nxt_length (n := k) (c := C) (f := F) (t := T) hl
    have hb9 : Bd (i + 1) (nxt k l C F T) := hb.nxt
    have hsv9 : Sv k (nxt k l C F T) := nxt_sv hsv
    generalize nxt k l C F T = l9 at om9 oc9 hl9 hb9 hsv9
    refine h27 _ _ _ _ _ oc9 hl9 fun H10 g10 hL10 hn10 hh10 hg10 => ?_
    rw [SlAt, asSl_]
    refine h27 _ _ _ _ _ (om9.le hL10) hl9 fun H11 g11 hL11 hn11 hh11 hg11 => ?_
    rw [SlAt, asSl_]
    have om11 := (om9.le hL10).le hL11
    have in11 := (in9.le hL10).le hL11
    have g1011 : H11.get g10 = some (.row (fl l9)) := (hL11.get g10 hh10).trans hg10
    rw [h28 _ _ _ _ _ om11]
    refine arI_w ?_
    have hok : 1 ≤ (k : Int) ∧ (k : Int) ≤ 4 ∧ l9.length = 16 ∧ ∀ x ∈ l9, okO k x := ⟨by omega, by omega, hl9, fun x hx => by
      have h1 := hb9 x hx
      have h2 := hsv9 x hx
      exact ⟨h2.1, h2.2, h1.1, by omega⟩⟩
    refine h25 _ _ _ _ _ _ l9 _ ⟨hl9, fun _ => ⟨g11, rfl, hh11, .inr hg11⟩⟩ ⟨fun hno => absurd hok hno, fun _ _ _ _ H12 g12 hL12 hn12 ho12 => ?_⟩
    rw [tup2_, asP_]
    refine arI_w (ifA_w (fun e => absurd e (by decide)) fun _ => ifA_w (fun e => absurd e (by simp [isNilP])) fun _ => ifA_w (fun e => absurd e (by decide)) fun _ => ?_)
    refine h27 _ _ _ _ _ ho12 hl9 fun H13 g13 hL13 hn13 hh13 hg13 => ?_
    rw [SlAt, asSl_]
    have om13 := (om11.le hL12).le hL13
    have in13 := (in11.le hL12).le hL13
    have hL1113 := hL12.trans hL13
    have k10 : H13.get g10 = some (.row (fl l9)) := (hL1113.get g10 (hL11.has _ hh10)).trans g1011
    have k11 : H13.get g11 = some (.row (fl l9)) := (hL1113.get g11 hh11).trans hg11
    refine loopX_w (fun x H' => H' = H13 ∧ (.at g' 0, m', c', z') = x.1 ∧ x.2.1 = .at gm 0 ∧ x.2.2.1 = (i : Int) ∧ x.2.2.2.1 = (.at g10 0, 16, .lit 16, 2) ∧ x.2.2.2.2.1 = (.at g11 0, 16, .lit 16, 2) ∧ x.2.2.2.2.2.1 = (.at g13 0, 16, .lit 16, 2) ∧ ∃ j : Nat, x.2.2.2.2.2.2 = (j : Int) ∧ j ≤ 16) (fun x => 16 - x.2.2.2.2.2.2.toNat)
      ⟨rfl, rfl, rfl, rfl, rfl, rfl, rfl, 0, rfl, by omega⟩ (by simp; omega) ?_
    rintro self3 ⟨⟨a1, a2, a3, a4⟩, b1, b2, ⟨w1, w2, w3, w4⟩, ⟨x1, x2, x3, x4⟩, ⟨y1, y2, y3, y4⟩, _⟩ H14 ⟨hH, h1, h2, h3, h4, h5, h6, j, hj, hj16⟩ ih3
    simp only [Prod.mk.injEq] at h1 h2 h3 h4 h5 h6 hj
    obtain ⟨rfl, rfl, rfl, rfl⟩ := h1
    obtain ⟨rfl, rfl, rfl, rfl⟩ := h4
    obtain ⟨rfl, rfl, rfl, rfl⟩ := h5
    obtain ⟨rfl, rfl, rfl, rfl⟩ := h6
    subst hH h2 h3 hj
    simp only [pR_]
    rw [iLt_dec]
    refine ifA_w (fun ej => ?_) (fun ej => ?_)
    · have ej : j < 16 := by simp only [decide_eq_true_eq, Int.ofNat_eq_natCast] at ej; omega
      obtain ⟨f1, f2⟩ := fl_cell hl9 ej
      refine nilK_w (idxK_w (by omega) (by omega) (fN_w (rowK_w k10 (ldG_we f2 (by decide) f1 ?_))))
      refine nilK_w (idxK_w (by omega) (by omega) (fN_w (rowK_w k11 (ldG_we f2 (by decide) f1 (okK_w rfl ?_)))))
      rw [cells2]
      refine ifA_w (fun e => absurd e (by simp)) fun _ => ?_
      refine nilK_w (idxK_w (by omega) (by omega) (fN_w (rowK_w hg13 (ldG_we f2 (by decide) f1 ?_))))
      refine nilK_w (idxK_w (by omega) (by omega) (fN_w (rowK_w k11 (ldG_we f2 (by decide) f1 (okK_w rfl ?_)))))
      rw [cells2]
      refine ifA_w (fun e => absurd e (by simp)) fun _ => ?_
      rw [iAdd_]
      refine w64_w (by simp only [Int.ofNat_eq_natCast]; omega) (by simp only [Int.ofNat_eq_natCast]; omega) (ih3 _ _ ⟨rfl, rfl, rfl, rfl, rfl, rfl, rfl, j + 1, by simp, by omega⟩ ?_)
      simp only [Int.ofNat_eq_natCast]; omega
    · rw [iAdd_]
      refine w64_w (by simp only [Int.ofNat_eq_natCast]; omega) (by simp only [Int.ofNat_eq_natCast]; omega) (ih _ _ ⟨by rw [hpg], rfl, i + 1, by simp, by omega, in13, _, hl9, hb9, hsv9, om13⟩ ?_)
      simp only [Int.ofNat_eq_natCast]; omega
end Go.Proofs
