import Derived.Test.YtmdidmoffcinjaaGreatDT
import Derived.Test.YtmdidmoffcinjaaGreatBQ
section
namespace Go.Proofs
open Go Go.Vw Go.Vw.Ev
set_option linter.unusedVariables false
set_option linter.unusedSimpArgs false
theorem lb {a b : Nat} (h : Nat.ble a b = true) : a ≤ b := Nat.le_of_ble_eq_true h
structure Cm where
 kind : Int
 id : Int
 which : Int
 to_ : Int
 pt : Pt
 f0 : Fd
 f1 : Fd
 f2 : Fd
 f3 : Fd
 v : Fd
 client : Int
 session : Int
 r : Rc
def cmC (c : Cm) : List AS := [.int .i64 c.kind, .int .i64 c.id, .int .i64 c.which, .int .i64 c.to_, .int .i64 c.pt.x, .int .i64 c.pt.y, .int .i64 c.f0.n, .str c.f0.s, .int .i64 c.f1.n, .str c.f1.s, .int .i64 c.f2.n, .str c.f2.s,
 .int .i64 c.f3.n, .str c.f3.s, .int .i64 c.v.n, .str c.v.s, .int .i64 c.client, .int .i64 c.session, .int .i64 c.r.x0, .int .i64 c.r.y0, .int .i64 c.r.x1, .int .i64 c.r.y1]
theorem cmC_len (c : Cm) : (cmC c).length = 22 := rfl
def fdZ : Fd := ⟨0, []⟩
def baseC (c : Cm) : Cm := ⟨c.kind, 0, 0, 0, ⟨0, 0⟩, fdZ, fdZ, fdZ, fdZ, fdZ, c.client, c.session, ⟨0, 0, 0, 0⟩⟩
def coreC (c : Cm) : Cm :=
 if c.kind = 1 then { baseC c with pt := c.pt, f0 := c.f0, f1 := c.f1, f2 := c.f2, f3 := c.f3 } else
 if c.kind = 2 then { baseC c with id := c.id, pt := c.pt } else
 if c.kind = 3 then { baseC c with id := c.id, which := c.which, v := c.v } else
 if c.kind = 4 then { baseC c with id := c.id } else
 if c.kind = 5 then { baseC c with which := c.which, to_ := c.to_ } else
 if c.kind = 6 ∨ c.kind = 7 then { baseC c with r := c.r } else baseC c
theorem leafy_cm (c : Cm) : (cmC c).all leafy = true := rfl
theorem kHas_ne {a b : Pn} {x : AB} {S : Kept} (h : b ≠ a) (hs : kHas S b = false) : kHas ((a, x) :: S) b = false := by
 simp only [kHas, hs, Bool.or_false]
 exact Bool.eq_false_iff.2 fun e => h (Pn.beq_iff.1 e).symm
def CCore (cl : Cl) : Prop := ∀ c H K, (∀ H', Le H H' → K (.agg (cmC (coreC c))) H' = true) → cl i_cmd_core [.agg (cmC c)] H K = true
theorem B_cmd_core_ {lf : Nat} {cl : Cl} {c : Cm} {H : AH} {K : AV → AH → Bool} (hk : ∀ H', Le H H' → K (.agg (cmC (coreC c))) H' = true) : B_cmd_core lf cl (cmC c) H K = true := by
 unfold B_cmd_core
 refine new_w fun ga H1 h1 ha na ga1 => ?_
 refine new_w fun gb H2 h2 hb nb gb2 => ?_
 have ga2 := (h2.get _ ha).trans ga1
 refine rowK_w ga2 (ldI_w (n := c.kind) rfl (rowK_w ga2 (ldI_w (n := c.client) rfl (rowK_w ga2 (ldI_w (n := c.session) rfl ?_)))))
 refine tmp_w rfl rfl fun gc H3 h3 hc nc gc3 => ?_
 have ga3 := (h3.get _ (h2.has _ ha)).trans ga2
 have gb3 := (h3.get _ hb).trans gb2
 have gc3 : H3.get gc = some (.row (cmC (baseC c))) := gc3
 have nba : gb ≠ ga := fun e => nb (e ▸ ha)
 have nca : gc ≠ ga := fun e => nc (e ▸ h2.has _ ha)
 have ncb : gc ≠ gb := fun e => nc (e ▸ hb)
 have hL3 := h1.trans (h2.trans h3)
 have nHb : ¬ H.has gb := fun h => nb (h1.has _ h)
 have nHc : ¬ H.has gc := fun h => nc (h2.has _ (h1.has _ h))
 have fin : ∀ (Hx : AH) (d : Cm), Le H Hx → Hx.get gc = some (.row (cmC d)) → Hx.get gb = H3.get gb → d = coreC c →
   rowK Hx gc (fun cs => ldG cs 0 22 fun cs' => stoN Hx gb 0 22 cs' fun h => rowK h gb fun cs2 => ldG cs2 0 22 fun cs3 => K (.agg cs3) h) = true := by
  intro Hx d hL hg hgb hd
  refine rowK_w hg (ldG_we (ys := cmC d) (Nat.le_refl 22) (by decide) rfl ?_)
  refine stoN_we (ds := cmC d) (hgb.trans gb3) rfl (Nat.le_refl 22) rfl (rowK_w (get_put _ _ _) (ldG_we (ys := cmC d) (Nat.le_refl 22) (by decide) rfl ?_))
  rw [hd]
  exact hk _ (hL.put nHb _)
 have kOK : ∀ (Hx : AH), Hx.get ga = some (.row (cmC c)) → (!kHas ((ga, .row (cmC c)) :: []) gc && kSame ((ga, .row (cmC c)) :: []) Hx) = true := fun Hx hx => by
  rw [kHas_ne nca rfl, kSame_row hx (leafy_cm c) rfl]; rfl
 have kOK2 : ∀ (Hx : AH), Hx.get ga = some (.row (cmC c)) → (!kHas ((ga, .row (cmC c)) :: (ga, .row (cmC c)) :: []) gc && kSame ((ga, .row (cmC c)) :: (ga, .row (cmC c)) :: []) Hx) = true := fun Hx hx => by
  rw [kHas_ne nca (kHas_ne nca rfl), kSame_row hx (leafy_cm c) (kSame_row hx (leafy_cm c) rfl)]; rfl
 have pa : ∀ (Hx : AH) (b : AB), (Hx.put gc b).get ga = Hx.get ga := fun Hx b => get_put_ne nca.symm
 have pb : ∀ (Hx : AH) (b : AB), (Hx.put gc b).get gb = Hx.get gb := fun Hx b => get_put_ne ncb.symm
 refine rowK_w ga3 (ldI_w (n := c.kind) rfl ?_)
 rw [fB_eq, iEq_dec]
 refine ifA_w (fun e1 => ?_) (fun e1 => ?_)
 ·have e1 : c.kind = 1 := of_decide_eq_true e1
  refine rowK_w ga3 (ldG_we (ys := ptC c.pt) (lb rfl) (lb rfl) rfl (getK_w ga3 (rowK_w ga3 (ldG_we (ys := fdC c.f0 ++ (fdC c.f1 ++ (fdC c.f2 ++ fdC c.f3))) (lb rfl) (lb rfl) rfl (okK_w (kOK H3 ga3) ?_)))))
  refine stoN_we (ds := cmC { baseC c with pt := c.pt }) gc3 rfl (lb rfl) rfl ?_
  refine stoN_we (ds := cmC { baseC c with pt := c.pt, f0 := c.f0, f1 := c.f1, f2 := c.f2, f3 := c.f3 }) (get_put _ _ _) rfl (lb rfl) rfl ?_
  exact fin _ _ ((hL3.put nHc _).put nHc _) (get_put _ _ _) (by rw [pb, pb]) (by unfold coreC; rw [if_pos e1])
 have e1 : ¬ c.kind = 1 := of_decide_eq_false e1
 rw [fB_eq, iEq_dec]
 refine ifA_w (fun e2 => ?_) (fun e2 => ?_)
 ·have e2 : c.kind = 2 := of_decide_eq_true e2
  refine rowK_w ga3 (ldI_w (n := c.id) rfl (getK_w ga3 (rowK_w ga3 (ldG_we (ys := ptC c.pt) (lb rfl) (lb rfl) rfl (okK_w (kOK H3 ga3) ?_)))))
  refine sto1_w gc3 (lb rfl) ?_
  refine stoN_we (ds := cmC { baseC c with id := c.id, pt := c.pt }) (get_put _ _ _) rfl (lb rfl) rfl ?_
  exact fin _ _ ((hL3.put nHc _).put nHc _) (get_put _ _ _) (by rw [pb, pb]) (by unfold coreC; rw [if_neg e1, if_pos e2])
 have e2 : ¬ c.kind = 2 := of_decide_eq_false e2
 rw [fB_eq, iEq_dec]
 refine ifA_w (fun e3 => ?_) (fun e3 => ?_)
 ·have e3 : c.kind = 3 := of_decide_eq_true e3
  refine rowK_w ga3 (ldI_w (n := c.id) rfl (getK_w ga3 (rowK_w ga3 (ldI_w (n := c.which) rfl (getK_w ga3 (rowK_w ga3 (ldG_we (ys := fdC c.v) (lb rfl) (lb rfl) rfl (okK_w (kOK2 H3 ga3) ?_))))))))
  refine sto1_w gc3 (lb rfl) (okK_w (kOK2 _ ((pa _ _).trans ga3)) ?_)
  refine sto1_w (get_put _ _ _) (lb rfl) ?_
  refine stoN_we (ds := cmC { baseC c with id := c.id, which := c.which, v := c.v }) (get_put _ _ _) rfl (lb rfl) rfl ?_
  exact fin _ _ (((hL3.put nHc _).put nHc _).put nHc _) (get_put _ _ _) (by rw [pb, pb, pb]) (by unfold coreC; rw [if_neg e1, if_neg e2, if_pos e3])
 have e3 : ¬ c.kind = 3 := of_decide_eq_false e3
 rw [fB_eq, iEq_dec]
 refine ifA_w (fun e4 => ?_) (fun e4 => ?_)
 ·have e4 : c.kind = 4 := of_decide_eq_true e4
  refine rowK_w ga3 (ldI_w (n := c.id) rfl ?_)
  refine sto1_w gc3 (lb rfl) ?_
  exact fin _ { baseC c with id := c.id } (hL3.put nHc _) (get_put _ _ _) (by rw [pb]) (by unfold coreC; rw [if_neg e1, if_neg e2, if_neg e3, if_pos e4])
 have e4 : ¬ c.kind = 4 := of_decide_eq_false e4
 rw [fB_eq, iEq_dec]
 refine ifA_w (fun e5 => ?_) (fun e5 => ?_)
 ·have e5 : c.kind = 5 := of_decide_eq_true e5
  refine rowK_w ga3 (ldI_w (n := c.which) rfl (getK_w ga3 (rowK_w ga3 (ldI_w (n := c.to_) rfl (okK_w (kOK H3 ga3) ?_)))))
  refine sto1_w gc3 (lb rfl) (sto1_w (get_put _ _ _) (lb rfl) ?_)
  exact fin _ { baseC c with which := c.which, to_ := c.to_ } ((hL3.put nHc _).put nHc _) (get_put _ _ _) (by rw [pb, pb]) (by unfold coreC; rw [if_neg e1, if_neg e2, if_neg e3, if_neg e4, if_pos e5])
 have e5 : ¬ c.kind = 5 := of_decide_eq_false e5
 refine joinX_w (fun x Hx => Hx = H3 ∧ x.1 = .at ga 0 ∧ x.2.1 = .at gb 0 ∧ x.2.2.1 = .at gc 0 ∧ (x.2.2.2 = true ↔ c.kind = 6 ∨ c.kind = 7)) ?_ ?_
 ·rintro ⟨x1, x2, x3, x4⟩ Hx ⟨e0, f1, f2, f3, f4⟩
  simp only at f1 f2 f3 f4
  subst e0 f1 f2 f3
  simp only [pR_, nilK_at, fN_eq, Nat.add_eq, Nat.zero_add]
  refine ifA_w (fun hx => ?_) (fun hx => ?_)
  ·refine rowK_w ga3 (ldG_we (ys := rcC c.r) (lb rfl) (lb rfl) rfl ?_)
   refine stoN_we (ds := cmC { baseC c with r := c.r }) gc3 rfl (lb rfl) rfl ?_
   exact fin _ _ (hL3.put nHc _) (get_put _ _ _) (by rw [pb]) (by unfold coreC; rw [if_neg e1, if_neg e2, if_neg e3, if_neg e4, if_neg e5, if_pos (f4.1 hx)])
  ·exact fin _ (baseC c) hL3 gc3 rfl (by unfold coreC; rw [if_neg e1, if_neg e2, if_neg e3, if_neg e4, if_neg e5, if_neg fun h => by rw [f4.2 h] at hx; cases hx])
 ·intro J hJ
  rw [fB_eq, iEq_dec]
  refine ifA_w (fun e6 => ?_) (fun e6 => ?_)
  ·have e6' : c.kind = 6 := of_decide_eq_true e6
   exact hJ _ _ ⟨rfl, rfl, rfl, rfl, ⟨fun _ => .inl e6', fun _ => e6⟩⟩
  ·have e6' : ¬ c.kind = 6 := of_decide_eq_false e6
   rw [fB_eq, iEq_dec]
   exact hJ _ _ ⟨rfl, rfl, rfl, rfl, ⟨fun h => .inr (of_decide_eq_true h), fun h => decide_eq_true (h.resolve_left e6')⟩⟩
def nearB (n : Int) : Bool := decide (-1000 ≤ n) && decide (n ≤ 1000)
def CNear (cl : Cl) : Prop := ∀ H g (l : List Int) K, H.has g → H.get g = some (.row (intsA l)) → l.length < 100 → (∀ b, b = l.all nearB → K (.s (.bool b)) H = true) → cl i_cmd_near [.s (.slice (.at g 0) l.length (.lit l.length) 1)] H K = true
theorem B_cmd_near_ {lf : Nat} {cl : Cl} (hlf : 100 ≤ lf) {H : AH} {g : Pn} {l : List Int} {n : Nat} {c : ACap} {K : AV → AH → Bool} (hn : n = l.length) (hh : H.has g) (hg : H.get g = some (.row (intsA l))) (hl : l.length < 100) (hk : ∀ b, b = l.all nearB → K (.s (.bool b)) H = true) :
  B_cmd_near lf cl (.at g 0) n c 1 H K = true := by
 subst hn
 unfold B_cmd_near
 refine loopX_w (fun x H' => H' = H ∧ x.1 = (.at g 0, l.length, c, 1) ∧ x.2.1 = (l.length : Int) ∧ ∃ i : Nat, x.2.2 = (i : Int) ∧ i ≤ l.length ∧ (l.take i).all nearB = true) (fun x => l.length - x.2.2.toNat) ⟨rfl, rfl, rfl, 0, rfl, by omega, rfl⟩ (by simp; omega) ?_
 rintro self ⟨x1, x2, x3⟩ H1 ⟨e0, e1, e2, i, e3, hi, ha⟩ ih
 simp only at e1 e2 e3
 subst e0 e1 e2 e3
 simp only [pR_, fB_eq, iLt_dec, iLe_dec]
 refine ifA_w (fun hx => ?_) (fun hx => ?_)
 ·have hx : i < l.length := by have := of_decide_eq_true hx; omega
  simp only [nilK_at, fN_eq, Nat.add_eq, Nat.mul_eq, Nat.zero_add, Nat.mul_one]
  refine idxK_w (by omega) (by omega) (rowK_w hg (ldI_w (n := l[i]) (by rw [Int.toNat_natCast]; exact intsA_get hx) ?_))
  have no : nearB l[i] = false → K (.s (.bool false)) H1 = true := fun h => hk false (by
   cases hb : l.all nearB with
   | false => rfl
   | true => rw [List.all_eq_true.1 hb _ (List.getElem_mem hx)] at h; cases h)
  refine ifA_w (fun h1 => ?_) (fun h1 => no (by unfold nearB; rw [show decide (-1000 ≤ l[i]) = false from h1]; rfl))
  refine ifA_w (fun h2 => ?_) (fun h2 => no (by unfold nearB; rw [show decide (l[i] ≤ 1000) = false from h2, Bool.and_false]))
  rw [iAdd_]
  refine w64_w (by simp only [Int.ofNat_eq_natCast]; omega) (by simp only [Int.ofNat_eq_natCast]; omega) (ih _ _ ⟨rfl, rfl, rfl, i + 1, by simp, by omega, ?_⟩ (by simp; omega))
  rw [List.take_succ_eq_append_getElem hx, List.all_append, ha]
  simp only [List.all_cons, List.all_nil, Bool.and_true, Bool.true_and]
  unfold nearB
  rw [show decide (-1000 ≤ l[i]) = true from h1, show decide (l[i] ≤ 1000) = true from h2]; rfl
 ·have hx : i = l.length := by have := of_decide_eq_false hx; omega
  rw [hx, List.take_length] at ha
  exact hk true ha.symm
def fldB (c : Cm) : Bool := IsF c.f0 && (IsF c.f1 && (IsF c.f2 && IsF c.f3))
noncomputable def kindB (c : Cm) : Bool := decide (1 ≤ c.kind) && (decide (c.kind ≤ 8) && cellsEqA (cmC c) (cmC (coreC c)))
def whoB (c : Cm) : Bool := decide (0 ≤ c.client) && (decide (c.client < 4) && (decide (0 ≤ c.session) && decide (c.session ≤ 1000000)))
def whatB (c : Cm) : Bool := decide (0 ≤ c.id) && (decide (c.id ≤ 1000000) && (decide (-1 ≤ c.which) && (decide (c.which ≤ 100) && (decide (-1 ≤ c.to_) && (decide (c.to_ ≤ 100) && IsF c.v)))))
def placeB (c : Cm) : Bool := [c.pt.x, c.pt.y, c.r.x0, c.r.y0, c.r.x1, c.r.y1].all nearB
noncomputable def IsCm (c : Cm) : Bool := fldB c && (kindB c && (whoB c && (whatB c && placeB c)))
def Cm.fs (c : Cm) : Nat → Fd
 | 0 => c.f0
 | 1 => c.f1
 | 2 => c.f2
 | _ => c.f3
def fsC (c : Cm) : List AS := fdC c.f0 ++ (fdC c.f1 ++ (fdC c.f2 ++ fdC c.f3))
theorem fsC_at (c : Cm) : ∀ i, i < 4 → ((fsC c).drop (i * 2)).take 2 = fdC (c.fs i) := lt4 rfl rfl rfl rfl
theorem fs_all {c : Cm} (h : ∀ j, j < 4 → IsF (c.fs j) = true) : fldB c = true := by
 unfold fldB
 rw [show IsF c.f0 = true from h 0 (by decide), show IsF c.f1 = true from h 1 (by decide), show IsF c.f2 = true from h 2 (by decide), show IsF c.f3 = true from h 3 (by decide)]; rfl
theorem fs_no {c : Cm} : ∀ i, i < 4 → IsF (c.fs i) = false → IsCm c = false := lt4 (fun h => by unfold IsCm fldB; rw [show IsF c.f0 = false from h]; rfl) (fun h => by unfold IsCm fldB; rw [show IsF c.f1 = false from h]; simp) (fun h => by unfold IsCm fldB; rw [show IsF c.f2 = false from h]; simp)
 (fun h => by unfold IsCm fldB; rw [show IsF c.f3 = false from h]; simp)
end Go.Proofs
end
section
namespace Go.Proofs
open Go Go.Vw Go.Vw.Ev
set_option linter.unusedVariables false
set_option linter.unusedSimpArgs false
def CIsCm (cl : Cl) : Prop := ∀ c H K, (∀ H', Le H H' → K (.s (.bool (IsCm c))) H' = true) → cl i_cmd_Is [.agg (cmC c)] H K = true
theorem B_cmd_Is_ {lf : Nat} {cl : Cl} (hlf : 100 ≤ lf) (hf : CIsF cl) (hcore : CCore cl) (hnear : CNear cl) {c : Cm} {H : AH} {K : AV → AH → Bool} (hk : ∀ H', Le H H' → K (.s (.bool (IsCm c))) H' = true) : B_cmd_Is lf cl (cmC c) H K = true := by
 unfold B_cmd_Is
 refine new_w fun ga H1 hL1 ha na ga1 => ?_
 have no : ∀ {H'}, Le H H' → IsCm c = false → K (.s (.bool false)) H' = true := fun h e => by have := hk _ h; rw [e] at this; exact this
 refine rowK_w ga1 (ldG_we (ys := fsC c) (lb rfl) (lb rfl) rfl ?_)
 refine loopX_w (fun x Hx => Le H Hx ∧ Hx.has ga ∧ Hx.get ga = some (.row (cmC c)) ∧ x.1 = .at ga 0 ∧ x.2.1 = fsC c ∧ ∃ i : Nat, x.2.2 = (i : Int) ∧ i ≤ 4 ∧ ∀ j, j < i → IsF (c.fs j) = true) (fun x => 4 - x.2.2.toNat) ⟨hL1, ha, ga1, rfl, rfl, 0, rfl, by omega, fun j h => absurd h (by omega)⟩ (by simp; omega) ?_
 clear ga1 ha hL1 na
 rintro self ⟨x1, x2, x3⟩ H1 ⟨hL1, ha, ga1, e1, e2, i, e3, hi, hall⟩ ih
 simp only at e1 e2 e3
 subst e1 e2 e3
 simp only [pR_, fB_eq, iLt_dec]
 refine ifA_w (fun hx => ?_) (fun hx => ?_)
 ·have hx : i < 4 := by have h : (i : Int) < 4 := of_decide_eq_true hx; omega
  refine idxK_w (by omega) (by omega) ?_
  simp only [fN_eq, Int.toNat_natCast, Nat.mul_eq]
  refine ldG_we (by simp [fsC, fdC]; omega) (by decide) (fsC_at c i hx) (tmp_w rfl rfl fun g H2 hL2 hg ng g2 => ?_)
  refine rowK_w g2 (ldG_we (ys := fdC (c.fs i)) (by simp [fdC]) (by decide) rfl (hf _ _ _ fun H3 h3 => arB_w ?_))
  have hL13 := hL2.trans h3
  refine ifA_w (fun hb => no (hL1.trans hL13) (fs_no i hx (by simpa using hb))) (fun hb => ?_)
  rw [iAdd_]
  refine w64_w (by simp only [Int.ofNat_eq_natCast]; omega) (by simp only [Int.ofNat_eq_natCast]; omega) (ih _ _ ⟨hL1.trans hL13, hL13.has _ ha, (hL13.get _ ha).trans ga1, rfl, rfl, i + 1, by simp, by omega, fun j hj => ?_⟩ (by simp; omega))
  rcases (by omega : j < i ∨ j = i) with h | rfl
  ·exact hall j h
  ·simpa using hb
 ·have hx : i = 4 := by have h : ¬ (i : Int) < 4 := of_decide_eq_false hx; omega
  subst hx
  have hfs : fldB c = true := fs_all hall
  have eC : ∀ {k w t p : Bool}, kindB c = k → whoB c = w → whatB c = t → placeB c = p → IsCm c = (k && (w && (t && p))) := fun h1 h2 h3 h4 => by unfold IsCm; rw [hfs, h1, h2, h3, h4]; rfl
  refine joinX_w (fun x Hx => Le H Hx ∧ Hx.has ga ∧ Hx.get ga = some (.row (cmC c)) ∧ x.1 = .at ga 0 ∧ x.2 = kindB c) ?_ ?_
  ·rintro ⟨x1, x2⟩ H2 ⟨hL2, ha2, ga2, e1, e2⟩
   simp only at e1 e2
   subst e1 e2
   simp only [pR_]
   refine joinX_w (fun x Hx => Hx = H2 ∧ x.1 = .at ga 0 ∧ x.2.1 = kindB c ∧ x.2.2 = whoB c) ?_ ?_
   ·rintro ⟨x1, x2, x3⟩ H3 ⟨e0, e1, e2, e3⟩
    simp only at e1 e2 e3
    subst e0 e1 e2 e3
    simp only [pR_]
    refine joinX_w (fun x Hx => Le H Hx ∧ Hx.has ga ∧ Hx.get ga = some (.row (cmC c)) ∧ x.1 = .at ga 0 ∧ x.2.1 = kindB c ∧ x.2.2.1 = whoB c ∧ x.2.2.2 = whatB c) ?_ ?_
    ·rintro ⟨x1, x2, x3, x4⟩ H4 ⟨hL4, ha4, ga4, e1, e2, e3, e4⟩
     simp only at e1 e2 e3 e4
     subst e1 e2 e3 e4
     simp only [pR_, nilK_at, fN_eq, Nat.add_eq, Nat.zero_add, Nat.add_zero]
     refine ifA_w (fun h1 => ?_) (fun h1 => no hL4 ((eC h1 rfl rfl rfl).trans rfl))
     refine ifA_w (fun h2 => ?_) (fun h2 => no hL4 ((eC h1 h2 rfl rfl).trans rfl))
     refine ifA_w (fun h3 => ?_) (fun h3 => no hL4 ((eC h1 h2 h3 rfl).trans rfl))
     refine rowK_w ga4 (ldI_w (n := c.pt.x) rfl (rowK_w ga4 (ldI_w (n := c.pt.y) rfl (rowK_w ga4 (ldI_w (n := c.r.x0) rfl (rowK_w ga4 (ldI_w (n := c.r.y0) rfl (rowK_w ga4 (ldI_w (n := c.r.x1) rfl (rowK_w ga4 (ldI_w (n := c.r.y1) rfl ?_)))))))))))
     refine new_w fun gl H5 h5 hl nl gl5 => ?_
     refine hnear H5 gl [c.pt.x, c.pt.y, c.r.x0, c.r.y0, c.r.x1, c.r.y1] _ hl gl5 (by simp) fun b hb => arB_w ?_
     have := hk H5 (hL4.trans h5)
     rw [eC h1 h2 h3 rfl] at this
     rw [hb]
     exact this
    ·intro J hJ
     have hJ' : ∀ {b : Bool} {Hx}, Le H Hx → Hx.has ga → Hx.get ga = some (.row (cmC c)) → b = whatB c → J (.at ga 0, kindB c, whoB c, b) Hx = true := fun h1 h2 h3 h4 => hJ _ _ ⟨h1, h2, h3, rfl, rfl, rfl, h4⟩
     simp only [nilK_at, fN_eq, Nat.add_eq, Nat.zero_add, fB_eq, iLe_dec]
     refine rowK_w ga2 (ldI_w (n := c.id) rfl (ifA_w (fun h1 => ?_) (fun h1 => hJ' hL2 ha2 ga2 (by unfold whatB; rw [show decide (0 ≤ c.id) = false from h1]; rfl))))
     refine rowK_w ga2 (ldI_w (n := c.id) rfl (ifA_w (fun h2 => ?_) (fun h2 => hJ' hL2 ha2 ga2 (by unfold whatB; rw [show decide (c.id ≤ 1000000) = false from h2, Bool.false_and, Bool.and_false]))))
     refine rowK_w ga2 (ldI_w (n := c.which) rfl (ifA_w (fun h3 => ?_) (fun h3 => hJ' hL2 ha2 ga2 (by unfold whatB; rw [show decide (-1 ≤ c.which) = false from h3]; simp))))
     refine rowK_w ga2 (ldI_w (n := c.which) rfl (ifA_w (fun h4 => ?_) (fun h4 => hJ' hL2 ha2 ga2 (by unfold whatB; rw [show decide (c.which ≤ 100) = false from h4]; simp))))
     refine rowK_w ga2 (ldI_w (n := c.to_) rfl (ifA_w (fun h5 => ?_) (fun h5 => hJ' hL2 ha2 ga2 (by unfold whatB; rw [show decide (-1 ≤ c.to_) = false from h5]; simp))))
     refine rowK_w ga2 (ldI_w (n := c.to_) rfl (ifA_w (fun h6 => ?_) (fun h6 => hJ' hL2 ha2 ga2 (by unfold whatB; rw [show decide (c.to_ ≤ 100) = false from h6]; simp))))
     refine rowK_w ga2 (ldG_we (ys := fdC c.v) (lb rfl) (lb rfl) rfl (hf _ _ _ fun H4 h4' => arB_w ?_))
     refine hJ' (hL2.trans h4') (h4'.has _ ha2) ((h4'.get _ ha2).trans ga2) ?_
     unfold whatB
     rw [show decide (0 ≤ c.id) = true from h1, show decide (c.id ≤ 1000000) = true from h2, show decide (-1 ≤ c.which) = true from h3, show decide (c.which ≤ 100) = true from h4, show decide (-1 ≤ c.to_) = true from h5, show decide (c.to_ ≤ 100) = true from h6]; rfl
   ·intro J hJ
    have hJ' : ∀ {b : Bool}, b = whoB c → J (.at ga 0, kindB c, b) H2 = true := fun h4 => hJ _ _ ⟨rfl, rfl, rfl, h4⟩
    simp only [nilK_at, fN_eq, Nat.add_eq, Nat.zero_add, fB_eq, iLe_dec, iLt_dec]
    refine rowK_w ga2 (ldI_w (n := c.client) rfl (ifA_w (fun h1 => ?_) (fun h1 => hJ' (by unfold whoB; rw [show decide (0 ≤ c.client) = false from h1]; rfl))))
    refine rowK_w ga2 (ldI_w (n := c.client) rfl (ifA_w (fun h2 => ?_) (fun h2 => hJ' (by unfold whoB; rw [show decide (c.client < 4) = false from h2]; simp))))
    refine rowK_w ga2 (ldI_w (n := c.session) rfl (ifA_w (fun h3 => ?_) (fun h3 => hJ' (by unfold whoB; rw [show decide (0 ≤ c.session) = false from h3]; simp))))
    refine rowK_w ga2 (ldI_w (n := c.session) rfl (hJ' ?_))
    unfold whoB
    rw [show decide (0 ≤ c.client) = true from h1, show decide (c.client < 4) = true from h2, show decide (0 ≤ c.session) = true from h3]; rfl
  ·intro J hJ
   have hJ' : ∀ {b : Bool} {Hx}, Le H Hx → Hx.has ga → Hx.get ga = some (.row (cmC c)) → b = kindB c → J (.at ga 0, b) Hx = true := fun h1 h2 h3 h4 => hJ _ _ ⟨h1, h2, h3, rfl, h4⟩
   simp only [nilK_at, fN_eq, Nat.add_eq, Nat.zero_add, fB_eq, iLe_dec]
   refine rowK_w ga1 (ldI_w (n := c.kind) rfl (ifA_w (fun h1 => ?_) (fun h1 => hJ' hL1 ha ga1 (by unfold kindB; rw [show decide (1 ≤ c.kind) = false from h1]; rfl))))
   refine rowK_w ga1 (ldI_w (n := c.kind) rfl (ifA_w (fun h2 => ?_) (fun h2 => hJ' hL1 ha ga1 (by unfold kindB; rw [show decide (c.kind ≤ 8) = false from h2]; simp))))
   refine getK_w ga1 (rowK_w ga1 (ldG_we (ys := cmC c) (lb rfl) (lb rfl) rfl (rowK_w ga1 (ldG_we (ys := cmC c) (lb rfl) (lb rfl) rfl (hcore _ _ _ fun H2 h2' => ?_)))))
   have ga2 := (h2'.get _ ha).trans ga1
   refine okK_w (kSame_row ga2 (leafy_cm c) rfl) ?_
   rw [asG_]
   refine okK_w rfl ?_
   refine hJ' (hL1.trans h2') (h2'.has _ ha) ga2 ?_
   unfold kindB
   rw [show decide (1 ≤ c.kind) = true from h1, show decide (c.kind ≤ 8) = true from h2]; rfl
end Go.Proofs
end
section
namespace Go.Proofs
open Go Go.Vw Go.Vw.Ev
set_option linter.unusedVariables false
set_option linter.unusedSimpArgs false
noncomputable def fullT (L : List (Int × Th)) (p : Pt) : Bool := decide (8 ≤ (cellT L (ofC p)).length)
def awayB (a b : Pt) : Bool := !decide (ofC a = ofC b)
def CFull (cl : Cl) : Prop := ∀ H g L O p K, TT H g L O → L.length < 9000 → (∀ H', Le H H' → K (.s (.bool (fullT L p))) H' = true) → cl i_act_full [.s (.ptr (.at g 0)), .agg (ptC p)] H K = true
theorem B_act_full_ {lf : Nat} {cl : Cl} (hof : COfC cl) (hcell : CTCell cl) {H : AH} {g : Pn} {L : List (Int × Th)} {O : Pn → Prop} {p : Pt} {K : AV → AH → Bool} (tt : TT H g L O) (hl : L.length < 9000)
  (hk : ∀ H', Le H H' → K (.s (.bool (fullT L p))) H' = true) : B_act_full lf cl (.at g 0) (ptC p) H K = true := by
 unfold B_act_full
 refine new_w fun ga H1 h1 ha na ga1 => ?_
 refine rowK_w ga1 (ldG_we (ys := ptC p) (lb rfl) (lb rfl) rfl (hof _ _ _ fun H2 h2 => ?_))
 rw [tup2_]
 refine arI_w (arI_w ?_)
 have hL := h1.trans h2
 refine hcell H2 g L O _ _ (tt.le hL) (by omega) fun H3 p3 c3 z3 h3 sl3 => ?_
 rw [asSl_, fB_eq, iLe_dec]
 have := hk H3 (hL.trans h3)
 have e : fullT L p = decide (Int.ofNat 8 ≤ Int.ofNat (cellT L (ofC p)).length) := by
  unfold fullT
  by_cases h : 8 ≤ (cellT L (ofC p)).length
  ·rw [decide_eq_true h, decide_eq_true (by simp only [Int.ofNat_eq_natCast]; omega)]
  ·rw [decide_eq_false h, decide_eq_false (by simp only [Int.ofNat_eq_natCast]; omega)]
 rw [e] at this
 exact this
def CAway (cl : Cl) : Prop := ∀ a b H K, (∀ H', Le H H' → K (.s (.bool (awayB a b))) H' = true) → cl i_act_away [.agg (ptC a), .agg (ptC b)] H K = true
theorem B_act_away_ {lf : Nat} {cl : Cl} (hof : COfC cl) {a b : Pt} {H : AH} {K : AV → AH → Bool} (hk : ∀ H', Le H H' → K (.s (.bool (awayB a b))) H' = true) : B_act_away lf cl (ptC a) (ptC b) H K = true := by
 unfold B_act_away
 refine new_w fun ga H1 h1 ha na ga1 => new_w fun gb H2 h2 hb nb gb2 => ?_
 refine rowK_w ((h2.get _ ha).trans ga1) (ldG_we (ys := ptC a) (lb rfl) (lb rfl) rfl (hof _ _ _ fun H3 h3 => ?_))
 rw [tup2_]
 refine arI_w (arI_w ?_)
 refine rowK_w ((h3.get _ hb).trans gb2) (ldG_we (ys := ptC b) (lb rfl) (lb rfl) rfl (hof _ _ _ fun H4 h4 => ?_))
 rw [tup2_]
 refine arI_w (arI_w ?_)
 rw [fB_eq, iEq_dec]
 exact hk H4 (h1.trans (h2.trans (h3.trans h4)))
noncomputable def checkE (L : List (Int × Th)) (c : Cm) : Int :=
 if IsCm c = false ∨ 4 < c.kind then 11 else
 if c.kind = 1 ∧ ofE c.pt ≠ 0 then ofE c.pt else
 if c.kind = 1 ∧ (200 ≤ L.length ∨ fullT L c.pt = true) then 16 else
 if c.kind = 1 then 0 else
 if (aGet L c.id).isSome = false then 15 else
 if c.kind = 2 ∧ ofE c.pt ≠ 0 then ofE c.pt else
 if c.kind = 2 ∧ awayB (thOf L c.id).pt c.pt = true ∧ fullT L c.pt = true then 16 else
 if c.kind = 3 ∧ (c.which < 0 ∨ 4 ≤ c.which) then 18 else 0
def CCheck (cl : Cl) : Prop := ∀ H g L O c K, TT H g L O → L.length < 9000 → (∀ H', Le H H' → K (.s (.int .i64 (checkE L c))) H' = true) → cl i_act_Check [.s (.ptr (.at g 0)), .agg (cmC c)] H K = true
theorem B_act_Check_ {lf : Nat} {cl : Cl} (his : CIsCm cl) (hget : CTGet cl) (hof : COfC cl) (hlen : CTLen cl) (hfull : CFull cl) (haway : CAway cl) {H : AH} {g : Pn} {L : List (Int × Th)} {O : Pn → Prop} {c : Cm} {K : AV → AH → Bool} (tt : TT H g L O) (hl : L.length < 9000)
  (hk : ∀ H', Le H H' → K (.s (.int .i64 (checkE L c))) H' = true) : B_act_Check lf cl (.at g 0) (cmC c) H K = true := by
 unfold B_act_Check
 have fin : ∀ {Hx e}, Le H Hx → checkE L c = e → K (.s (.int .i64 e)) Hx = true := fun h e => by subst e; exact hk _ h
 refine new_w fun ga H1 h1 ha1 na ga1 => ?_
 refine rowK_w ga1 (ldG_we (ys := cmC c) (lb rfl) (lb rfl) rfl (his _ _ _ fun H2 h2 => arB_w ?_))
 have ga2 := (h2.get _ ha1).trans ga1
 have ha2 := h2.has _ ha1
 have hL2 := h1.trans h2
 rw [fB_eq]
 refine ifA_w (fun e => fin hL2 (by unfold checkE; rw [if_pos (.inl (by simpa using e))]; rfl)) (fun e1 => ?_)
 have hIs : IsCm c = true := by simpa using e1
 refine rowK_w ga2 (ldI_w (n := c.kind) rfl ?_)
 rw [fB_eq, iLt_dec]
 refine ifA_w (fun e => fin hL2 (by unfold checkE; rw [if_pos (.inr (of_decide_eq_true e))]; rfl)) (fun e2 => ?_)
 have hk4 : ¬ (IsCm c = false ∨ 4 < c.kind) := fun h => h.elim (fun h => by rw [hIs] at h; cases h) (of_decide_eq_false e2)
 refine rowK_w ga2 (ldI_w (n := c.id) rfl (hget H2 g L O _ _ (tt.le hL2) fun H3 h3 => ?_))
 rw [tup2_, asG_]
 refine arB_w (tmp_w rfl rfl fun gx H4 h4 hx4 nx gx4 => ?_)
 have ha4 := h4.has _ (h3.has _ ha2)
 have ga4 := (h4.get _ (h3.has _ ha2)).trans ((h3.get _ ha2).trans ga2)
 have hL4 := hL2.trans (h3.trans h4)
 refine rowK_w ga4 (ldG_we (ys := ptC c.pt) (lb rfl) (lb rfl) rfl (hof _ _ _ fun H5 h5 => ?_))
 rw [tup2_]
 refine arI_w (arI_w ?_)
 have hL5 := hL4.trans h5
 refine joinX_w (fun x Hx => Le H Hx ∧ x.1 = .at g 0 ∧ x.2.1 = .at ga 0 ∧ x.2.2.1 = .at gx 0 ∧ x.2.2.2.1 = (aGet L c.id).isSome ∧ x.2.2.2.2.1 = ofE c.pt ∧ (x.2.2.2.2.2 = true ↔ c.kind = 1 ∧ ofE c.pt ≠ 0) ∧ Hx.has ga ∧ Hx.get ga = some (.row (cmC c)) ∧ Hx.has gx ∧ Hx.get gx = some (.row (thC (thOf L c.id)))) ?_ ?_
 ·clear hL5 h5 ga4 ha4 gx4 hx4 h4 h3 ga2 ha2 h2 ga1 ha1 h1 hL2 hL4
  rintro ⟨x1, x2, x3, x4, x5, x6⟩ H5 ⟨hL5, e1, e2, e3, e4, e5, e6, ha5, ga5, hx5, gx5⟩
  simp only at e1 e2 e3 e4 e5 e6
  subst e1 e2 e3 e4 e5
  simp only [pR_]
  refine ifA_w (fun h => fin hL5 (by unfold checkE; rw [if_neg hk4, if_pos (e6.1 h)])) (fun h => ?_)
  have n1 : ¬ (c.kind = 1 ∧ ofE c.pt ≠ 0) := fun h' => by rw [e6.2 h'] at h; cases h
  refine joinX_w (fun x Hx => Le H Hx ∧ x.1 = .at g 0 ∧ x.2.1 = .at ga 0 ∧ x.2.2.1 = .at gx 0 ∧ x.2.2.2.1 = (aGet L c.id).isSome ∧ x.2.2.2.2.1 = ofE c.pt ∧ (x.2.2.2.2.2 = true ↔ c.kind = 1 ∧ (200 ≤ L.length ∨ fullT L c.pt = true)) ∧ Hx.has ga ∧ Hx.get ga = some (.row (cmC c)) ∧ Hx.has gx ∧ Hx.get gx = some (.row (thC (thOf L c.id)))) ?_ ?_
  ·clear hL5 ga5 ha5 gx5 hx5
   rintro ⟨x1, x2, x3, x4, x5, x6⟩ H5 ⟨hL5, e1, e2, e3, e4, e5, e6, ha5, ga5, hx5, gx5⟩
   simp only at e1 e2 e3 e4 e5 e6
   subst e1 e2 e3 e4 e5
   simp only [pR_, nilK_at, fN_eq, Nat.add_eq, Nat.zero_add, Nat.add_zero]
   refine ifA_w (fun h => fin hL5 (by unfold checkE; rw [if_neg hk4, if_neg n1, if_pos (e6.1 h)]; rfl)) (fun h => ?_)
   have n2 : ¬ (c.kind = 1 ∧ (200 ≤ L.length ∨ fullT L c.pt = true)) := fun h' => by rw [e6.2 h'] at h; cases h
   refine rowK_w ga5 (ldI_w (n := c.kind) rfl ?_)
   rw [fB_eq, iEq_dec]
   refine ifA_w (fun h1 => fin hL5 (by unfold checkE; rw [if_neg hk4, if_neg n1, if_neg n2, if_pos (show c.kind = 1 from of_decide_eq_true h1)]; rfl)) (fun h1 => ?_)
   have n3 : ¬ c.kind = 1 := of_decide_eq_false h1
   rw [fB_eq]
   refine ifA_w (fun h1 => fin hL5 (by unfold checkE; rw [if_neg hk4, if_neg n1, if_neg n2, if_neg n3, if_pos (show (aGet L c.id).isSome = false by cases h : (aGet L c.id).isSome <;> rw [h] at h1 <;> first | rfl | cases h1)]; rfl)) (fun h1 => ?_)
   have n4 : ¬ (aGet L c.id).isSome = false := fun h => by rw [h] at h1; cases h1
   refine joinX_w (fun x Hx => Le H Hx ∧ x.1 = .at g 0 ∧ x.2.1 = .at ga 0 ∧ x.2.2.1 = .at gx 0 ∧ x.2.2.2.1 = ofE c.pt ∧ (x.2.2.2.2 = true ↔ c.kind = 2 ∧ ofE c.pt ≠ 0) ∧ Hx.has ga ∧ Hx.get ga = some (.row (cmC c)) ∧ Hx.has gx ∧ Hx.get gx = some (.row (thC (thOf L c.id)))) ?_ ?_
   ·clear hL5 ga5 ha5 gx5 hx5
    rintro ⟨x1, x2, x3, x4, x5⟩ H5 ⟨hL5, e1, e2, e3, e4, e6, ha5, ga5, hx5, gx5⟩
    simp only at e1 e2 e3 e4 e6
    subst e1 e2 e3 e4
    simp only [pR_]
    refine ifA_w (fun h => fin hL5 (by unfold checkE; rw [if_neg hk4, if_neg n1, if_neg n2, if_neg n3, if_neg n4, if_pos (e6.1 h)])) (fun h => ?_)
    have n5 : ¬ (c.kind = 2 ∧ ofE c.pt ≠ 0) := fun h' => by rw [e6.2 h'] at h; cases h
    refine joinX_w (fun x Hx => Le H Hx ∧ x.1 = .at ga 0 ∧ (x.2 = true ↔ c.kind = 2 ∧ awayB (thOf L c.id).pt c.pt = true ∧ fullT L c.pt = true) ∧ Hx.has ga ∧ Hx.get ga = some (.row (cmC c))) ?_ ?_
    ·clear hL5 ga5 ha5 gx5 hx5
     rintro ⟨x1, x2⟩ H5 ⟨hL5, e1, e6, ha5, ga5⟩
     simp only at e1 e6
     subst e1
     simp only [pR_, nilK_at, fN_eq, Nat.add_eq, Nat.zero_add, Nat.add_zero]
     refine ifA_w (fun h => fin hL5 (by unfold checkE; rw [if_neg hk4, if_neg n1, if_neg n2, if_neg n3, if_neg n4, if_neg n5, if_pos (e6.1 h)]; rfl)) (fun h => ?_)
     have n6 : ¬ (c.kind = 2 ∧ awayB (thOf L c.id).pt c.pt = true ∧ fullT L c.pt = true) := fun h' => by rw [e6.2 h'] at h; cases h
     have un : ∀ {e : Int}, (if c.kind = 3 ∧ (c.which < 0 ∨ 4 ≤ c.which) then (18 : Int) else 0) = e → checkE L c = e := fun h => by
      unfold checkE; rw [if_neg hk4, if_neg n1, if_neg n2, if_neg n3, if_neg n4, if_neg n5, if_neg n6]; exact h
     refine rowK_w ga5 (ldI_w (n := c.kind) rfl ?_)
     rw [fB_eq, iEq_dec]
     refine ifA_w (fun h3 => ?_) (fun h3 => fin hL5 (un (if_neg fun h => of_decide_eq_false h3 h.1)))
     have h3 : c.kind = 3 := of_decide_eq_true h3
     refine rowK_w ga5 (ldI_w (n := c.which) rfl ?_)
     rw [fB_eq, iLt_dec]
     refine ifA_w (fun h4 => fin hL5 (un (if_pos ⟨h3, .inl (of_decide_eq_true h4)⟩))) (fun h4 => ?_)
     refine rowK_w ga5 (ldI_w (n := c.which) rfl ?_)
     rw [fB_eq, iLe_dec]
     exact ifA_w (fun h5 => fin hL5 (un (if_pos ⟨h3, .inr (of_decide_eq_true h5)⟩))) (fun h5 => fin hL5 (un (if_neg fun h => h.2.elim (of_decide_eq_false h4) (of_decide_eq_false h5))))
    ·intro J hJ
     try simp only [nilK_at, fN_eq, Nat.add_eq, Nat.zero_add, Nat.add_zero]
     refine rowK_w ga5 (ldI_w (n := c.kind) rfl ?_)
     rw [fB_eq, iEq_dec]
     refine ifA_w (fun h2 => ?_) (fun h2 => hJ _ _ ⟨hL5, rfl, ⟨fun h => (by cases h), fun h => absurd h.1 (of_decide_eq_false h2)⟩, ha5, ga5⟩)
     have h2 : c.kind = 2 := of_decide_eq_true h2
     refine rowK_w gx5 (ldG_we (ys := ptC (thOf L c.id).pt) (by rw [thC_len]; decide) (by decide) (thC_1 _) (rowK_w ga5 (ldG_we (ys := ptC c.pt) (lb rfl) (lb rfl) rfl (haway _ _ _ _ fun H6 h6 => arB_w ?_))))
     have ga6 := (h6.get _ ha5).trans ga5
     have ha6 := h6.has _ ha5
     refine ifA_w (fun h7 => ?_) (fun h7 => hJ _ _ ⟨hL5.trans h6, rfl, ⟨fun h => (by cases h), fun h => by rw [h.2.1] at h7; cases h7⟩, ha6, ga6⟩)
     refine rowK_w ga6 (ldG_we (ys := ptC c.pt) (lb rfl) (lb rfl) rfl (hfull H6 g L O _ _ (tt.le (hL5.trans h6)) hl fun H7 h8 => arB_w ?_))
     exact hJ _ _ ⟨hL5.trans (h6.trans h8), rfl, ⟨fun h => ⟨h2, h7, h⟩, fun h => h.2.2⟩, h8.has _ ha6, (h8.get _ ha6).trans ga6⟩
   ·intro J hJ
    try simp only [nilK_at, fN_eq, Nat.add_eq, Nat.zero_add, Nat.add_zero]
    refine rowK_w ga5 (ldI_w (n := c.kind) rfl ?_)
    rw [fB_eq, iEq_dec]
    refine ifA_w (fun h2 => ?_) (fun h2 => hJ _ _ ⟨hL5, rfl, rfl, rfl, rfl, ⟨fun h => (by cases h), fun h => absurd h.1 (of_decide_eq_false h2)⟩, ha5, ga5, hx5, gx5⟩)
    rw [fB_eq, iEq_dec]
    exact hJ _ _ ⟨hL5, rfl, rfl, rfl, rfl, ⟨fun h => ⟨of_decide_eq_true h2, fun h' => by rw [h'] at h; cases h⟩, fun h => by rw [decide_eq_false (show ¬ ofE c.pt = Int.ofNat 0 from h.2)]; rfl⟩, ha5, ga5, hx5, gx5⟩
  ·intro J hJ
   try simp only [nilK_at, fN_eq, Nat.add_eq, Nat.zero_add, Nat.add_zero]
   refine rowK_w ga5 (ldI_w (n := c.kind) rfl ?_)
   rw [fB_eq, iEq_dec]
   refine ifA_w (fun h2 => ?_) (fun h2 => hJ _ _ ⟨hL5, rfl, rfl, rfl, rfl, rfl, ⟨fun h => (by cases h), fun h => absurd h.1 (of_decide_eq_false h2)⟩, ha5, ga5, hx5, gx5⟩)
   have h2 : c.kind = 1 := of_decide_eq_true h2
   refine hlen H5 g L O _ (tt.le hL5) (arI_w ?_)
   rw [fB_eq, iLe_dec]
   refine ifA_w (fun h3 => ?_) (fun h3 => ?_)
   ·have h3 := of_decide_eq_true h3
    exact hJ _ _ ⟨hL5, rfl, rfl, rfl, rfl, rfl, ⟨fun _ => ⟨h2, .inl (by simp only [Int.ofNat_eq_natCast] at h3; omega)⟩, fun _ => rfl⟩, ha5, ga5, hx5, gx5⟩
   ·have h3 := of_decide_eq_false h3
    refine rowK_w ga5 (ldG_we (ys := ptC c.pt) (lb rfl) (lb rfl) rfl (hfull H5 g L O _ _ (tt.le hL5) hl fun H7 h8 => arB_w ?_))
    exact hJ _ _ ⟨hL5.trans h8, rfl, rfl, rfl, rfl, rfl, ⟨fun h => ⟨h2, .inr h⟩, fun h => h.2.resolve_left (by simp only [Int.ofNat_eq_natCast] at h3; omega)⟩, h8.has _ ha5, (h8.get _ ha5).trans ga5, h8.has _ hx5, (h8.get _ hx5).trans gx5⟩
 ·intro J hJ
  have ga5 := (h5.get _ ha4).trans ga4
  have ha5 := h5.has _ ha4
  have gx5 := (h5.get _ hx4).trans gx4
  have hx5 := h5.has _ hx4
  refine rowK_w ga5 (ldI_w (n := c.kind) rfl ?_)
  rw [fB_eq, iEq_dec]
  refine ifA_w (fun h2 => ?_) (fun h2 => hJ _ _ ⟨hL5, rfl, rfl, rfl, rfl, rfl, ⟨fun h => (by cases h), fun h => absurd h.1 (of_decide_eq_false h2)⟩, ha5, ga5, hx5, gx5⟩)
  rw [fB_eq, iEq_dec]
  exact hJ _ _ ⟨hL5, rfl, rfl, rfl, rfl, rfl, ⟨fun h => ⟨of_decide_eq_true h2, fun h' => by rw [h'] at h; cases h⟩, fun h => by rw [decide_eq_false (show ¬ ofE c.pt = Int.ofNat 0 from h.2)]; rfl⟩, ha5, ga5, hx5, gx5⟩
end Go.Proofs
end
section
namespace Go.Proofs
open Go Go.Vw Go.Vw.Ev
set_option linter.unusedVariables false
set_option linter.unusedSimpArgs false
theorem TR.onK {H : AH} {g : Pn} {L : List (Int × Pt)} {O : Pn → Prop} (h : TR H g L O) : ∀ k ∈ aKeys L, On (posOf L k) = true ∧ 0 ≤ k ∧ k ≤ 9223372036854775807 := by
 obtain ⟨m, q, t, _⟩ := h
 exact fun k hk => ⟨on_sq.2 (t.inv.mem k (t.perm.mem_iff.2 hk)), t.kb k hk⟩
theorem TT.at {H : AH} {g : Pn} {L : List (Int × Th)} {O : Pn → Prop} (h : TT H g L O) {k : Int} (hk : (aGet L k).isSome = true) : (thOf L k).id = k ∧ On (thOf L k).pt = true ∧ 0 ≤ k ∧ k ≤ 9223372036854775807 := by
 obtain ⟨m, q, Lq, Oq, tb, rfl⟩ := h
 obtain ⟨t, ht⟩ := Option.isSome_iff_exists.1 hk
 have hm : k ∈ aKeys Lq := (tb.mem k).2 (mem_get.2 hk)
 obtain ⟨h1, h2⟩ := TR.onK tb.tr k hm
 have e : posOf Lq k = t.pt := by unfold posOf; rw [tb.pos, ht]; rfl
 unfold thOf
 rw [ht]
 exact ⟨tb.ok k t ht, by show On t.pt = true; rw [← e]; exact h1, h2⟩
def setF (t : Th) (i : Int) (v : Fd) : Th := if i = 0 then { t with f0 := v } else if i = 1 then { t with f1 := v } else if i = 2 then { t with f2 := v } else { t with f3 := v }
theorem setF_id (t : Th) (i : Int) (v : Fd) : (setF t i v).id = t.id ∧ (setF t i v).pt = t.pt := by
 unfold setF
 split
 ·exact ⟨rfl, rfl⟩
 split
 ·exact ⟨rfl, rfl⟩
 split <;> exact ⟨rfl, rfl⟩
theorem setF_C (t : Th) (v : Fd) : ∀ m : Nat, m < 4 → (thC t).take (3 + m * 2) ++ (fdC v ++ (thC t).drop (3 + m * 2 + 2)) = thC (setF t (m : Nat) v) := lt4 rfl rfl rfl rfl
structure Pre (L : List (Int × Th)) (c : Cm) : Prop where
 put : c.kind = 1 → On c.pt = true
 there : c.kind ≠ 1 → (aGet L c.id).isSome = true
 move : c.kind = 2 → On c.pt = true
 set : c.kind = 3 → 0 ≤ c.which ∧ c.which < 4
 kind : 1 ≤ c.kind ∧ c.kind ≤ 4
theorem ofE_on {p : Pt} (h : ¬ ofE p ≠ 0) : On p = true := by
 unfold ofE at h
 split at h
 ·assumption
 ·exact absurd (by decide) h
theorem pre_of {L : List (Int × Th)} {c : Cm} (h : checkE L c = 0 ∨ checkE L c = 16) : Pre L c := by
 have hne : ∀ {p : Pt}, ¬ (ofE p = 0 ∨ ofE p = 16) → ofE p ≠ 0 := fun h e => h (.inl e)
 have h14 : ∀ {p : Pt}, ofE p ≠ 0 → ¬ (ofE p = 0 ∨ ofE p = 16) := fun {p} h e => by
  unfold ofE at *
  split at h
  ·exact h rfl
  ·rename_i hp
   rw [if_neg hp] at e
   rcases e with e | e <;> exact absurd e (by decide)
 unfold checkE at h
 split at h
 ·rcases h with h | h <;> exact absurd h (by decide)
 rename_i n0
 have hk : IsCm c = true ∧ c.kind ≤ 4 := ⟨by cases e : IsCm c with
  | true => rfl
  | false => exact absurd (.inl e) n0, by
   rcases Int.lt_or_le 4 c.kind with h | h
   ·exact absurd (.inr h) n0
   ·exact h⟩
 have hk1 : 1 ≤ c.kind := by
  have := hk.1
  unfold IsCm kindB at this
  simp only [Bool.and_eq_true, decide_eq_true_eq] at this
  exact this.2.1.1
 split at h
 ·rename_i n1
  exact absurd h (h14 n1.2)
 rename_i n1
 by_cases k1 : c.kind = 1
 ·exact ⟨fun _ => ofE_on fun h => n1 ⟨k1, h⟩, fun h => absurd k1 h, fun h => by omega, fun h => by omega, hk1, hk.2⟩
 ·rw [if_neg fun h => k1 h.1, if_neg k1] at h
  split at h
  ·rcases h with h | h <;> exact absurd h (by decide)
  rename_i n4
  have hth : (aGet L c.id).isSome = true := by cases e : (aGet L c.id).isSome with
   | true => rfl
   | false => exact absurd e n4
  split at h
  ·rename_i n5
   exact absurd h (h14 n5.2)
  rename_i n5
  by_cases k2 : c.kind = 2
  ·exact ⟨fun h => absurd h k1, fun _ => hth, fun _ => ofE_on fun h => n5 ⟨k2, h⟩, fun h => by omega, hk1, hk.2⟩
  ·rw [if_neg fun h => k2 h.1] at h
   split at h
   ·rcases h with h | h <;> exact absurd h (by decide)
   rename_i n6
   exact ⟨fun h => absurd h k1, fun _ => hth, fun h => absurd h k2, fun h3 => by
    rcases Int.lt_or_le c.which 0 with h | h
    ·exact absurd ⟨h3, .inl h⟩ n6
    ·rcases Int.lt_or_le c.which 4 with h' | h'
     ·exact ⟨h, h'⟩
     ·exact absurd ⟨h3, .inr h'⟩ n6, hk1, hk.2⟩
def putT (c : Cm) (id : Int) : Th := ⟨id, c.pt, c.f0, c.f1, c.f2, c.f3⟩
def canPut (L : List (Int × Th)) (id : Int) : Bool := !(aGet L id).isSome && (decide (0 ≤ id) && decide (id ≤ 1000000))
def doneB (L : List (Int × Th)) (c : Cm) (id : Int) : Bool := if c.kind = 1 then canPut L id else true
def doneN (L : List (Int × Th)) (c : Cm) (id : Int) : Int := if c.kind = 1 then (if canPut L id = true then id else 0) else c.id
def doneL (L : List (Int × Th)) (c : Cm) (id : Int) : List (Int × Th) :=
 if c.kind = 1 then (if canPut L id = true then aSet L id (putT c id) else L) else
 if c.kind = 2 then aSet L c.id { thOf L c.id with pt := c.pt } else
 if c.kind = 3 then aSet L c.id (setF (thOf L c.id) c.which c.v) else aDel L c.id
def CDone (cl : Cl) : Prop := ∀ H g L O c id K, TT H g L O → L.length < 9000 → Pre L c → (∀ H' O', Fr O H H' → TT H' g (doneL L c id) O' → (∀ a, O' a → O a ∨ ¬ H.has a) → K (.tup [.s (.int .i64 (doneN L c id)), .s (.bool (doneB L c id))]) H' = true) →
 cl i_act_Done [.s (.ptr (.at g 0)), .agg (cmC c), .s (.int .i64 id)] H K = true
theorem B_act_Done_ {lf : Nat} {cl : Cl} (hget : CTGet cl) (hlay : CTLay cl) (hdrop : CTDrop cl) {H : AH} {g : Pn} {L : List (Int × Th)} {O : Pn → Prop} {c : Cm} {id : Int} {K : AV → AH → Bool} (tt : TT H g L O) (hl : L.length < 9000) (pre : Pre L c)
  (hk : ∀ H' O', Fr O H H' → TT H' g (doneL L c id) O' → (∀ a, O' a → O a ∨ ¬ H.has a) → K (.tup [.s (.int .i64 (doneN L c id)), .s (.bool (doneB L c id))]) H' = true) : B_act_Done lf cl (.at g 0) (cmC c) id H K = true := by
 unfold B_act_Done
 refine new_w fun ga H1 h1 ha1 na ga1 => ?_
 refine rowK_w ga1 (ldI_w (n := c.id) rfl (hget H1 g L O _ _ (tt.le h1) fun H2 h2 => ?_))
 rw [tup2_, asG_]
 refine arB_w (tmp_w rfl rfl fun gx H3 h3 hx3 nx gx3 => ?_)
 have ha3 := h3.has _ (h2.has _ ha1)
 have ga3 := (h3.get _ (h2.has _ ha1)).trans ((h2.get _ ha1).trans ga1)
 have hL3 := h1.trans (h2.trans h3)
 have nHx : ¬ H.has gx := fun h => nx (h2.has _ (h1.has _ h))
 have nax : ga ≠ gx := fun e => nx (e ▸ h2.has _ ha1)
 refine joinX_w (fun x Hx => x.1 = .at g 0 ∧ x.2.1 = .at ga 0 ∧ x.2.2.1 = .at gx 0 ∧ x.2.2.2 = true ∧ Le H Hx ∧ Hx.has ga ∧ Hx.get ga = some (.row (cmC c)) ∧ ∃ t : Th, Hx.get gx = some (.row (thC t)) ∧ On t.pt = true ∧ t.id = c.id ∧ 0 ≤ c.id ∧ c.id ≤ 9223372036854775807 ∧ doneL L c id = aSet L c.id t ∧ c.kind ≠ 1) ?_ ?_
 ·rintro ⟨x1, x2, x3, x4⟩ H4 ⟨e1, e2, e3, e4, hL4, ha4, ga4, t, gx4, ton, tid, t0, t1, td, k1⟩
  simp only at e1 e2 e3 e4
  subst e1 e2 e3 e4
  simp only [pR_, nilK_at, fN_eq, Nat.add_eq, Nat.zero_add]
  refine rowK_w gx4 (ldG_we (by rw [thC_len]; decide) (by decide) (thC_all t) ?_)
  refine hlay H4 g L O t _ (tt.le hL4) ton (by omega) (by omega) hl fun H5 O5 f5 t5 o5 => ?_
  rw [tup0_]
  have na4 : ¬ O ga := fun h => na (tt.has _ h)
  refine rowK_w ((f5.get _ ha4 na4).trans ga4) (ldI_w (n := c.id) rfl ?_)
  have := hk H5 O5 ((hL4.fr _).trans f5 fun a h => .inl h) (by rw [td, ← tid]; exact t5) fun a h => (o5 a h).imp (fun h => h) fun h hh => h (hL4.has _ hh)
  unfold doneN doneB at this
  rw [if_neg k1, if_neg k1] at this
  exact this
 ·intro J hJ
  refine rowK_w ga3 (ldI_w (n := c.kind) rfl ?_)
  rw [fB_eq, iEq_dec]
  refine ifA_w (fun e1 => ?_) (fun e1 => ?_)
  ·have k1 : c.kind = 1 := of_decide_eq_true e1
   refine hget H3 g L O _ _ (tt.le hL3) fun H4 h4 => ?_
   rw [tup2_, asG_]
   refine arB_w (tmp_w rfl rfl fun gy H5 h5 hy5 ny gy5 => ?_)
   have hL5 := hL3.trans (h4.trans h5)
   have ga5 := (h5.get _ (h4.has _ ha3)).trans ((h4.get _ ha3).trans ga3)
   have no : canPut L id = false → K (.tup [.s (.int .i64 (Int.ofNat 0)), .s (.bool false)]) H5 = true := fun h => by
    have := hk H5 O (hL5.fr _) (by unfold doneL; rw [if_pos k1, if_neg (by rw [h]; decide)]; exact tt.le hL5) fun a h => .inl h
    unfold doneN doneB at this
    rw [if_pos k1, if_pos k1, if_neg (by rw [h]; decide), h] at this
    exact this
   refine ifA_w (fun e2 => no (by unfold canPut; rw [e2]; rfl)) (fun e2 => ?_)
   rw [fB_eq, iLt_dec]
   refine ifA_w (fun e3 => no (by unfold canPut; rw [decide_eq_false (show ¬ 0 ≤ id from by have h : id < 0 := of_decide_eq_true e3; omega)]; simp)) (fun e3 => ?_)
   rw [fB_eq, iLt_dec]
   refine ifA_w (fun e4 => no (by unfold canPut; rw [decide_eq_false (show ¬ id ≤ 1000000 from by have h : 1000000 < id := of_decide_eq_true e4; omega)]; simp)) (fun e4 => ?_)
   have b0 : 0 ≤ id := by have h : ¬ id < 0 := of_decide_eq_false e3; omega
   have b1 : id ≤ 1000000 := by have h : ¬ 1000000 < id := of_decide_eq_false e4; omega
   have hc : canPut L id = true := by unfold canPut; rw [e2, decide_eq_true b0, decide_eq_true b1]; rfl
   refine rowK_w ga5 (ldG_we (ys := ptC c.pt) (lb rfl) (lb rfl) rfl (rowK_w ga5 (ldG_we (ys := fsC c) (lb rfl) (lb rfl) rfl (okK_w rfl (okK_w rfl (fL_w ?_))))))
   rw [ap_eq, ap_eq, List.append_nil]
   refine hlay H5 g L O (putT c id) _ (tt.le hL5) (pre.put k1) b0 (by show id ≤ _; omega) hl fun H6 O6 f6 t6 o6 => ?_
   rw [tup0_]
   have := hk H6 O6 ((hL5.fr _).trans f6 fun a h => .inl h) (by unfold doneL; rw [if_pos k1, if_pos hc]; exact t6) fun a h => (o6 a h).imp (fun h => h) fun h hh => h (hL5.has _ hh)
   unfold doneN doneB at this
   rw [if_pos k1, if_pos k1, if_pos hc, hc] at this
   exact this
  have k1 : ¬ c.kind = 1 := of_decide_eq_false e1
  have hth := pre.there k1
  obtain ⟨tid, ton, t0, t1⟩ := tt.at hth
  rw [fB_eq, iEq_dec]
  refine ifA_w (fun e2 => ?_) (fun e2 => ?_)
  ·have k2 : c.kind = 2 := of_decide_eq_true e2
   refine rowK_w ga3 (ldG_we (ys := ptC c.pt) (lb rfl) (lb rfl) rfl ?_)
   refine stoN_we (ds := thC { thOf L c.id with pt := c.pt }) gx3 rfl (by rw [thC_len]; decide) rfl ?_
   exact hJ _ _ ⟨rfl, rfl, rfl, hth, hL3.put nHx _, has_put ha3, (get_put_ne nax).trans ga3, _, get_put _ _ _, pre.move k2, tid, t0, t1, by unfold doneL; rw [if_neg k1, if_pos k2], k1⟩
  have k2 : ¬ c.kind = 2 := of_decide_eq_false e2
  rw [fB_eq, iEq_dec]
  refine ifA_w (fun e3 => ?_) (fun e3 => ?_)
  ·have k3 : c.kind = 3 := of_decide_eq_true e3
   obtain ⟨w0, w1⟩ := pre.set k3
   refine rowK_w ga3 (ldI_w (n := c.which) rfl (rowK_w ga3 (ldG_we (ys := fdC c.v) (lb rfl) (lb rfl) rfl (idxK_w w0 (by omega) (fN_w ?_)))))
   obtain ⟨w, hw⟩ := Int.eq_ofNat_of_zero_le w0
   have hc := setF_C (thOf L c.id) c.v w (by omega)
   refine stoN_we (ds := thC (setF (thOf L c.id) c.which c.v)) gx3 rfl (by rw [thC_len, hw]; simp only [Int.toNat_natCast, Nat.add_eq, Nat.mul_eq]; omega) (by rw [hw]; exact hc) ?_
   obtain ⟨s1, s2⟩ := setF_id (thOf L c.id) c.which c.v
   exact hJ _ _ ⟨rfl, rfl, rfl, hth, hL3.put nHx _, has_put ha3, (get_put_ne nax).trans ga3, _, get_put _ _ _, by rw [s2]; exact ton, by rw [s1]; exact tid, t0, t1, by unfold doneL; rw [if_neg k1, if_neg k2, if_pos k3], k1⟩
  have k3 : ¬ c.kind = 3 := of_decide_eq_false e3
  rw [fB_eq, iEq_dec]
  refine ifA_w (fun e4 => ?_) (fun e4 => ?_)
  ·refine rowK_w ga3 (ldI_w (n := c.id) rfl (hdrop H3 g L O _ _ (tt.le hL3) fun H4 O4 f4 t4 o4 => arI_w ?_))
   have na4 : ¬ O ga := fun h => na (tt.has _ h)
   refine rowK_w ((f4.get _ ha3 na4).trans ga3) (ldI_w (n := c.id) rfl ?_)
   have := hk H4 O4 ((hL3.fr _).trans f4 fun a h => .inl h) (by unfold doneL; rw [if_neg k1, if_neg k2, if_neg k3]; exact t4) fun a h => (o4 a h).imp (fun h => h) fun h hh => h (hL3.has _ hh)
   unfold doneN doneB at this
   rw [if_neg k1, if_neg k1] at this
   rw [hth]
   exact this
  ·have h4 : ¬ c.kind = 4 := of_decide_eq_false e4
   have := pre.kind
   omega
theorem doneL_no {L : List (Int × Th)} {c : Cm} {id : Int} (h : doneB L c id = false) : doneL L c id = L := by
 unfold doneB at h
 split at h
 ·rename_i k1
  unfold doneL
  rw [if_pos k1, if_neg (by rw [h]; decide)]
 ·cases h
end Go.Proofs
end
section
namespace Go.Proofs
open Go Go.Vw Go.Vw.Ev
set_option linter.unusedVariables false
set_option linter.unusedSimpArgs false
structure Keep (H : AH) (O : Pn → Prop) (g : Pn) (b : AB) : Prop where
 has : H.has g
 get : H.get g = some b
 out : ¬ O g
def putC (p : Pt) : Cm := ⟨1, 0, 0, 0, p, fdZ, fdZ, fdZ, fdZ, fdZ, 0, 0, ⟨0, 0, 0, 0⟩⟩
theorem same_cm (c : Cm) : cellsEqA (cmC c) (cmC c) = true := by
 simp only [cmC, cellsEqA, cellEqA, iEq_dec, sEq_dec, decide_true]
theorem isF_Z : IsF fdZ = true := by simp [IsF, fdZ]
theorem isCm_put (p : Pt) : IsCm (putC p) = (nearB p.x && nearB p.y) := by
 have e : coreC (putC p) = putC p := rfl
 unfold IsCm fldB kindB whoB whatB placeB
 rw [e, same_cm]
 simp [putC, isF_Z, nearB]
theorem on_b {p : Pt} (h : On p = true) : 0 ≤ p.x ∧ p.x < 64 ∧ 0 ≤ p.y ∧ p.y < 64 := by unfold On at h; simpa only [Bool.and_eq_true, decide_eq_true_eq] using h
theorem on_of {p : Pt} (h0 : 0 ≤ p.x) (h1 : p.x < 64) (h2 : 0 ≤ p.y) (h3 : p.y < 64) : On p = true := by
 unfold On; rw [decide_eq_true h0, decide_eq_true h1, decide_eq_true h2, decide_eq_true h3]; rfl
theorem on_near {p : Pt} (h : On p = true) : (nearB p.x && nearB p.y) = true := by
 have := on_b h
 unfold nearB
 simp only [Bool.and_eq_true, decide_eq_true_eq]
 omega
theorem ofE_of {p : Pt} (h : On p = true) : ofE p = 0 := by unfold ofE; rw [if_pos h]
theorem check_put {L : List (Int × Th)} {p : Pt} (h : On p = true) (hl : L.length < 200) : checkE L (putC p) = if fullT L p = true then 16 else 0 := by
 unfold checkE
 rw [isCm_put, on_near h]
 simp only [show (putC p).kind = 1 from rfl, show (putC p).pt = p from rfl, ofE_of h]
 simp [Nat.not_le.2 hl]
theorem can_put {L : List (Int × Th)} {id : Int} (h0 : 0 ≤ id) (h1 : id ≤ 1000000) : canPut L id = !(aGet L id).isSome := by unfold canPut; rw [decide_eq_true h0, decide_eq_true h1]; simp
end Go.Proofs
end
section
namespace Go.Proofs
open Go Go.Vw Go.Vw.Ev
set_option linter.unusedVariables false
set_option linter.unusedSimpArgs false
theorem wrapu8 {n : Int} (h0 : 0 ≤ n) (h1 : n ≤ 255) : IntKind.wrap .u8 n = n := by
 obtain ⟨m, rfl⟩ := Int.eq_ofNat_of_zero_le h0
 have key : ∀ i : Fin 256, IntKind.wrap .u8 (i.val : Nat) = (i.val : Nat) := by decide +kernel
 exact key ⟨m, by omega⟩
theorem cellOf_b {p : Pt} (h : On p = true) : 0 ≤ cellOf p ∧ cellOf p < 16 := by
 have := on_b h
 exact cellAt_b (by omega) (by omega) (by omega) (by omega)
structure AllAt (L : List (Int × Th)) (p : Pt) (m : Nat) : Prop where
 len : L.length = m
 keys : ∀ k, k ∈ aKeys L ↔ 0 ≤ k ∧ k < m
 pt : ∀ k ∈ aKeys L, (thOf L k).pt = p
end Go.Proofs
end
