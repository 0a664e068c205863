import Derived.Test.YtmdidmoffcinjaaGreatDG
import Derived.Test.YtmdidmoffcinjaaGreatBR
section
namespace Go.Proofs
open Go Go.Vw Go.Vw.Ev
set_option linter.unusedVariables false
set_option linter.unusedSimpArgs false
set_option maxRecDepth 100000
def CLen0 (cl : Cl) : Prop := ∀ H K, K (.s (.int .i64 0)) H = true → cl i_math_bits_Len [.s (.int .u64 0)] H K = true
def CLen64 (cl : Cl) : Prop := ∀ H K, K (.s (.int .i64 0)) H = true → cl i_math_bits_Len64 [.s (.int .u64 0)] H K = true
theorem B_math_bits_Len64_ {lf : Nat} {cl : Cl} {H : AH} {K : AV → AH → Bool} (hk : K (.s (.int .i64 0)) H = true) : B_math_bits_Len64 lf cl 0 H K = true := by
 have e : B_math_bits_Len64 lf cl 0 H K = K (.s (.int .i64 0)) H := rfl
 rw [e]; exact hk
theorem B_math_bits_Len_ {lf : Nat} {cl : Cl} (h64 : CLen64 cl) {H : AH} {K : AV → AH → Bool} (hk : K (.s (.int .i64 0)) H = true) : B_math_bits_Len lf cl 0 H K = true := by
 unfold B_math_bits_Len
 exact h64 _ _ (arI_w hk)
def hcmpF : AV := .s (.func i_region_Region_leaves_1 [] [])
def CIns0 (cl : Cl) : Prop := ∀ H p c z K, K (.tup []) H = true → cl i_slices_insertionSortCmpFunc_Hand [.s (.slice p 0 c z), .s (.int .i64 (Int.ofNat 0)), .s (.int .i64 (Int.ofNat 0)), hcmpF] H K = true
theorem B_slices_insertionSortCmpFunc_Hand_ {lf : Nat} {cl : Cl} (hlf : 10 ≤ lf) {H : AH} {p : AP} {c : ACap} {z : Nat} {K : AV → AH → Bool} (hk : K (.tup []) H = true) : B_slices_insertionSortCmpFunc_Hand lf cl p 0 c z (Int.ofNat 0) (Int.ofNat 0) hcmpF H K = true := by
 unfold B_slices_insertionSortCmpFunc_Hand
 rw [iAdd_]
 refine w64_w (by decide) (by decide) ?_
 refine loopX_w (fun x Hx => Hx = H ∧ x = ((p, 0, c, z), Int.ofNat 0, Int.ofNat 0, hcmpF, Int.ofNat 0 + Int.ofNat 1)) (fun _ => 0) ⟨rfl, rfl⟩ (by omega) ?_
 rintro self x Hx ⟨rfl, rfl⟩ _
 simp only [pR_, fB_eq, iLt_dec]
 exact ifA_w (fun h => absurd (of_decide_eq_true h) (by decide)) (fun _ => hk)
def CPdq0 (cl : Cl) : Prop := ∀ H p c z K, K (.tup []) H = true → cl i_slices_pdqsortCmpFunc_Hand [.s (.slice p 0 c z), .s (.int .i64 (Int.ofNat 0)), .s (.int .i64 (Int.ofNat 0)), .s (.int .i64 0), hcmpF] H K = true
theorem B_slices_pdqsortCmpFunc_Hand_ {lf : Nat} {cl : Cl} (hlf : 10 ≤ lf) (hins : CIns0 cl) {H : AH} {p : AP} {c : ACap} {z : Nat} {K : AV → AH → Bool} (hk : K (.tup []) H = true) : B_slices_pdqsortCmpFunc_Hand lf cl p 0 c z (Int.ofNat 0) (Int.ofNat 0) 0 hcmpF H K = true := by
 unfold B_slices_pdqsortCmpFunc_Hand
 refine loopX_w (fun x Hx => Hx = H ∧ ∃ b1 b2, x = ((p, 0, c, z), Int.ofNat 0, Int.ofNat 0, 0, hcmpF, b1, b2)) (fun _ => 0) ⟨rfl, _, _, rfl⟩ (by omega) ?_
 rintro self x Hx ⟨rfl, b1, b2, rfl⟩ _
 simp only [pR_, fB_eq, iLe_dec, iSub_]
 refine w64_w (by decide) (by decide) ?_
 refine ifA_w (fun _ => ?_) (fun h => absurd (of_decide_eq_false h) (by decide))
 exact hins _ _ _ _ _ (by rw [tup0_]; exact hk)
def CSrt0 (cl : Cl) : Prop := ∀ H p c z K, K (.tup []) H = true → cl i_slices_SortFunc_Hand [.s (.slice p 0 c z), hcmpF] H K = true
theorem B_slices_SortFunc_Hand_ {lf : Nat} {cl : Cl} (hlen : CLen0 cl) (hpdq : CPdq0 cl) {H : AH} {p : AP} {c : ACap} {z : Nat} {K : AV → AH → Bool} (hk : K (.tup []) H = true) : B_slices_SortFunc_Hand lf cl p 0 c z hcmpF H K = true := by
 unfold B_slices_SortFunc_Hand
 rw [wrapK_eq]
 show cl i_math_bits_Len [.s (.int .u64 0)] H _ = true
 exact hlen _ _ (arI_w (hpdq _ _ _ _ _ (by rw [tup0_]; exact hk)))
def goneB (s : RgSt) (t : Th) : Bool := !hasB s (ofC t.pt)
noncomputable def goneL (s : RgSt) : List Th := ((allT s.th).map (thOf s.th)).filter (goneB s)
def dropT (L : List (Int × Th)) (l : List Th) : List (Int × Th) := l.foldl (fun L t => aDel L t.id) L
noncomputable def leavesS (s : RgSt) : RgSt := { s with beat := s.beat + 1, took := 0, watch := [], hands := [], th := dropT s.th (goneL s), was := (allT (dropT s.th (goneL s))).map (thOf (dropT s.th (goneL s))), last := ⟨s.id, s.beat, goneL s, s.hands, [], s.watch⟩ }
theorem aDel_le (L : List (Int × Th)) (k : Int) : (aDel L k).length ≤ L.length := by
 induction L with
 | nil => exact Nat.le_refl 0
 | cons x r ih => unfold aDel; split <;> simp <;> omega
theorem dropT_le : ∀ (l : List Th) (L : List (Int × Th)), (dropT L l).length ≤ L.length
 | [], _ => Nat.le_refl _
 | t :: r, L => by
  have := dropT_le r (aDel L t.id)
  have := aDel_le L t.id
  show (dropT (aDel L t.id) r).length ≤ _
  omega
theorem c48_six (f : Nat → AS) (u0 u1 u2 u3 u4 u5 : AS) : (c48 f).take 39 ++ ([u0, u1, u2, u3, u4, u5] ++ (c48 f).drop 45) = c48 (updA (updA (updA (updA (updA (updA f 39 u0) 40 u1) 41 u2) 42 u3) 43 u4) 44 u5) := rfl
def endQ (Q : Nat → Pn → Prop) (pm pw : AP) : Nat → Pn → Prop := fun i a =>
 if i = 0 then Q 0 a else if i = 4 then ownP pw a else if i = 38 then Q 38 a else if i = 41 then ownP pm a else if i = 42 then Q 36 a else if i = 44 then Q 35 a else if i = 45 then Q 45 a else if i = 46 then Q 46 a else if i = 47 then Q 47 a else False
theorem endQ_dis {Q : Nat → Pn → Prop} {pm pw : AP} (hd : ∀ i j a, Q i a → Q j a → i = j) (hm : ∀ i a, Q i a → ¬ ownP pm a) (hw : ∀ i a, Q i a → ¬ ownP pw a) (hmw : ∀ a, ownP pm a → ¬ ownP pw a) : ∀ i j a, endQ Q pm pw i a → endQ Q pm pw j a → i = j := by
 have key : ∀ i a, endQ Q pm pw i a → (i = 0 ∧ Q 0 a) ∨ (i = 4 ∧ ownP pw a) ∨ (i = 38 ∧ Q 38 a) ∨ (i = 41 ∧ ownP pm a) ∨ (i = 42 ∧ Q 36 a) ∨ (i = 44 ∧ Q 35 a) ∨ (i = 45 ∧ Q 45 a) ∨ (i = 46 ∧ Q 46 a) ∨ (i = 47 ∧ Q 47 a) := by
  intro i a h
  unfold endQ at h
  repeat' (split at h; · rename_i e; simp only [e, h, true_and, true_or, or_true, and_true, or_self])
  exact h.elim
 intro i j a h1 h2
 rcases key i a h1 with ⟨e1, q1⟩ | ⟨e1, q1⟩ | ⟨e1, q1⟩ | ⟨e1, q1⟩ | ⟨e1, q1⟩ | ⟨e1, q1⟩ | ⟨e1, q1⟩ | ⟨e1, q1⟩ | ⟨e1, q1⟩ <;>
 rcases key j a h2 with ⟨e2, q2⟩ | ⟨e2, q2⟩ | ⟨e2, q2⟩ | ⟨e2, q2⟩ | ⟨e2, q2⟩ | ⟨e2, q2⟩ | ⟨e2, q2⟩ | ⟨e2, q2⟩ | ⟨e2, q2⟩ <;>
 first
  | exact e1.trans e2.symm
  | exact absurd (hd _ _ a q1 q2) (by decide)
  | exact absurd q2 (hm _ a q1)
  | exact absurd q1 (hm _ a q2)
  | exact absurd q2 (hw _ a q1)
  | exact absurd q1 (hw _ a q2)
  | exact absurd q2 (hmw a q1)
  | exact absurd q1 (hmw a q2)
theorem endQ_all {Q : Nat → Pn → Prop} {pm pw : AP} {P : Pn → Prop} (hQ : ∀ i a, Q i a → P a) (hm : ∀ a, ownP pm a → P a) (hw : ∀ a, ownP pw a → P a) {i : Nat} {a : Pn} (h : endQ Q pm pw i a) : P a := by
 unfold endQ at h
 split at h
 ·exact hQ _ _ h
 split at h
 ·exact hw _ h
 split at h
 ·exact hQ _ _ h
 split at h
 ·exact hm _ h
 split at h
 ·exact hQ _ _ h
 split at h
 ·exact hQ _ _ h
 split at h
 ·exact hQ _ _ h
 split at h
 ·exact hQ _ _ h
 split at h
 ·exact hQ _ _ h
 ·exact h.elim
end Go.Proofs
end
section
namespace Go.Proofs
open Go Go.Vw Go.Vw.Ev
set_option linter.unusedVariables false
set_option linter.unusedSimpArgs false
set_option maxRecDepth 100000
def nilS : AS := .slice .nil 0 (.lit 0) 1
theorem gput_w {H : AH} {g : Pn} {f : Nat → AS} {k : Nat} {u : AS} {K : AH → Bool} (gg : H.get g = some (.row (c48 f))) (hk : k < 48) (hK : ∀ H', Fr (fun a => a = g) H H' → H'.get g = some (.row (c48 (updA f k u))) → K H' = true) : sto1 H g k u K = true := by
 refine sto1_w gg (by rw [c48_len]; exact hk) ?_
 rw [c48_set]
 exact hK _ ((Fr.refl (fun a => a = g) _).put (.inl rfl) _) (get_put _ _ _)
theorem gsix_w {H : AH} {g : Pn} {f : Nat → AS} {u0 u1 u2 u3 u4 u5 : AS} {K : AH → Bool} (gg : H.get g = some (.row (c48 f))) (hK : ∀ H', Fr (fun a => a = g) H H' → H'.get g = some (.row (c48 (updA (updA (updA (updA (updA (updA f 39 u0) 40 u1) 41 u2) 42 u3) 43 u4) 44 u5))) → K H' = true) : stoN H g 39 6 [u0, u1, u2, u3, u4, u5] K = true := by
 refine stoN_we gg rfl (by rw [c48_len]; decide) (c48_six _ _ _ _ _ _ _) ?_
 exact hK _ ((Fr.refl (fun a => a = g) _).put (.inl rfl) _) (get_put _ _ _)
theorem updA_self {α : Type} (f : Nat → α) (k : Nat) : updA f k (f k) = f := by
 funext i
 unfold updA
 split
 ·rename_i e; rw [e]
 ·rfl
theorem updA_updA {α : Type} (f : Nat → α) (k : Nat) (x y : α) : updA (updA f k x) k y = updA f k y := by
 funext i
 unfold updA
 split <;> rfl
theorem dropT_succ (L : List (Int × Th)) {l : List Th} {j : Nat} (h : j < l.length) : dropT L (l.take (j + 1)) = aDel (dropT L (l.take j)) (l[j]).id := by
 unfold dropT
 rw [List.take_succ_eq_append_getElem h, List.foldl_append]
 rfl
def CLeaves (cl : Cl) : Prop := ∀ H g s O K, RgS H g s O → Sm s → s.hands = [] → 0 ≤ s.beat ∧ s.beat ≤ 1000000 → (∀ H' r O', Fr O H H' → RgS H' g (leavesS s) O' → (∀ a, O' a → O a ∨ ¬ H.has a) → NOf H' r (leavesS s).last → (∀ a, ownNt r a → O' a) → K (.agg (rwC r)) H' = true) →
 cl i_region_Region_leaves [.s (.ptr (.at g 0))] H K = true
theorem B_region_Region_leaves_ {lf : Nat} {cl : Cl} (hlf : 100000 ≤ lf) (hsrt : CSrt0 cl) (hall : CTAll cl) (hof : COfC cl) (hhas : CHas cl) (hand : CHanded cl) (hcl : CCl 11 i_slices_Clone_Thing cl) (hdrop : CTDrop cl) {H : AH} {g : Pn} {s : RgSt} {O : Pn → Prop} {K : AV → AH → Bool}
  (rg : RgS H g s O) (sm : Sm s) (hh : s.hands = []) (hb : 0 ≤ s.beat ∧ s.beat ≤ 1000000)
  (hk : ∀ H' r O', Fr O H H' → RgS H' g (leavesS s) O' → (∀ a, O' a → O a ∨ ¬ H.has a) → NOf H' r (leavesS s).last → (∀ a, ownNt r a → O' a) → K (.agg (rwC r)) H' = true) : B_region_Region_leaves lf cl (.at g 0) H K = true := by
 unfold B_region_Region_leaves
 refine new_w fun g1 H1 h1 hg1 ng1 gg1 => ?_
 have rg1 := rg.le h1
 have rgH := rg
 obtain ⟨f, Q, rb, hg, gg, q0, ho⟩ := rg
 have qH : ∀ i a, Q i a → H.has a := rb.qh
 have hg_1 := h1.has _ hg
 have gg_1 := (h1.get _ hg).trans gg
 have hsth := sm.th
 obtain ⟨ph, ch, zh, e36, hch, srh⟩ := rb.s36
 obtain ⟨pw, cw, zw, e35, hcw, srw⟩ := rb.s35
 have l0 : s.hands.length = 0 := by rw [hh]; rfl
 obtain ⟨gt, e45, tt⟩ := rb.tab
 simp only [nilK_at, fN_eq, Nat.add_eq, Nat.zero_add, Nat.add_zero]
 refine getK_w gg_1 (rowK_w gg_1 (ldI_w (n := s.id) (by rw [c48_get _ (by decide), rb.i0]) ?_))
 refine getK_w gg_1 (rowK_w gg_1 (ldI_w (n := s.beat) (by rw [c48_get _ (by decide), rb.i2]) ?_))
 refine getK_w gg_1 (rowK_w gg_1 (ldSl_w (by rw [c48_get _ (by decide), e36]) ?_))
 refine getK_w gg_1 (rowK_w gg_1 (ldSl_w (by rw [c48_get _ (by decide), e35]) ?_))
 refine tmp_w rfl rfl fun gn H2 h2 hgn ngn ggn => ?_
 have h12 := h1.trans h2
 have ngnH : ¬ H.has gn := fun h => ngn (h1.has _ h)
 have d1n : g1 ≠ gn := fun e => ngn (e ▸ hg1)
 have dgn : g ≠ gn := fun e => ngnH (e ▸ hg)
 have dg1 : g ≠ g1 := fun e => ng1 (e ▸ hg)
 refine rowK_w ggn (ldSl_w (p := ph) (n := 0) (c := ch) (z := zh) (by rw [← l0]; rfl) ?_)
 refine hsrt _ _ _ _ _ ?_
 rw [tup0_]
 refine rowK_w ((h12.get _ hg).trans gg) (ldP_w (p := .at gt 0) (by rw [c48_get _ (by decide), e45]) ?_)
 refine hall _ _ _ _ _ (tt.le h12) (by omega) fun H3 p3 c3 z3 h3 sl3 => ?_
 rw [asSl_]
 have tsn := Sl.sr sl3
 have tsf : ∀ a, ownP p3 a → ¬ H2.has a := fun a ⟨o, e⟩ => by
  rcases sl3.rep with ⟨_, e'⟩ | ⟨g', e', _, _, _, ng'⟩
  ·rw [e'] at e; cases e
  ·rw [e'] at e; cases e; exact ng'
 have hn3 : (allT s.th).length < 9000 := by rw [allT_len]; exact hsth
 have hmt : ((allT s.th).map (thOf s.th)).length = (allT s.th).length := List.length_map _
 have hgl : goneL s = ((allT s.th).map (thOf s.th)).filter (goneB s) := rfl
 generalize hts : (allT s.th).map (thOf s.th) = ts at *
 generalize (allT s.th).length = n3 at *
 have h13 : Le H1 H3 := h2.trans h3
 refine loopX_w (fun x Hx => ∃ (i : Nat) (pm : AP) (cm : ACap) (zm : Nat), x = (.at g 0, .at g1 0, .at gn 0, (p3, n3, c3, z3), (n3 : Int), (i : Int)) ∧ i ≤ n3 ∧ Le H1 Hx ∧ Hx.has gn ∧ Hx.get gn = some (.row (rwC ⟨s.id, s.beat, .slice pm ((ts.take i).filter (goneB s)).length cm zm, f 36, nilS, f 35⟩)) ∧
   SR 11 Hx pm ((ts.take i).filter (goneB s)).length zm (thsC ((ts.take i).filter (goneB s))) ∧ CapOk cm ((ts.take i).filter (goneB s)).length ∧ (∀ a, ownP pm a → ¬ H2.has a ∧ ¬ ownP p3 a) ∧ SR 11 Hx p3 n3 z3 (thsC ts) ∧ ∀ a, H2.has a → Hx.has a) (fun x => n3 - x.2.2.2.2.2.toNat)
  ⟨0, .nil, .lit 0, 1, rfl, by omega, h13, h3.has _ hgn, ?_, SR.nil, Nat.le_refl 0, fun a ⟨o, e⟩ => (by cases e), tsn, h3.has⟩ (by simp; omega) ?_
 ·rw [(h3.get _ hgn).trans ggn, e36, e35]; rfl
 rintro self x Hx ⟨i, pm, cm, zm, rfl, hi, hL, hgnx, ggnx, srm, capm, om, srt, hmon⟩ ih
 have gx : Hx.get g = some (.row (c48 f)) := (hL.get _ hg_1).trans gg_1
 have pl36 : plain (f 36) = true := rb.s36.plain
 have pl35 : plain (f 35) = true := rb.s35.plain
 simp only [pR_, fB_eq, iLt_dec]
 refine ifA_w (fun hx => ?_) (fun hx => ?_)
 ·have hx : i < n3 := by have := of_decide_eq_true hx; omega
  have hxl : i < ts.length := by omega
  have hseg := flat_at thC_len' ts i hxl
  have tk : (ts.take (i + 1)).filter (goneB s) = (ts.take i).filter (goneB s) ++ (if goneB s ts[i] = true then [ts[i]] else []) := by
   rw [List.take_succ_eq_append_getElem hxl, List.filter_append, List.filter_cons, List.filter_nil]
  have hle := List.length_filter_le (goneB s) (ts.take i)
  rw [List.length_take] at hle
  generalize ts[i] = t at *
  generalize (ts.take i).filter (goneB s) = mv at *
  obtain ⟨b3, rfl, hb3, gb3⟩ := srt.at (by omega)
  have hfl := srt.1
  simp only [nilK_at, fN_eq, Nat.add_eq, Nat.mul_eq, Nat.zero_add, Nat.add_zero]
  refine idxK_w (by omega) (by omega) ?_
  rw [Int.toNat_natCast]
  refine rowK_w gb3 (ldG_we (ys := thC t) (by omega) (by decide) hseg ?_)
  refine tmp_w rfl rfl fun gc H4 h4 hgc ngc ggc => ?_
  refine rowK_w ggc (ldG_we (ys := ptC t.pt) (lb rfl) (by decide) rfl ?_)
  refine hof _ _ _ fun H5 h5 => ?_
  rw [tup2_]
  refine arI_w (arI_w ?_)
  refine hhas _ _ _ _ _ _ (rg1.le (hL.trans (h4.trans h5))) fun H6 h6 => arB_w ?_
  have h46 := h4.trans (h5.trans h6)
  have hL6 := hL.trans h46
  have gn6 := (h46.get _ hgnx).trans ggnx
  have hgn6 := h46.has _ hgnx
  refine ifA_w (fun hy => ?_) (fun hy => ?_)
  ·have hgo : goneB s t = true := hy
   rw [if_pos hgo] at tk
   refine rowK_w gn6 (ldSl_w (p := pm) (n := mv.length) (c := cm) (z := zm) rfl ?_)
   refine rowK_w (((h5.trans h6).get _ hgc).trans ggc) (ldG_we (ys := thC t) (lb rfl) (by decide) rfl ?_)
   refine okK_w rfl (fL_w ?_)
   rw [ap_eq, List.append_nil]
   refine okK_w rfl (newK_w (elK_w (ys := thC t) (get_new _ _) (lb rfl) rfl ?_))
   have hLn := h46.newr (.row (thC t))
   refine appS_w (srm.le hLn) (m := 1) rfl (by decide) (by omega) (by omega) fun g5 H7 ng5 f7 s7 => ?_
   have hgn7 := f7.has _ (hLn.has _ hgnx)
   have npm : ¬ ownP pm gn := fun h => (om gn h).1 hgn
   have gn7 := (f7.get _ (hLn.has _ hgnx) npm).trans ((hLn.get _ hgnx).trans ggnx)
   refine sto1_w gn7 (by simp [rwC]) ?_
   have hL7 : Le H1 H7 := ⟨fun a ha => f7.has a (hLn.has a (hL.has a ha)), fun a ha => (f7.get a (hLn.has a (hL.has a ha)) fun h => (om a h).1 (h2.has a ha)).trans ((hLn.get a (hL.has a ha)).trans (hL.get a ha))⟩
   have fg : Fr (fun a => a = gn) H7 (H7.put gn (.row ((rwC ⟨s.id, s.beat, .slice pm mv.length cm zm, f 36, nilS, f 35⟩).set 2 (.slice (.at g5 0) (mv.length + 1) (.of g5 0) 11)))) := (Fr.refl (fun a => a = gn) _).put (.inl rfl) _
   have ng5x : ¬ Hx.has g5 := fun h => ng5 (hLn.has _ h)
   rw [iAdd_]
   refine w64_w (by simp only [Int.ofNat_eq_natCast]; omega) (by simp only [Int.ofNat_eq_natCast]; omega) (ih _ _ ⟨i + 1, .at g5 0, .of g5 0, 11, by simp, by omega, hL7.put ngn _, hgn7, ?_, ?_, trivial, ?_, ?_, fun a ha => f7.has a (hLn.has a (hmon a ha))⟩ (by simp; omega))
   ·rw [get_put, tk]; simp [rwC]
   ·rw [tk, List.length_append, thsC, List.flatMap_append]
    refine SR.fr ?_ fg fun a ⟨o, e⟩ e' => by cases e; exact ng5x (e' ▸ hgnx)
    simpa [thsC] using s7
   ·rintro a ⟨o, e⟩
    cases e
    exact ⟨fun h => ng5x (hmon _ h), fun ⟨o', e'⟩ => by cases e'; exact ng5x hb3⟩
   ·exact ((srt.le hLn).fr f7 fun a ha h => (om a h).2 ha).fr fg fun a ⟨o, e⟩ e' => by cases e; exact (tsf b3 ⟨0, rfl⟩) (e' ▸ hgn)
  ·have hgo : goneB s t = false := by cases e : goneB s t with
    | false => rfl
    | true => exact absurd (show (!hasB s (ofC t.pt)) = true from e) (by rw [hy]; decide)
   rw [if_neg (by rw [hgo]; simp), List.append_nil] at tk
   refine rowK_w gn6 (ldSl_w (p := ph) (n := 0) (c := ch) (z := zh) (by show some (f 36) = _; rw [e36, l0]) ?_)
   have srh0 : SR 2 H ph 0 zh (hdsC []) := by rw [hh] at srh; exact srh
   refine hand _ _ _ _ _ _ _ _ (srh0.le ((h1.trans hL).trans h46)) (by decide) fun H7 h7 => arB_w ?_
   refine ifA_w (fun h => by cases h) (fun _ => ?_)
   have h47 := h46.trans h7
   rw [iAdd_]
   exact w64_w (by simp only [Int.ofNat_eq_natCast]; omega) (by simp only [Int.ofNat_eq_natCast]; omega) (ih _ _ ⟨i + 1, pm, cm, zm, by simp, by omega, hL.trans h47, h47.has _ hgnx, by rw [tk]; exact (h47.get _ hgnx).trans ggnx, by rw [tk]; exact srm.le h47, by rw [tk]; exact capm, om, srt.le h47, fun a ha => h47.has a (hmon a ha)⟩ (by simp; omega))
 ·have hx : i = n3 := by have := of_decide_eq_false hx; omega
  rw [hx, List.take_of_length_le (by omega), ← hgl] at ggnx srm capm
  have hmv : (goneL s).length ≤ n3 := by rw [hgl, ← hmt]; exact List.length_filter_le _ _
  clear ih tsn sl3 tsf srt
  generalize hmvd : goneL s = mv at *
  have hrp : (rwC ⟨s.id, s.beat, .slice pm mv.length cm zm, f 36, nilS, f 35⟩).all plain = true := by
   have e1 : plain (.slice pm mv.length cm zm) = true := (SF.mk' (fc := thC) rfl capm srm : SF 11 thC Hx _ mv).plain
   simp only [rwC, List.all_cons, List.all_nil, e1, pl36, pl35]; rfl
  simp only [nilK_at, fN_eq, Nat.add_eq, Nat.zero_add, Nat.add_zero]
  refine rowK_w ggnx (ldSl_w (p := pm) (n := mv.length) (c := cm) (z := zm) rfl ?_)
  refine getK_w ggnx (rowK_w ggnx (ldSl_w (p := .nil) (n := 0) (c := .lit 0) (z := 1) rfl ?_))
  refine hcl _ _ _ _ _ _ _ srm (by omega) fun H4 p4 c4 z4 h4 s4 k4 o4 => ?_
  refine okK_w (kSame_p ((h4.get _ hgnx).trans ggnx) hrp rfl) ?_
  rw [asSl_, elK_eq0]
  refine okK_w rfl ?_
  refine appT_w s4 k4 (ys := []) (m := 0) rfl (by omega) (by omega) fun p5 c5 z5 H5 f5 s5 k5 o5 => ?_
  have hx4 := hL.trans h4
  have hL5 : Le H1 H5 := ⟨fun a ha => f5.has a (hx4.has a ha), fun a ha => (f5.get a (hx4.has a ha) fun h => o4 a h (hL.has a ha)).trans (hx4.get a ha)⟩
  have hgn5 := f5.has _ (h4.has _ hgnx)
  have gn5 := (f5.get _ (h4.has _ hgnx) fun h => o4 _ h hgnx).trans ((h4.get _ hgnx).trans ggnx)
  have srm5 := (srm.le h4).fr f5 fun a ha h => o4 a h (srm.has a ha)
  have own5 : ∀ a, ownP p5 a → ¬ Hx.has a := fun a ha h => (o5 a ha).elim (fun h' => o4 a h' h) fun h' => h' (h4.has a h)
  have hl5 : Le H H5 := h1.trans hL5
  have pmH : ∀ a, ownP pm a → ¬ H.has a := fun a ha h => (om a ha).1 (h12.has _ h)
  have pmg1 : ∀ a, ownP pm a → a ≠ g1 := fun a ha e => (om a ha).1 (e ▸ h2.has _ hg1)
  rw [List.append_nil] at s5
  have rb5 := rb.fr (hl5.fr fun _ => False) fun _ _ _ _ h => h
  have g5 := (hl5.get _ hg).trans gg
  have hg5 := hl5.has _ hg
  have gg15 := (hL5.get _ hg1).trans gg1
  have hg15 := hL5.has _ hg1
  have q45g : ¬ Q 45 g := fun h => absurd (rb.dis 45 0 g h ((q0 g).2 rfl)) (by decide)
  have q45n : ¬ Q 45 gn := fun h => ngnH (qH _ _ h)
  have q451 : ¬ Q 45 g1 := fun h => ng1 (qH _ _ h)
  rw [Nat.add_zero] at s5 ⊢
  refine loopX_w (fun y Hy => ∃ (j : Nat) (X : Pn → Prop), y = (.at g 0, .at g1 0, .at gn 0, (p5, mv.length, c5, z5), (mv.length : Int), (j : Int)) ∧ j ≤ mv.length ∧ RB Hy { s with th := dropT s.th (mv.take j) } f (updA Q 45 X) ∧ Fr (Q 45) H5 Hy ∧ (∀ a, X a → Q 45 a ∨ ¬ H5.has a)) (fun y => mv.length - y.2.2.2.2.2.toNat)
   ⟨0, Q 45, rfl, by omega, by rw [updA_self]; exact rb5, Fr.refl _ _, fun a h => .inl h⟩ (by simp; omega) ?_
  clear h4 s4 k4 o4 f5 hx4 o5 gx ggnx srm hgnx
  rintro self2 y Hy ⟨j, X, rfl, hj, rby, fy, xo⟩ ih2
  simp only [pR_, fB_eq, iLt_dec, nilK_at, fN_eq, Nat.add_eq, Nat.zero_add, Nat.add_zero, Nat.mul_eq]
  have gy := (fy.get _ hg5 q45g).trans g5
  have hgy := fy.has _ hg5
  refine ifA_w (fun hx2 => ?_) (fun hx2 => ?_)
  ·have hx2 : j < mv.length := by have := of_decide_eq_true hx2; omega
   have hseg := flat_at thC_len' mv j hx2
   have hds := dropT_succ s.th hx2
   have hsy := s5.fr fy fun a ha h => own5 a ha ((h1.trans hL).has _ (qH _ _ h))
   generalize mv[j] = t at *
   obtain ⟨b5, rfl, hb5, gb5⟩ := hsy.at (by omega)
   have hfl := hsy.1
   simp only [nilK_at, fN_eq, Nat.add_eq, Nat.zero_add, Nat.add_zero, Nat.mul_eq]
   refine idxK_w (by omega) (by omega) ?_
   rw [Int.toNat_natCast]
   refine rowK_w gb5 (ldG_we (ys := thC t) (by omega) (by decide) hseg ?_)
   refine tmp_w rfl rfl fun gc H6 h6 hgc ngc ggc => ?_
   refine rowK_w ((h6.get _ hgy).trans gy) (ldP_w (p := .at gt 0) (by rw [c48_get _ (by decide), e45]) ?_)
   refine rowK_w ggc (ldI_w (n := t.id) rfl ?_)
   have rb6 := rby.fr (h6.fr fun _ => False) fun _ _ _ _ h => h
   obtain ⟨gt', e45', tt6⟩ := rb6.tab
   obtain rfl : gt' = gt := by rw [e45] at e45'; cases e45'; rfl
   refine hdrop _ _ _ _ _ _ tt6 fun H7 O7 f7 t7 o7 => arI_w ?_
   have rb7 := rb6.tabOp e45 f7 t7 o7
   rw [updA_updA] at rb7
   rw [updA_same] at f7 o7
   rw [iAdd_]
   refine w64_w (by simp only [Int.ofNat_eq_natCast]; omega) (by simp only [Int.ofNat_eq_natCast]; omega) (ih2 _ _ ⟨j + 1, O7, by simp, by omega, by rw [hds]; exact rb7, (fy.trans (h6.fr _) fun _ h => .inl h).trans f7 fun a h => xo a h, fun a h => ?_⟩ (by simp; omega))
   rcases o7 a h with h | h
   ·exact xo a h
   ·exact .inr fun h' => h (h6.has _ (fy.has _ h'))
  ·have hx2 : j = mv.length := by have := of_decide_eq_false hx2; omega
   rw [hx2, List.take_length] at rby
   have gny := (fy.get _ hgn5 q45n).trans gn5
   have hgny := fy.has _ hgn5
   have g1y := (fy.get _ hg15 q451).trans gg15
   have hg1y := fy.has _ hg15
   have srmy := srm5.fr fy fun a ha h => pmH a ha (qH _ _ h)
   have hthl : (dropT s.th mv).length < 9000 := Nat.lt_of_le_of_lt (dropT_le mv s.th) hsth
   have hb1 := hb.1
   have hb2 := hb.2
   refine rowK_w gy (ldI_w (n := s.beat) (by rw [c48_get _ (by decide), rb.i2]) ?_)
   rw [iAdd_]
   refine w64_w (by simp only [Int.ofNat_eq_natCast]; omega) (by simp only [Int.ofNat_eq_natCast]; omega) ?_
   refine gput_w gy (by decide) fun K1 t1 y1 => ?_
   have kk : ∀ {Hz : AH}, Hz.get gn = some (.row (rwC ⟨s.id, s.beat, .slice pm mv.length cm zm, f 36, nilS, f 35⟩)) → (!kHas ((gn, .row (rwC ⟨s.id, s.beat, .slice pm mv.length cm zm, f 36, nilS, f 35⟩)) :: []) g && kSame ((gn, .row (rwC ⟨s.id, s.beat, .slice pm mv.length cm zm, f 36, nilS, f 35⟩)) :: []) Hz) = true := fun h => by
    rw [kHas_ne dgn rfl, kSame_p h hrp rfl]; rfl
   have gn1 := (t1.get _ hgny (Ne.symm dgn)).trans gny
   have hn1 := t1.has _ hgny
   refine getK_w gn1 (rowK_w gn1 (ldG_we (ys := rwC ⟨s.id, s.beat, .slice pm mv.length cm zm, f 36, nilS, f 35⟩) (by simp [rwC]) (by decide) rfl ?_))
   refine okK_w (kk gn1) ?_
   refine gput_w y1 (by decide) fun K2 t2 y2 => ?_
   have gn2 := (t2.get _ hn1 (Ne.symm dgn)).trans gn1
   have hn2 := t2.has _ hn1
   refine okK_w (kk gn2) ?_
   refine gput_w y2 (by decide) fun K3 t3 y3 => ?_
   have gn3 := (t3.get _ hn2 (Ne.symm dgn)).trans gn2
   have hn3' := t3.has _ hn2
   refine okK_w (kk gn3) ?_
   refine gput_w y3 (by decide) fun K4 t4 y4 => ?_
   have gn4 := (t4.get _ hn3' (Ne.symm dgn)).trans gn3
   have hn4 := t4.has _ hn3'
   refine gsix_w y4 fun K5 t5 y5 => ?_
   have gn5' := (t5.get _ hn4 (Ne.symm dgn)).trans gn4
   have hn5 := t5.has _ hn4
   have ft : Fr (fun a => a = g) Hy K5 := (((t1.trans t2 fun _ h => .inl h).trans t3 fun _ h => .inl h).trans t4 fun _ h => .inl h).trans t5 fun _ h => .inl h
   clear t1 t2 t3 t4 t5 gn1 gn2 gn3 gn4 hn1 hn2 hn3' hn4 y1 y2 y3 y4 K1 K2 K3 K4 kk
   have q0y : ∀ a, updA Q 45 X 0 a ↔ a = g := fun a => by rw [updA_ne _ _ (by decide)]; exact q0 a
   have rbk := rby.fr ft fun i a hi ha e => hi (rby.dis i 0 a ha ((q0y a).2 e))
   obtain ⟨gt', e45', ttk⟩ := rbk.tab
   obtain rfl : gt' = gt := by rw [e45] at e45'; cases e45'; rfl
   refine rowK_w y5 (ldP_w (p := .at gt' 0) (by rw [c48_get _ (by decide)]; exact congrArg some e45) ?_)
   refine hall _ _ _ _ _ ttk (by show (dropT s.th mv).length < 10000; omega) fun K6 pA cA zA h6 slA => ?_
   rw [asSl_]
   have y6 := (h6.get _ (ft.has _ hgy)).trans y5
   refine gput_w y6 (by decide) fun K7 t7 y7 => ?_
   have gn7 := (t7.get _ (h6.has _ hn5) (Ne.symm dgn)).trans ((h6.get _ hn5).trans gn5')
   refine rowK_w gn7 (ldG_we (ys := rwC ⟨s.id, s.beat, .slice pm mv.length cm zm, f 36, nilS, f 35⟩) (by simp [rwC]) (by decide) rfl ?_)
   have t57 : Fr (fun a => a = g) Hy K7 := (ft.trans (h6.fr _) fun _ h => .inl h).trans t7 fun _ h => .inl h
   have g17 := (t57.get _ hg1y (Ne.symm dg1)).trans g1y
   refine stoN_we (ds := rwC ⟨s.id, s.beat, .slice pm mv.length cm zm, f 36, nilS, f 35⟩) g17 rfl (by simp) (by simp [rwC]) ?_
   refine rowK_w (get_put _ _ _) (ldG_we (ys := rwC ⟨s.id, s.beat, .slice pm mv.length cm zm, f 36, nilS, f 35⟩) (by simp [rwC]) (by decide) rfl ?_)
   have t8 : Fr (fun a => a = g ∨ a = g1) Hy (K7.put g1 (.row (rwC ⟨s.id, s.beat, .slice pm mv.length cm zm, f 36, nilS, f 35⟩))) := (t57.mono fun a h => .inl h).put (.inl (.inr rfl)) _
   have fin1 : Fr (fun a => a = g1) K7 (K7.put g1 (.row (rwC ⟨s.id, s.beat, .slice pm mv.length cm zm, f 36, nilS, f 35⟩))) := (Fr.refl (fun a => a = g1) _).put (.inl rfl) _
   have y8 := (get_put_ne (H := K7) (b := .row (rwC ⟨s.id, s.beat, .slice pm mv.length cm zm, f 36, nilS, f 35⟩)) dg1).trans y7
   generalize K7.put g1 (.row (rwC ⟨s.id, s.beat, .slice pm mv.length cm zm, f 36, nilS, f 35⟩)) = K8 at *
   have Qy : ∀ i a, updA Q 45 X i a → O a ∨ ¬ H5.has a := fun i a h => by
    by_cases e : i = 45
    ·subst e
     rw [updA_same] at h
     exact (xo a h).imp (fun h => (ho a).2 ⟨45, h⟩) fun h => h
    ·rw [updA_ne _ _ e] at h
     exact .inl ((ho a).2 ⟨i, h⟩)
   have Qn1 : ∀ i a, updA Q 45 X i a → a ≠ g1 := fun i a h e => by
    subst e
    rcases Qy i _ h with h' | h'
    ·exact ng1 (rgH.has _ h')
    ·exact h' hg15
   have rb8 := rby.fr t8 fun i a hi ha e => by
    rcases e with e | e
    ·exact hi (rby.dis i 0 a ha ((q0y a).2 e))
    ·exact Qn1 i a ha e
   have slS : SR 11 K8 pA (allT (dropT s.th mv)).length zA (thsC ((allT (dropT s.th mv)).map (thOf (dropT s.th mv)))) := by
    have ne : ∀ a, ownP pA a → ¬ K5.has a := fun a ⟨o, e⟩ => by
     rcases slA.rep with ⟨_, e'⟩ | ⟨g', e', _, _, _, ng'⟩
     ·rw [e'] at e; cases e
     ·rw [e'] at e; cases e; exact ng'
    exact ((Sl.sr slA).fr t7 fun a ha e => ne a ha (e ▸ ft.has _ hgy)).fr fin1 fun a ha e => ne a ha (e ▸ ft.has _ hg1y)
   have nA : ∀ a, ownP pA a → ¬ Hy.has a := fun a ⟨o, e⟩ h => by
    rcases slA.rep with ⟨_, e'⟩ | ⟨g', e', _, _, _, ng'⟩
    ·rw [e'] at e; cases e
    ·rw [e'] at e; cases e; exact ng' (ft.has _ h)
   have srm8 : SR 11 K8 pm mv.length zm (thsC mv) := srmy.fr t8 fun a ha e => by
    rcases e with e | e
    ·exact pmH a ha (e ▸ hg)
    ·exact pmg1 a ha e
   have pmQ : ∀ i a, updA Q 45 X i a → ¬ ownP pm a := fun i a h hp => by
    rcases Qy i a h with h' | h'
    ·exact pmH a hp (rgH.has _ h')
    ·exact h' (srm5.has a hp)
   have pAQ : ∀ i a, updA Q 45 X i a → ¬ ownP pA a := fun i a h hp => nA a hp (rby.qh i a h)
   have pmA : ∀ a, ownP pm a → ¬ ownP pA a := fun a h hp => nA a hp (srmy.has a h)
   have lS : leavesS s = { s with beat := s.beat + 1, took := 0, watch := [], hands := [], th := dropT s.th mv, was := (allT (dropT s.th mv)).map (thOf (dropT s.th mv)), last := ⟨s.id, s.beat, mv, s.hands, [], s.watch⟩ } := by unfold leavesS; rw [hmvd]
   have l0' : s.hands.length = 0 := l0
   have s42 : SF 2 hdC K8 (f 36) s.hands := rb8.s36
   have s44 : SF 22 cmC K8 (f 35) s.watch := rb8.s35
   have s41 : SF 11 thC K8 (.slice pm mv.length cm zm) mv := SF.mk' rfl capm srm8
   have s43 : SF 11 thC K8 nilS ([] : List Th) := SF.nil
   have no8 : NOf K8 ⟨s.id, s.beat, .slice pm mv.length cm zm, f 36, nilS, f 35⟩ (leavesS s).last := by rw [lS]; exact ⟨rfl, rfl, s41, s42, s43, s44⟩
   have frO : Fr O H K8 := ⟨fun a ha => t8.has a (fy.has a (hl5.has a ha)), fun a ha hn => (t8.get a (fy.has a (hl5.has a ha)) fun e => e.elim (fun e => hn ((ho a).2 ⟨0, (q0 a).2 e⟩)) fun e => ng1 (e ▸ ha)).trans ((fy.get a (hl5.has a ha) fun h => hn ((ho a).2 ⟨45, h⟩)).trans (hl5.get a ha))⟩
   have plf : (c48 f).all plain = true := rb.pl
   have plA : plain (.slice pA (allT (dropT s.th mv)).length cA zA) = true := by
    rcases slA.rep with ⟨_, rfl⟩ | ⟨g', rfl, _⟩ <;> rfl
   have plM : plain (.slice pm mv.length cm zm) = true := s41.plain
   have rbF : RB K8 { s with beat := s.beat + 1, took := 0, watch := [], hands := [], th := dropT s.th mv, was := (allT (dropT s.th mv)).map (thOf (dropT s.th mv)), last := ⟨s.id, s.beat, mv, s.hands, [], s.watch⟩ } (updA (updA (updA (updA (updA (updA (updA (updA (updA (updA (updA f 2 (.int .i64 (s.beat + Int.ofNat 1))) 35 nilS) 36 nilS) 37 (.int .i64 (Int.ofNat 0))) 39 (.int .i64 s.id)) 40 (.int .i64 s.beat)) 41 (.slice pm mv.length cm zm)) 42 (f 36)) 43 nilS) 44 (f 35)) 4 (.slice pA (allT (dropT s.th mv)).length cA zA)) (endQ (updA Q 45 X) pm pA) :=
    {i0 := (rb8.i0 : f 0 = _), i1 := (rb8.i1 : f 1 = _), i2 := rfl, i34 := (rb8.i34 : f 34 = _), i37 := rfl, i39 := rfl, i40 := rfl
     s4 := ⟨pA, cA, zA, (by rw [List.length_map]; rfl), (by rw [List.length_map]; exact slS)⟩
     s35 := (SF.nil : SF 22 cmC K8 nilS []), s36 := (SF.nil : SF 2 hdC K8 nilS [])
     s38 := (rb8.s38 : SF 25 tkC K8 (f 38) s.order)
     s41 := s41, s42 := s42, s43 := s43, s44 := s44
     tab := ⟨gt', (e45 : f 45 = _), rb8.tab.elim fun g' h => by
      obtain ⟨e', t'⟩ := h
      rw [e45] at e'
      cases e'
      exact t'⟩
     own := rb8.own.imp fun g' h => ⟨(h.1 : f 46 = _), h.2.1, h.2.2⟩
     book := rb8.book.imp fun g' h => ⟨(h.1 : f 47 = _), h.2.1, h.2.2⟩
     q4 := fun a => Iff.rfl
     q35 := fun a => nil_own, q36 := fun a => nil_own
     q38 := fun a => (rb8.q38 a : _ ↔ ownA (f 38) a)
     q41 := fun a => Iff.rfl
     q42 := fun a => (rb8.q36 a : _ ↔ ownA (f 36) a)
     q43 := fun a => nil_own
     q44 := fun a => (rb8.q35 a : _ ↔ ownA (f 35) a)
     dis := endQ_dis rby.dis pmQ pAQ pmA
     qh := fun i a h => endQ_all (P := K8.has) rb8.qh srm8.has slS.has h
     pl := pl_upd (pl_upd (pl_upd (pl_upd (pl_upd (pl_upd (pl_upd (pl_upd (pl_upd (pl_upd (pl_upd plf rfl) rfl) rfl) rfl) rfl) rfl) plM) pl36) rfl) pl35) plA }
   refine hk K8 _ (fun a => ∃ i, endQ (updA Q 45 X) pm pA i a) frO ?_ ?_ no8 ?_
   ·rw [lS]
    exact ⟨_, endQ (updA Q 45 X) pm pA, rbF, t8.has _ hgy, y8, fun a => by unfold endQ; rw [if_pos rfl]; exact q0y a, fun _ => Iff.rfl⟩
   ·rintro a ⟨i, h⟩
    exact endQ_all (P := fun a => O a ∨ ¬ H.has a) (fun i a h => (Qy i a h).imp (fun h => h) fun h h' => h (hl5.has a h')) (fun a h => .inr (pmH a h)) (fun a h => .inr fun h' => nA a h (fy.has a (hl5.has a h'))) h
   ·rintro a (h | h | h | h)
    ·exact ⟨41, h⟩
    ·exact ⟨42, (rb.q36 a).2 h⟩
    ·exact (nil_own.2 h).elim
    ·exact ⟨44, (rb.q35 a).2 h⟩
end Go.Proofs
end
section
namespace Go.Proofs
open Go Go.Vw Go.Vw.Ev
set_option linter.unusedVariables false
set_option linter.unusedSimpArgs false
def CFrames0 (cl : Cl) : Prop := ∀ H g s O old p n c z K, RgS H g s O → s.th.length < 9000 → (∀ w ∈ s.wat, w.on = false) → (∀ H', Le H H' → K (.s (.slice .nil 0 (.lit 0) 1)) H' = true) → cl i_region_Region_frames [.s (.ptr (.at g 0)), .agg old, .s (.slice p n c z)] H K = true
theorem B_region_Region_frames_ {lf : Nat} {cl : Cl} (hlf : 10 ≤ lf) (hall : CTAll cl) (hbk : CBkAll cl) {H : AH} {g : Pn} {s : RgSt} {O : Pn → Prop} {old : List AS} {p : AP} {n z : Nat} {c : ACap} {K : AV → AH → Bool} (rg : RgS H g s O) (hl : s.th.length < 9000) (hoff : ∀ w ∈ s.wat, w.on = false)
  (hk : ∀ H', Le H H' → K (.s (.slice .nil 0 (.lit 0) 1)) H' = true) : B_region_Region_frames lf cl (.at g 0) old p n c z H K = true := by
 unfold B_region_Region_frames
 obtain ⟨f, Q, rb, hg, gg, q0, ho⟩ := rg
 obtain ⟨gt, e45, tt⟩ := rb.tab
 obtain ⟨gb, e47, bk, _⟩ := rb.book
 refine new_w fun g1 H1 h1 hg1 ng1 gg1 => ?_
 simp only [nilK_at, fN_eq, Nat.add_eq, Nat.zero_add]
 refine rowK_w ((h1.get _ hg).trans gg) (ldP_w (p := .at gt 0) (by rw [c48_get _ (by decide), e45]) ?_)
 refine hall _ _ _ _ _ (tt.le h1) (by omega) fun H2 p2 c2 z2 h2 sl2 => ?_
 rw [asSl_]
 have h12 := h1.trans h2
 refine rowK_w ((h12.get _ hg).trans gg) (ldP_w (p := .at gb 0) (by rw [c48_get _ (by decide), e47]) ?_)
 refine hbk _ _ _ _ (bk.le h12) fun H3 h3 => ?_
 rw [asG_]
 have hlen := bk.len
 refine loopX_w (fun x Hx => Le H Hx ∧ ∃ i : Nat, x = (.at g 0, (p, n, c, z), .at g1 0, (.nil, 0, .lit 0, 1), (p2, (allT s.th).length, c2, z2), wtsC s.wat, (i : Int)) ∧ i ≤ 4) (fun x => 4 - x.2.2.2.2.2.2.toNat) ⟨h12.trans h3, 0, rfl, by omega⟩ (by simp; omega) ?_
 rintro self x Hx ⟨hL, i, rfl, hi⟩ ih
 simp only [pR_, fB_eq, iLt_dec, fN_eq, Nat.mul_eq]
 refine ifA_w (fun hx => ?_) (fun _ => hk _ hL)
 have hx : i < 4 := by have := of_decide_eq_true hx; simp only [Int.ofNat_eq_natCast] at this; omega
 have hxl : i < s.wat.length := by omega
 have hseg := flat_at wtC_len s.wat i hxl
 have hon := hoff _ (List.getElem_mem hxl)
 generalize s.wat[i] = w at *
 refine idxK_w (by omega) (by omega) ?_
 rw [Int.toNat_natCast]
 refine ldG_we (ys := wtC w) (by rw [wtsC, flat_len wtC_len]; omega) (by decide) hseg ?_
 refine tmp_w rfl rfl fun g4 H4 h4 hg4 ng4 gg4 => ?_
 refine rowK_w gg4 (ldB_w (b := w.on) rfl ?_)
 rw [hon]
 refine ifA_w (fun _ => ?_) (fun h => by cases h)
 rw [iAdd_]
 exact w64_w (by simp only [Int.ofNat_eq_natCast]; omega) (by simp only [Int.ofNat_eq_natCast]; omega) (ih _ _ ⟨hL.trans h4, i + 1, by simp, by omega⟩ (by simp; omega))
def insM (x : Nt) : List Nt → List Nt
 | [] => [x]
 | y :: r => if keyS x.src < keyS y.src then y :: insM x r else x :: y :: r
def srtRvM : List Nt → List Nt → List Nt
 | acc, [] => acc
 | acc, x :: r => srtRvM (insM x acc) r
def srtM (l : List Nt) : List Nt := (srtRvM [] l).reverse
theorem insP_snd (x : Rw × Nt) (hx : x.1.src = x.2.src) : ∀ l : List (Rw × Nt), (∀ y ∈ l, y.1.src = y.2.src) → (insP x l).map (·.2) = insM x.2 (l.map (·.2))
 | [], _ => rfl
 | y :: r, h => by
  unfold insP
  rw [List.map_cons, insM, hx, h y (by simp)]
  split
  ·rw [List.map_cons, insP_snd x hx r fun z hz => h z (List.mem_cons_of_mem _ hz)]
  ·rfl
theorem srtRvP_snd : ∀ (l acc : List (Rw × Nt)), (∀ y ∈ l, y.1.src = y.2.src) → (∀ y ∈ acc, y.1.src = y.2.src) → (srtRvP acc l).map (·.2) = srtRvM (acc.map (·.2)) (l.map (·.2))
 | [], _, _, _ => rfl
 | x :: r, acc, h1, h2 => by
  rw [srtRvP, srtRvP_snd r _ (fun y hy => h1 y (List.mem_cons_of_mem _ hy)) (fun y hy => by
   rcases insP_mem x y acc hy with e | e
   ·rw [e]; exact h1 x (by simp)
   ·exact h2 y e), insP_snd x (h1 x (by simp)) acc h2, List.map_cons, srtRvM]
theorem heardL_snd {H : AH} {f : Nat → AS} {s : RgSt} {l : List (Rw × Nt)} (hl : ∀ x ∈ l, NOf H x.1 x.2 ∧ SmN x.2) : (heardL f s l).map (·.2) = srtM (l.map (·.2) ++ [s.last]) := by
 unfold heardL srtP srtM
 rw [List.map_reverse, srtRvP_snd]
 ·simp
 ·intro y hy
  rcases List.mem_append.1 hy with h | h
  ·exact (hl y h).1.src
  ·rw [List.mem_singleton] at h; subst h; rfl
 ·intro y hy; cases hy
def layT (L : List (Int × Th)) (l : List Th) : List (Int × Th) := l.foldl (fun L t => aSet L t.id t) L
theorem layT_succ (L : List (Int × Th)) {l : List Th} {j : Nat} (h : j < l.length) : layT L (l.take (j + 1)) = aSet (layT L (l.take j)) (l[j]).id l[j] := by
 unfold layT
 rw [List.take_succ_eq_append_getElem h, List.foldl_append]
 rfl
theorem aSet_leT : ∀ (L : List (Int × Th)) (k : Int) (v : Th), (aSet L k v).length ≤ L.length + 1
 | [], k, v => by simp [aSet]
 | x :: r, k, v => by
  have := aSet_leT r k v
  unfold aSet
  split
  ·simp
  ·simp only [List.length_cons]; omega
theorem layT_le : ∀ (l : List Th) (L : List (Int × Th)), (layT L l).length ≤ L.length + l.length
 | [], _ => Nat.le_refl _
 | t :: r, L => by
  have h1 := layT_le r (aSet L t.id t)
  have h2 : ∀ (L : List (Int × Th)) (k : Int) (v : Th), (aSet L k v).length ≤ L.length + 1 := fun L => by
   induction L with
   | nil => intro k v; simp [aSet]
   | cons x r ih =>
   intro k v; unfold aSet; split
   ·simp
   ·have := ih k v; simp only [List.length_cons]; omega
  have := h2 L t.id t
  show (layT (aSet L t.id t) r).length ≤ _
  rw [List.length_cons]
  omega
structure GoodT (t : Th) : Prop where
 on : On t.pt = true
 i0 : 0 ≤ t.id
 i1 : t.id ≤ 1000000
noncomputable def endS (s : RgSt) (nts : List Nt) : RgSt := leavesS { s with th := layT s.th (comesL s nts) }
structure Quiet (s : RgSt) : Prop where
 h : s.hands = []
 w : s.watch = []
 off : ∀ w ∈ s.wat, w.on = false
structure QuietN (nt : Nt) : Prop where
 h : nt.hands = []
 g : nt.given = []
 w : nt.watch = []
 good : ∀ t ∈ nt.moved, GoodT t
end Go.Proofs
end
section
namespace Go.Proofs
open Go Go.Vw Go.Vw.Ev
set_option linter.unusedVariables false
set_option linter.unusedSimpArgs false
def endN (s : RgSt) (l : List Nt) : List Nt := if s.beat = 0 then [] else srtM (l ++ [s.last])
def OkEnd (s : RgSt) (l : List Nt) : Prop := (s.beat = 0 ∧ l = []) ∨ (s.beat ≠ 0 ∧ chkN s 0 (srtM (l ++ [s.last])) = true ∧ ((l.length + 1 : Nat) : Int) = s.n)
theorem heard_ok {cl : Cl} (hh : CHeard cl) {H : AH} {g : Pn} {s : RgSt} {f : Nat → AS} {Q : Nat → Pn → Prop} {p : AP} {n z : Nat} {c : ACap} {l : List (Rw × Nt)} {K : AV → AH → Bool}
  (rb : RB H s f Q) (hg : H.has g) (gg : H.get g = some (.row (c48 f))) (sr : SR 6 H p n z ((l.map (·.1)).flatMap rwC)) (hl : ∀ x ∈ l, (NOf H x.1 x.2 ∧ SmN x.2) ∧ QuietN x.2) (hsl : SmN s.last) (hql : QuietN s.last) (hb0 : 0 ≤ s.beat ∧ s.beat ≤ 1000000) (hn : n < 3) (hok : OkEnd s (l.map (·.2)))
  (hk : ∀ Hh pN m cN zN (LN : List (Rw × Nt)), Le H Hh → SR 6 Hh pN m zN ((LN.map (·.1)).flatMap rwC) → (∀ x ∈ LN, (NOf Hh x.1 x.2 ∧ SmN x.2) ∧ QuietN x.2) → LN.map (·.2) = endN s (l.map (·.2)) → m ≤ 3 → K (.tup [.s (.slice pN m cN zN), .s (.bool true)]) Hh = true) :
  cl i_region_Region_heard [.s (.ptr (.at g 0)), .s (.slice p n c z)] H K = true := by
 have hln : l.length = n := by have := hds_n rwC_len (by decide) sr; rwa [List.length_map] at this
 refine hh H g s f Q p n c z l K rb hg gg sr (fun x hx => (hl x hx).1) hsl hb0 (by omega) (fun hz => ?_) (fun hz H' p' m c' z' b h' hT hF => ?_)
 ·rcases hok with ⟨_, h0⟩ | ⟨h, _⟩
  ·have hl0 : l = [] := List.map_eq_nil_iff.1 h0
   have hn0 : n = 0 := by rw [← hln, hl0]; rfl
   rw [decide_eq_true hn0]
   exact hk H .nil 0 _ 1 [] (Le.refl _) SR.nil (fun x hx => by cases hx) (by unfold endN; rw [if_pos hz]; rfl) (by omega)
  ·exact absurd hz h
 ·have hs := heardL_snd (f := f) (s := s) fun x hx => (hl x hx).1
  rcases hok with ⟨h, _⟩ | ⟨_, h1, h2⟩
  ·exact absurd h hz
  ·rw [List.length_map, hln] at h2
   cases b with
   | false =>
    have := hF rfl
    rw [hs, h1, Bool.true_and] at this
    exact absurd h2 (of_decide_eq_false this)
   | true =>
    obtain ⟨_, _, em, sr', _⟩ := hT rfl
    refine hk H' p' m c' z' (heardL f s l) h' sr' (fun x hx => ?_) (by rw [hs]; unfold endN; rw [if_neg hz]) (by omega)
    rcases List.mem_append.1 (srtP_mem hx) with h | h
    ·exact ⟨⟨(hl x h).1.1.le h', (hl x h).1.2⟩, (hl x h).2⟩
    ·rw [List.mem_singleton] at h; subst h
     exact ⟨⟨rb.last.le h', hsl⟩, hql⟩
theorem wts_leafy : ∀ l : List Wt, (wtsC l).all leafy = true
 | [] => rfl
 | w :: r => by
  show (wtC w ++ wtsC r).all leafy = true
  rw [List.all_append, wts_leafy r]; rfl
def CEnd0 (cl : Cl) : Prop := ∀ H g s O p n c z (l : List (Rw × Nt)) K, RgS H g s O → Sm s → s.th.length + (comesL s (endN s (l.map (·.2)))).length < 1000 → Quiet s → SmN s.last → QuietN s.last → (∀ t ∈ s.was, GoodT t) → s.was.length < 2000 → SR 6 H p n z ((l.map (·.1)).flatMap rwC) → (∀ x ∈ l, (NOf H x.1 x.2 ∧ SmN x.2) ∧ QuietN x.2) → n < 3 → 0 ≤ s.beat ∧ s.beat ≤ 1000000 → OkEnd s (l.map (·.2)) →
 (∀ H' r O', Fr O H H' → RgS H' g (endS s (endN s (l.map (·.2)))) O' → (∀ a, O' a → O a ∨ ¬ H.has a) → NOf H' r (endS s (endN s (l.map (·.2)))).last → (∀ a, ownNt r a → ¬ H.has a ∧ ¬ O' a) → K (.tup [.agg (rwC r), .s (.slice .nil 0 (.lit 0) 1), .s (.int .i64 0)]) H' = true) →
 cl i_region_Region_End [.s (.ptr (.at g 0)), .s (.slice p n c z)] H K = true
theorem B_region_Region_End_ {lf : Nat} {cl : Cl} (hlf : 100000 ≤ lf) (hheard : CHeard cl) (hbk : CBkAll cl) (htn : CTNew cl) (hlay : CTLay cl) (hcomes : CComes cl) (hall : CTAll cl) (hfr : CFrames0 cl) (hlv : CLeaves cl) (hcopy : CNCopy cl) {H : AH} {g : Pn} {s : RgSt} {O : Pn → Prop} {p : AP} {n z : Nat} {c : ACap} {l : List (Rw × Nt)} {K : AV → AH → Bool}
  (rg : RgS H g s O) (sm : Sm s) (hth : s.th.length + (comesL s (endN s (l.map (·.2)))).length < 1000) (qs : Quiet s) (hsl : SmN s.last) (hql : QuietN s.last) (hwas : ∀ t ∈ s.was, GoodT t) (hwl : s.was.length < 2000) (sr : SR 6 H p n z ((l.map (·.1)).flatMap rwC)) (hl : ∀ x ∈ l, (NOf H x.1 x.2 ∧ SmN x.2) ∧ QuietN x.2) (hn : n < 3) (hb0 : 0 ≤ s.beat ∧ s.beat ≤ 1000000) (hok : OkEnd s (l.map (·.2)))
  (hk : ∀ H' r O', Fr O H H' → RgS H' g (endS s (endN s (l.map (·.2)))) O' → (∀ a, O' a → O a ∨ ¬ H.has a) → NOf H' r (endS s (endN s (l.map (·.2)))).last → (∀ a, ownNt r a → ¬ H.has a ∧ ¬ O' a) → K (.tup [.agg (rwC r), .s (.slice .nil 0 (.lit 0) 1), .s (.int .i64 0)]) H' = true) :
  B_region_Region_End lf cl (.at g 0) p n c z H K = true := by
 unfold B_region_Region_End
 refine new_w fun g1 H1 h1 hg1 ng1 gg1 => ?_
 have rgH := rg
 have rg1 := rg.le h1
 obtain ⟨f, Q, rb, hg, gg, q0, ho⟩ := rg
 have rb1 := rb.fr (h1.fr fun _ => False) fun _ _ _ _ h => h
 refine heard_ok hheard rb1 (h1.has _ hg) ((h1.get _ hg).trans gg) (sr.le h1) (fun x hx => ⟨⟨(hl x hx).1.1.le h1, (hl x hx).1.2⟩, (hl x hx).2⟩) hsl hql hb0 hn hok fun H2 pN m cN zN LN h2 srN hN eN hm3 => ?_
 rw [← eN] at hk hth
 clear hl sr hok eN
 rw [tup2_, asSl_]
 refine arB_w ?_
 simp only [fB_eq]
 refine ifA_w (fun h => by cases h) (fun _ => ?_)
 have h02 := h1.trans h2
 obtain ⟨gb, e47, bk, _⟩ := rb.book
 simp only [nilK_at, fN_eq, Nat.add_eq, Nat.zero_add, Nat.add_zero]
 refine rowK_w ((h02.get _ hg).trans gg) (ldP_w (p := .at gb 0) (by rw [c48_get _ (by decide), e47]) ?_)
 refine hbk _ _ _ _ (bk.le h02) fun H3 h3 => ?_
 rw [asG_]
 have hwl4 : (wtsC s.wat).length = 28 := by rw [wtsC, flat_len wtC_len, bk.len]
 refine tmp_w hwl4 rfl fun go H4 h4 hgo ngo ggo => ?_
 have h34 := h3.trans h4
 have h04 := h02.trans h34
 have ngoH : ¬ H.has go := fun h => ngo ((h02.trans h3).has _ h)
 have srN4 := srN.le h34
 have hlnN : LN.length = m := by have := hds_n rwC_len (by decide) srN; rwa [List.length_map] at this
 have rdN : ∀ {Hx : AH} {i : Nat} (hi : i < m) {K' : Pn → AH → Bool}, Le H4 Hx → (∀ g' Hy, Le Hx Hy → Hy.has g' → Hy.get g' = some (.row (rwC (LN[i]'(by omega)).1)) → K' g' Hy = true) →
   nilK pN (fun g39 o40 => idxK (i : Int) m fun m41 => rowK Hx g39 fun cs43 => ldG cs43 (o40 + Nat.mul m41 6) 6 fun cs44 => newK Hx (.row [AS.int .i64 (Int.ofNat 0), AS.int .i64 (Int.ofNat 0), AS.slice AP.nil 0 (.lit 0) 1, AS.slice AP.nil 0 (.lit 0) 1, AS.slice AP.nil 0 (.lit 0) 1, AS.slice AP.nil 0 (.lit 0) 1]) fun g45 h46 => stoN h46 g45 0 6 cs44 fun h47 => K' g45 h47) = true := by
  intro Hx i hi K' hx hK
  obtain ⟨b, rfl, hb, gb'⟩ := srN4.at (by omega)
  have hx1 : i < (LN.map (·.1)).length := by rw [List.length_map]; omega
  have hseg := flat_at rwC_len (LN.map (·.1)) i hx1
  rw [List.getElem_map] at hseg
  have hfl := srN4.1
  simp only [nilK_at, fN_eq, Nat.add_eq, Nat.mul_eq, Nat.zero_add]
  refine idxK_w (by omega) (by omega) ?_
  rw [Int.toNat_natCast]
  refine rowK_w ((hx.get _ hb).trans gb') (ldG_we (ys := rwC (LN[i]'(by omega)).1) (by omega) (by decide) hseg ?_)
  exact tmp_w rfl rfl fun g' Hy hy hg' _ gg' => hK g' Hy hy hg' gg'
 refine loopX_w (fun x Hx => Le H4 Hx ∧ ∃ i : Nat, x = (.at g 0, .at g1 0, (pN, m, cN, zN), .at go 0, (pN, m, cN, zN), (m : Int), (i : Int)) ∧ i ≤ m) (fun x => m - x.2.2.2.2.2.2.toNat) ⟨Le.refl _, 0, rfl, by omega⟩ (by simp; omega) ?_
 rintro self x H5 ⟨hL5, i, rfl, hi⟩ ih
 simp only [pR_, iLt_dec]
 refine ifA_w (fun hx => ?_) (fun hx => ?_)
 ·have hx : i < m := by have := of_decide_eq_true hx; omega
  refine rdN hx hL5 fun g' Hy hy hg' gg' => ?_
  obtain ⟨⟨no, _⟩, qn⟩ := hN _ (List.getElem_mem (show i < LN.length by omega))
  obtain ⟨pw, cw, zw, ew, _, _⟩ := no.w
  rw [qn.w] at ew
  refine rowK_w gg' (ldSl_w (p := pw) (n := 0) (c := cw) (z := zw) (by show some (LN[i]'(by omega)).1.w = _; rw [ew]; rfl) ?_)
  refine loopX_w (fun y Hz => Hz = Hy ∧ y = (.at g 0, .at g1 0, (pN, m, cN, zN), .at go 0, (pN, m, cN, zN), (m : Int), (i : Int), (pw, 0, cw, zw), Int.ofNat 0, Int.ofNat 0)) (fun _ => 0) ⟨rfl, rfl⟩ (by omega) ?_
  rintro self2 y Hz ⟨rfl, rfl⟩ _
  simp only [pR_, iLt_dec]
  refine ifA_w (fun h => absurd (of_decide_eq_true h) (by decide)) (fun _ => ?_)
  rw [iAdd_]
  exact w64_w (by simp only [Int.ofNat_eq_natCast]; omega) (by simp only [Int.ofNat_eq_natCast]; omega) (ih _ _ ⟨hL5.trans hy, i + 1, by simp, by omega⟩ (by simp; omega))
 clear ih self hx hi i
 refine loopX_w (fun x Hx => Le H4 Hx ∧ ∃ i : Nat, x = (.at g 0, .at g1 0, (pN, m, cN, zN), .at go 0, (pN, m, cN, zN), (m : Int), (i : Int)) ∧ i ≤ m) (fun x => m - x.2.2.2.2.2.2.toNat) ⟨hL5, 0, rfl, by omega⟩ (by simp; omega) ?_
 clear hL5 H5
 rintro self x H5 ⟨hL5, i, rfl, hi⟩ ih
 simp only [pR_, iLt_dec]
 refine ifA_w (fun hx => ?_) (fun hx => ?_)
 ·have hx : i < m := by have := of_decide_eq_true hx; omega
  refine rdN hx hL5 fun g' Hy hy hg' gg' => ?_
  obtain ⟨⟨no, _⟩, qn⟩ := hN _ (List.getElem_mem (show i < LN.length by omega))
  obtain ⟨pw, cw, zw, ew, _, _⟩ := no.h
  rw [qn.h] at ew
  refine rowK_w gg' (ldSl_w (p := pw) (n := 0) (c := cw) (z := zw) (by show some (LN[i]'(by omega)).1.h = _; rw [ew]; rfl) ?_)
  refine loopX_w (fun y Hz => Hz = Hy ∧ y = (.at g 0, .at g1 0, (pN, m, cN, zN), .at go 0, .at g' 0, (pN, m, cN, zN), (m : Int), (i : Int), (pw, 0, cw, zw), Int.ofNat 0, Int.ofNat 0)) (fun _ => 0) ⟨rfl, rfl⟩ (by omega) ?_
  rintro self2 y Hz ⟨rfl, rfl⟩ _
  simp only [pR_, iLt_dec]
  refine ifA_w (fun h => absurd (of_decide_eq_true h) (by decide)) (fun _ => ?_)
  rw [iAdd_]
  exact w64_w (by simp only [Int.ofNat_eq_natCast]; omega) (by simp only [Int.ofNat_eq_natCast]; omega) (ih _ _ ⟨hL5.trans hy, i + 1, by simp, by omega⟩ (by simp; omega))
 clear ih self hx hi i rdN
 have h05 := h04.trans hL5
 refine htn _ _ fun H6 gB OB h6 tB oB => ?_
 rw [asP_]
 have h06 := h05.trans h6
 have oBH : ∀ a, OB a → ¬ H5.has a := oB
 obtain ⟨pW, cW, zW, e4, srW⟩ := rb.s4
 refine rowK_w ((h06.get _ hg).trans gg) (ldSl_w (by rw [c48_get _ (by decide), e4]) ?_)
 have srW6 := srW.le h06
 have hg1_5 := (h2.trans (h34.trans hL5)).has _ hg1
 have g1_5 := ((h2.trans (h34.trans hL5)).get _ hg1).trans gg1
 have go_5 := (hL5.get _ hgo).trans ggo
 have hgo_5 := hL5.has _ hgo
 refine loopX_w (fun x Hx => Le H5 Hx ∧ ∃ (i : Nat) (Lb : List (Int × Th)) (Ob : Pn → Prop), x = (.at g 0, .at g1 0, (pN, m, cN, zN), .at go 0, .at gB 0, (pW, s.was.length, cW, zW), (s.was.length : Int), (i : Int)) ∧ i ≤ s.was.length ∧ TT Hx gB Lb Ob ∧ (∀ a, Ob a → ¬ H5.has a) ∧ Lb.length ≤ i) (fun x => s.was.length - x.2.2.2.2.2.2.2.toNat)
  ⟨h6, 0, [], OB, rfl, by omega, tB, oB, Nat.le_refl _⟩ (by simp; omega) ?_
 clear tB oB oBH h6 h06 srW6 H6 OB
 rintro self x H6 ⟨h6, i, Lb, Ob, rfl, hi, tB, oB, hLb⟩ ih
 simp only [pR_, iLt_dec]
 refine ifA_w (fun hx => ?_) (fun hx => ?_)
 ·have hx : i < s.was.length := by have := of_decide_eq_true hx; omega
  have hseg := flat_at thC_len' s.was i hx
  have hgood := hwas _ (List.getElem_mem hx)
  have srW6 := srW.le (h05.trans h6)
  generalize s.was[i] = t at *
  obtain ⟨b, rfl, hb, gb'⟩ := srW6.at (by omega)
  have hfl := srW6.1
  simp only [nilK_at, fN_eq, Nat.add_eq, Nat.mul_eq, Nat.zero_add]
  refine idxK_w (by omega) (by omega) ?_
  rw [Int.toNat_natCast]
  refine rowK_w gb' (ldG_we (ys := thC t) (by omega) (by decide) hseg ?_)
  refine tmp_w rfl rfl fun gc H7 h7 hgc ngc ggc => ?_
  refine rowK_w ggc (ldG_we (ys := thC t) (lb rfl) (by decide) rfl ?_)
  refine hlay _ _ _ _ _ _ (tB.le h7) hgood.on hgood.i0 (by have := hgood.i1; omega) (by omega) fun H8 O8 f8 t8 o8 => ?_
  rw [tup0_, iAdd_]
  have h58 : Le H5 H8 := ⟨fun a ha => f8.has a (h7.has a (h6.has a ha)), fun a ha => (f8.get a (h7.has a (h6.has a ha)) fun h => oB a h ha).trans ((h7.get a (h6.has a ha)).trans (h6.get a ha))⟩
  exact w64_w (by simp only [Int.ofNat_eq_natCast]; omega) (by simp only [Int.ofNat_eq_natCast]; omega) (ih _ _ ⟨h58, i + 1, _, O8, by simp, by omega, t8, fun a ha h => (o8 a ha).elim (fun h' => oB a h' h) fun h' => h' (h7.has a (h6.has a h)), by have := aSet_leT Lb t.id t; omega⟩ (by simp; omega))
 have hLb2 : Lb.length < 2000 := by omega
 clear ih self hx hi hLb i
 have hcl := comes_le s (l := LN.map (·.2)) fun x hx => by
  obtain ⟨y, hy, rfl⟩ := List.mem_map.1 hx
  exact (hN y hy).1.2
 rw [List.length_map, hlnN] at hcl
 have h06 := h05.trans h6
 refine hcomes _ _ _ _ _ _ _ _ LN _ (rgH.le h06) (srN4.le (hL5.trans h6)) (fun x hx => ⟨(hN x hx).1.1.le (h34.trans (hL5.trans h6)), (hN x hx).1.2⟩) (by omega) fun H7 pC cC zC h7 srC oC => ?_
 rw [asSl_]
 have hgoodC : ∀ t ∈ comesL s (LN.map (·.2)), GoodT t := fun t ht => by
  unfold comesL at ht
  obtain ⟨h1, _⟩ := List.mem_filter.1 ht
  obtain ⟨nt, hnt, hmem⟩ := List.mem_flatMap.1 h1
  obtain ⟨x, hx, rfl⟩ := List.mem_map.1 hnt
  unfold bothT at hmem
  rw [(hN x hx).2.g, List.append_nil] at hmem
  exact (hN x hx).2.good t hmem
 have hend : endS s (LN.map (·.2)) = leavesS { s with th := layT s.th (comesL s (LN.map (·.2))) } := rfl
 generalize comesL s (LN.map (·.2)) = cm at *
 have h57 := h6.trans h7
 have h07 := h05.trans h57
 have rb7 := rb.fr (h07.fr fun _ => False) fun _ _ _ _ h => h
 have gg7 := (h07.get _ hg).trans gg
 have hg7 := h07.has _ hg
 have QH : ∀ i a, Q i a → H.has a := rb.qh
 have q45g : ¬ Q 45 g := fun h => absurd (rb.dis 45 0 g h ((q0 g).2 rfl)) (by decide)
 obtain ⟨gt, e45, _⟩ := rb.tab
 refine loopX_w (fun x Hx => ∃ (i : Nat) (Lb : List (Int × Th)) (Ob X : Pn → Prop), x = (.at g 0, .at g1 0, .at go 0, .at gB 0, (pC, cm.length, cC, zC), (cm.length : Int), (i : Int)) ∧ i ≤ cm.length ∧ TT Hx gB Lb Ob ∧ (∀ a, Ob a → ¬ H5.has a) ∧ Lb.length ≤ 2000 + i ∧
   RB Hx { s with th := layT s.th (cm.take i) } f (updA Q 45 X) ∧ Fr (Q 45) H5 Hx ∧ (∀ a, X a → Q 45 a ∨ ¬ H5.has a) ∧ (∀ a, X a → ¬ Ob a) ∧ SR 11 Hx pC cm.length zC (thsC cm) ∧ (∀ a, ownP pC a → ¬ Ob a ∧ ¬ X a ∧ ¬ H5.has a)) (fun x => cm.length - x.2.2.2.2.2.2.toNat)
  ⟨0, Lb, Ob, Q 45, rfl, by omega, tB.le h7, oB, by omega, by rw [updA_self]; exact rb7, h57.fr _, fun a h => .inl h, fun a h h' => oB a h' (h05.has a (QH _ _ h)), srC, fun a ha => ⟨fun h => oC a ha (tB.has a h), fun h => oC a ha (h06.has a (QH _ _ h)), fun h => oC a ha (h6.has a h)⟩⟩ (by simp; omega) ?_
 clear tB oB srC oC rb7 gg7 hg7 h57 h07 hLb2 h7 H7 h06 h6 H6 Lb Ob
 rintro self x H8 ⟨i, Lb, Ob, X, rfl, hi, tB, oB, hLb, rby, fy, xo, xb, srC, oC⟩ ih
 simp only [pR_, iLt_dec]
 have hcm : cm.length ≤ 6000 := by omega
 have q0y : ∀ a, updA Q 45 X 0 a ↔ a = g := fun a => by rw [updA_ne _ _ (by decide)]; exact q0 a
 have gg5 := (h05.get _ hg).trans gg
 have gg8 := (fy.get _ (h05.has _ hg) q45g).trans gg5
 have hg8 := fy.has _ (h05.has _ hg)
 have obR : ∀ i a, i ≠ 0 → updA Q 45 X i a → ¬ Ob a := fun i a _ h h' => by
  by_cases e : i = 45
  ·subst e
   rw [updA_same] at h
   exact xb a h h'
  ·rw [updA_ne _ _ e] at h
   exact oB a h' (h05.has a (QH _ _ h))
 refine ifA_w (fun hx => ?_) (fun hx => ?_)
 ·have hx : i < cm.length := by have := of_decide_eq_true hx; omega
  have hseg := flat_at thC_len' cm i hx
  have hgood := hgoodC _ (List.getElem_mem hx)
  have hls := layT_succ s.th hx
  have hll := layT_le (cm.take i) s.th
  rw [List.length_take] at hll
  generalize cm[i] = t at *
  obtain ⟨b, rfl, hb, gb'⟩ := srC.at (by omega)
  have hfl := srC.1
  simp only [nilK_at, fN_eq, Nat.add_eq, Nat.mul_eq, Nat.zero_add]
  refine idxK_w (by omega) (by omega) ?_
  rw [Int.toNat_natCast]
  refine rowK_w gb' (ldG_we (ys := thC t) (by omega) (by decide) hseg ?_)
  refine tmp_w rfl rfl fun gc H9 h9 hgc ngc ggc => ?_
  refine rowK_w ggc (ldG_we (ys := thC t) (lb rfl) (by decide) rfl ?_)
  have ht1 : t.id ≤ 9223372036854775807 := by have := hgood.i1; omega
  refine hlay _ _ _ _ _ _ (tB.le h9) hgood.on hgood.i0 ht1 (by omega) fun HA OA fA tA oA => ?_
  rw [tup0_]
  have hgcO : ¬ Ob gc := fun h => ngc (tB.has _ h)
  have gcA := (fA.get _ hgc hgcO).trans ggc
  have hgcA := fA.has _ hgc
  have hgOb : ¬ Ob g := fun h => oB g h (h05.has _ hg)
  have ggA := (fA.get _ (h9.has _ hg8) hgOb).trans ((h9.get _ hg8).trans gg8)
  refine rowK_w ggA (ldP_w (p := .at gt 0) (by rw [c48_get _ (by decide), e45]) ?_)
  refine rowK_w gcA (ldG_we (ys := thC t) (lb rfl) (by decide) rfl ?_)
  have rbA := (rby.fr (h9.fr fun _ => False) fun _ _ _ _ h => h).fr fA obR
  obtain ⟨gt', e45', ttA⟩ := rbA.tab
  obtain rfl : gt' = gt := by rw [e45] at e45'; cases e45'; rfl
  rw [updA_same] at ttA
  have e45A : updA Q 45 X 45 = X := updA_same _ _ _
  refine hlay HA gt' (layT s.th (cm.take i)) X t _ ttA hgood.on hgood.i0 ht1 (by omega) fun HB OB' fB' tB' oB' => ?_
  have rbB := rbA.tabOp e45 (by rw [e45A]; exact fB') tB' (by rw [e45A]; exact oB')
  rw [updA_updA] at rbB
  rw [tup0_, iAdd_]
  have OAx : ∀ a, OA a → ¬ X a := fun a ha hX => by
   rcases oA a ha with h | h
   ·exact xb a hX h
   ·exact h (h9.has _ (rby.qh 45 a (by rw [updA_same]; exact hX)))
  refine w64_w (by simp only [Int.ofNat_eq_natCast]; omega) (by simp only [Int.ofNat_eq_natCast]; omega) (ih _ _ ⟨i + 1, _, OA, OB', by simp, by omega, tA.fr fB' (fun a ha h => OAx a ha h), fun a ha h => ?_, ?_, by rw [hls]; exact rbB, ?_, fun a h => ?_, fun a h h' => ?_, ?_, fun a ha => ⟨fun h => ?_, fun h => ?_, (oC a ha).2.2⟩⟩ (by simp; omega))
  ·rcases oA a ha with h' | h'
   ·exact oB a h' h
   ·exact h' (h9.has _ (fy.has _ h))
  ·have := aSet_leT Lb t.id t; omega
  ·refine ⟨fun a ha => fB'.has a (fA.has a (h9.has a (fy.has a ha))), fun a ha hq => ?_⟩
   have n1 : ¬ Ob a := fun h => oB a h ha
   have n2 : ¬ X a := fun h => (xo a h).elim hq fun h' => h' ha
   exact (fB'.get a (fA.has a (h9.has a (fy.has a ha))) n2).trans ((fA.get a (h9.has a (fy.has a ha)) n1).trans ((h9.get a (fy.has a ha)).trans (fy.get a ha hq)))
  ·rcases oB' a h with h' | h'
   ·exact xo a h'
   ·exact .inr fun h'' => h' (fA.has _ (h9.has _ (fy.has _ h'')))
  ·rcases oB' a h with h1 | h1
   ·exact OAx a h' h1
   ·exact h1 (tA.has a h')
  ·exact ((srC.le h9).fr fA fun a ha h => (oC a ha).1 h).fr fB' fun a ha h => (oC a ha).2.1 h
  ·rcases oA a h with h' | h'
   ·exact (oC a ha).1 h'
   ·exact h' (h9.has _ (srC.has a ha))
  ·rcases oB' a h with h' | h'
   ·exact (oC a ha).2.1 h'
   ·exact h' (fA.has _ (h9.has _ (srC.has a ha)))
 have hx : i = cm.length := by have := of_decide_eq_false hx; omega
 rw [hx, List.take_length] at rby
 clear ih self hi srC oC
 have hth2 := layT_le cm s.th
 have q45o : ¬ Q 45 go := fun h => ngoH (QH _ _ h)
 have q451 : ¬ Q 45 g1 := fun h => ng1 (QH _ _ h)
 have go8 := (fy.get _ hgo_5 q45o).trans go_5
 have hgo8 := fy.has _ hgo_5
 have g18 := (fy.get _ hg1_5 q451).trans g1_5
 have hg18 := fy.has _ hg1_5
 simp only [nilK_at]
 refine getK_w go8 (rowK_w go8 (ldG_we (ys := wtsC s.wat) (by rw [hwl4]; decide) (by decide) (by rw [List.drop_zero, ← hwl4, List.take_length]) ?_))
 refine hall _ _ _ _ _ tB (by omega) fun H9 pA cA zA h9 slA => ?_
 refine okK_w (kSame_row ((h9.get _ hgo8).trans go8) (wts_leafy _) rfl) ?_
 rw [asSl_]
 have rg8 : RgS H8 g { s with th := layT s.th cm } (fun a => ∃ i, updA Q 45 X i a) := ⟨f, updA Q 45 X, rby, hg8, gg8, q0y, fun _ => Iff.rfl⟩
 refine hfr _ _ _ _ _ _ _ _ _ _ (rg8.le h9) (by show (layT s.th cm).length < 9000; omega) qs.off fun HC hC => ?_
 rw [asSl_]
 have h8C := h9.trans hC
 have smC : Sm { s with th := layT s.th cm } := ⟨by show (layT s.th cm).length < 9000; omega, sm.g0, sm.g1, sm.hl, sm.lhl, sm.ol, sm.t0⟩
 refine hlv _ _ _ _ _ (rg8.le h8C) smC qs.h hb0 fun HD r0 OD fD rgD oD noD wD => ?_
 rw [asG_]
 have Xo : ∀ a, (∃ i, updA Q 45 X i a) → O a ∨ ¬ H5.has a := fun a ⟨i, h⟩ => by
  by_cases e : i = 45
  ·subst e
   rw [updA_same] at h
   exact (xo a h).imp (fun h => (ho a).2 ⟨45, h⟩) fun h => h
  ·rw [updA_ne _ _ e] at h
   exact .inl ((ho a).2 ⟨i, h⟩)
 have hsmL : SmN (leavesS { s with th := layT s.th cm }).last := by
  refine ⟨?_, by show s.hands.length < 1000; rw [qs.h]; decide, by show (0 : Nat) < 1000; decide, by show s.watch.length < 1000; rw [qs.w]; decide⟩
  show (goneL { s with th := layT s.th cm }).length < 1000
  have := List.length_filter_le (goneB { s with th := layT s.th cm }) ((allT (layT s.th cm)).map (thOf (layT s.th cm)))
  rw [List.length_map, allT_len] at this
  unfold goneL
  refine Nat.lt_of_le_of_lt this ?_
  omega
 refine hcopy _ _ _ _ noD hsmL fun HE r hE noE oE => ?_
 rw [asG_]
 have nX1 : ¬ ∃ i, updA Q 45 X i g1 := fun h => (Xo g1 h).elim (fun h => ng1 (rgH.has _ h)) fun h => h hg1_5
 have hg1D := fD.has _ (h8C.has _ hg18)
 have g1D := (fD.get _ (h8C.has _ hg18) nX1).trans ((h8C.get _ hg18).trans g18)
 have g1E := (hE.get _ hg1D).trans g1D
 have nD1 : ¬ OD g1 := fun h => (oD g1 h).elim nX1 fun h => h (h8C.has _ hg18)
 refine stoN_we (ds := rwC r) g1E rfl (by simp) (by simp [rwC]) (rowK_w (get_put _ _ _) (ldG_we (ys := rwC r) (Nat.le_refl 6) (by decide) rfl ?_))
 have fF : Fr (fun a => a = g1) HE (HE.put g1 (.row (rwC r))) := (Fr.refl (fun a => a = g1) _).put (.inl rfl) _
 have h0C : ∀ a, H.has a → HC.has a := fun a ha => h8C.has a (fy.has a (h05.has a ha))
 rw [hend] at hk
 refine hk _ r OD ⟨fun a ha => fF.has a (hE.has a (fD.has a (h0C a ha))), fun a ha hn => ?_⟩ ((rgD.le hE).fr fF fun a ha e => nD1 (e ▸ ha)) (fun a ha => ?_) (noE.fr fF fun a ha e => oE a ha (e ▸ hg1D)) fun a ha => ⟨fun h => oE a ha (fD.has a (h0C a h)), fun h => oE a ha (rgD.has a h)⟩
 ·have n1 : a ≠ g1 := fun e => ng1 (e ▸ ha)
  have n2 : ¬ ∃ i, updA Q 45 X i a := fun h => (Xo a h).elim hn fun h => h (h05.has a ha)
  have n3 : ¬ Q 45 a := fun h => hn ((ho a).2 ⟨45, h⟩)
  exact (fF.get a (hE.has a (fD.has a (h0C a ha))) n1).trans ((hE.get a (fD.has a (h0C a ha))).trans ((fD.get a (h0C a ha) n2).trans ((h8C.get a (fy.has a (h05.has a ha))).trans ((fy.get a (h05.has a ha) n3).trans (h05.get a ha)))))
 ·rcases oD a ha with h | h
  ·exact (Xo a h).imp (fun h => h) fun h h' => h (h05.has a h')
  ·exact .inr fun h' => h (h0C a h')
end Go.Proofs
end
section
namespace Go.Proofs
open Go Go.Vw Go.Vw.Ev
set_option linter.unusedVariables false
set_option linter.unusedSimpArgs false
def OwOk (n : Int) (l : List (Int × Int)) : Prop := ∀ h ∈ l, 0 ≤ h.1 ∧ h.1 < n ∧ 0 ≤ h.2 ∧ h.2 ≤ 1073741824
def rowS (s : RgSt) (a3 a4 a5 a35 a36 a38 : AS) (r : Rw) : List AS := [.int .i64 s.id, .int .i64 s.n, .int .i64 s.beat, a3, a4, a5] ++ (wtsC s.wat ++ ([.int .i64 s.given, a35, a36, .int .i64 s.took, a38] ++ rwC r))
structure StV (H0 H : AH) (s : RgSt) (cs : List AS) : Prop where
 row : ∃ a3 a4 a5 a35 a36 a38 r, cs = rowS s a3 a4 a5 a35 a36 a38 r ∧ cs.all plain = true ∧ SW 11 thC H a3 ((allT s.th).map (thOf s.th)) ∧ (∃ b, a5 = .slice (.at b 0) 16 (.lit 16) 2 ∧ H.has b ∧ H.get b = some (.row (hdsC s.ow))) ∧
  SF 25 tkC H a38 s.order ∧ (∀ a, ownA a38 a → ¬ H0.has a)
structure SmS (s : RgSt) : Prop where
 th : s.th.length < 9000
 was : s.was.length ≤ 1000000
 w : s.watch.length ≤ 1000000
 h : s.hands.length ≤ 1000000
 o : s.order.length ≤ 1000000
 l : SmN s.last
end Go.Proofs
end
section
namespace Go.Proofs
open Go Go.Vw Go.Vw.Ev
set_option linter.unusedVariables false
set_option linter.unusedSimpArgs false
def RbV (P : Pn → Prop) (H : AH) (g : Pn) (beat : Int) (k : Nat) (L : List (Int × Th)) : Prop := ∃ cs gt Ot p c z ys, P g ∧ H.has g ∧ H.get g = some (.row cs) ∧ cs.length = 48 ∧ cs[2]? = some (.int .i64 beat) ∧ cs[38]? = some (.slice p k c z) ∧ SR 25 H p k z ys ∧ (∀ a, ownP p a → P a) ∧
 cs[45]? = some (.ptr (.at gt 0)) ∧ TT H gt L Ot ∧ ∀ a, Ot a → P a
structure OkS (s : RgSt) : Prop where
 n1 : 1 ≤ s.n
 n4 : s.n ≤ 4
 i0 : 0 ≤ s.id
 i1 : s.id < s.n
 b0 : 0 ≤ s.beat
 wl : s.wat.length = 4
 ol : s.ow.length = 16
 ow : OwOk s.n s.ow
 th : ∀ k ∈ allT s.th, GoodT (thOf s.th k)
end Go.Proofs
end
