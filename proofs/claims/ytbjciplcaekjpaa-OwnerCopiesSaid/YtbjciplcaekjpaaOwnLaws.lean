import Derived.Test.YtbjciplcaekjpaaOwnDed3
namespace Go.Proofs
open Go Go.Vw Go.Vw.Ev
set_option linter.unusedVariables false

def fl3 : List (Int × Int × Int) → List AS
  | [] => []
  | x :: r => .int .i64 x.1 :: .int .i64 x.2.1 :: .int .i64 x.2.2 :: fl3 r
theorem fl3_length : ∀ l, (fl3 l).length = 3 * l.length
  | [] => rfl
  | x :: r => by simp [fl3, fl3_length r]; omega
theorem fl3_leafy : ∀ l, (fl3 l).all leafy = true
  | [] => rfl
  | x :: r => by simp [fl3, leafy, fl3_leafy r]
theorem fl3_get : ∀ {l : List (Int × Int × Int)} {c : Nat} (h : c < l.length), (fl3 l)[3 * c]? = some (.int .i64 (l[c]).1) ∧ (fl3 l)[3 * c + 1]? = some (.int .i64 (l[c]).2.1) ∧ (fl3 l)[3 * c + 2]? = some (.int .i64 (l[c]).2.2)
  | x :: r, 0, _ => ⟨rfl, rfl, rfl⟩
  | x :: r, c + 1, h => by
    have := fl3_get (l := r) (c := c) (by simpa using h)
    rw [show 3 * (c + 1) = 3 * c + 1 + 1 + 1 by omega]
    exact this
def In3 (H : AH) (p : AP) (n : Nat) (l : List (Int × Int × Int)) : Prop := l.length = n ∧ (n ≠ 0 → ∃ g, p = .at g 0 ∧ H.has g ∧ H.get g = some (.fix (fl3 l)))
theorem In3.keep {H H' : AH} {p n l} (h : In3 H p n l) (k : ∀ a, H.has a → (∀ k l', ¬ Obj H a k l') → H'.has a ∧ H'.get a = H.get a) : In3 H' p n l :=
  ⟨h.1, fun hn => by
    obtain ⟨g, h1, h2, h3⟩ := h.2 hn
    have := k g h2 (fun k l' ho => by rw [ho.1] at h3; cases h3)
    exact ⟨g, h1, this.1, this.2.trans h3⟩⟩
theorem In3.le {H H' : AH} {p n l} (h : In3 H p n l) (k : Le H H') : In3 H' p n l := h.keep fun a ha _ => ⟨k.has a ha, k.get a ha⟩

def nxt (n : Int) (l : List (Int × Int)) (c f t : Int) : List (Int × Int) := if handE n l c f t = 0 then handL l c t else l
theorem nxt_length {n l c f t} (hl : l.length = 16) : (nxt n l c f t).length = 16 := by
  unfold nxt; split
  · simp [handL, hl]
  · exact hl
theorem hand_obj {H g n l c f t} (h : Obj H g n l) : Obj (handH H g n l c f t) g n (nxt n l c f t) := by
  unfold handH nxt; split
  · exact ⟨get_put _ _ _, has_put h.2⟩
  · exact h
theorem hand_ne {H g n l c f t} {a : Pn} (h : a ≠ g) : (handH H g n l c f t).get a = H.get a := by
  unfold handH; split
  · exact get_put_ne h
  · rfl
theorem hand_has {H g n l c f t} {a : Pn} (h : H.has a) : (handH H g n l c f t).has a := by
  unfold handH; split
  · exact has_put h
  · exact h
theorem hand_other {H g n l c f t} {a : Pn} {k m} (h : Obj H a k m) (hn : a ≠ g) : Obj (handH H g n l c f t) a k m := ⟨(hand_ne hn).trans h.1, hand_has h.2⟩
theorem hand_in3 {H g n l c f t p m s} (h : In3 H p m s) (ho : Obj H g n l) : In3 (handH H g n l c f t) p m s :=
  h.keep fun a ha hno => ⟨hand_has ha, hand_ne fun e => hno n l (e ▸ ho)⟩
def Bd (B : Nat) (l : List (Int × Int)) : Prop := ∀ x ∈ l, 0 ≤ x.2 ∧ x.2 ≤ B
theorem Bd.small {B : Nat} {l} (h : Bd B l) (hB : B ≤ 1000) : Small l := fun x hx => by have := h x hx; omega
theorem Bd.own {B : Nat} {l : List (Int × Int)} (h : Bd B l) (c : Int) : 0 ≤ (own l c).2 ∧ (own l c).2 ≤ B := by
  unfold Go.Proofs.own
  split
  · by_cases hc : c.toNat < l.length
    · have := h _ (List.getElem_mem hc)
      simpa [List.getD, hc] using this
    · simp [List.getD, hc]
  · simp
theorem Bd.mono {B B' : Nat} {l} (h : Bd B l) (hb : B ≤ B') : Bd B' l := fun x hx => by have := h x hx; omega
theorem Bd.nxt {B : Nat} {n l c f t} (h : Bd B l) : Bd (B + 1) (nxt n l c f t) := by
  unfold Go.Proofs.nxt; split
  · intro x hx
    rcases List.mem_or_eq_of_mem_set hx with hx | rfl
    · have := h x hx; omega
    · have := h.own c; simp only; omega
  · exact h.mono (by omega)
theorem initL_bd (k) : Bd 0 (initL k 16) := by
  intro x hx
  simp only [initL, List.mem_map] at hx
  obtain ⟨c, _, rfl⟩ := hx
  simp

theorem step3 {H : AH} {p : AP} {n : Nat} {l : List (Int × Int × Int)} (h : In3 H p n l) {i : Nat} (hi : i < n) : ∃ g, p = .at g 0 ∧ H.has g ∧ H.get g = some (.fix (fl3 l)) ∧
    (fl3 l)[Nat.add (Nat.add 0 (Nat.mul (i : Int).toNat 3)) 0]? = some (.int .i64 (l[i]'(by rw [h.1]; exact hi)).1) ∧ (fl3 l)[Nat.add (Nat.add 0 (Nat.mul (i : Int).toNat 3)) 1]? = some (.int .i64 (l[i]'(by rw [h.1]; exact hi)).2.1) ∧
    (fl3 l)[Nat.add (Nat.add 0 (Nat.mul (i : Int).toNat 3)) 2]? = some (.int .i64 (l[i]'(by rw [h.1]; exact hi)).2.2) := by
  obtain ⟨g, h1, h2, h3⟩ := h.2 (by omega)
  obtain ⟨e1, e2, e3⟩ := fl3_get (l := l) (c := i) (by rw [h.1]; exact hi)
  refine ⟨g, h1, h2, h3, ?_, ?_, ?_⟩ <;> simp only [Nat.add_eq, Nat.mul_eq, Int.toNat_natCast, Nat.zero_add, Nat.add_zero] <;> rw [Nat.mul_comm]
  · exact e1
  · exact e2
  · exact e3

theorem ints_get {xs : List Int} {i : Nat} (h : i < xs.length) : (ints xs)[i]? = some (.int .i64 xs[i]) := by simp [ints, h]
theorem sl_row {H0 H : AH} {p : AP} {n z : Nat} {xs : List Int} (h : Sl H0 H p n z (ints xs) 1) {i : Nat} (hi : i < n) : ∃ g, p = .at g 0 ∧ H.get g = some (.row (ints xs)) ∧ (ints xs)[Nat.add 0 (Nat.mul (i : Int).toNat 1)]? = some (.int .i64 (xs[i]'(by have := h.len; rw [ints_length] at this; omega))) := by
  rcases h.rep with ⟨h1, _⟩ | ⟨g, h1, h2, h3, _⟩
  · omega
  · refine ⟨g, h1, h3, ?_⟩
    have := h.len
    rw [ints_length] at this
    simp only [Nat.add_eq, Nat.mul_eq, Int.toNat_natCast, Nat.zero_add, Nat.mul_one]
    exact ints_get (by omega)

/-- OwnerPlays. -/
theorem B5_ {lf : Nat} {cl : Cl} {H : AH} {n : Int} {p : AP} {m : Nat} {c : ACap} {z : Nat} {sv : Int} {s : List (Int × Int × Int)} (hlf : 100 ≤ lf) (h16 : C16 cl) (h17 : CNew 17 cl) (h18 : CNew 18 cl) (h19 : C19 cl) (h20 : C20 cl) (h21 : C21 cl) (h22 : C22 cl)
    (h23 : CCells 23 cl) (h24 : CCells 24 cl) (hin : In3 H p m s) : B5 lf cl n p m c z sv H isT = true := by
  unfold B5
  rw [h16]
  refine arB_w (ifA_w (fun e => absurd e (by decide)) fun _ => ?_)
  rw [iLt_dec]
  refine ifA_w (fun _ => rfl) fun e => ?_
  have hm : m ≤ 60 := by simp at e; omega
  refine h17 _ _ _ fun H1 gm hL1 hn1 ho1 => asP_w' (h18 _ _ _ fun H2 gr hL2 hn2 ho2 => asP_w' ?_)
  have hne : gm ≠ gr := fun e => hn2 (e ▸ ho1.2)
  refine loopX_w (fun x H' => x.1 = (p, m, c, z) ∧ x.2.1 = sv ∧ x.2.2.1 = .at gm 0 ∧ x.2.2.2.1 = .at gr 0 ∧ ∃ i : Nat, x.2.2.2.2 = (i : Int) ∧ i ≤ m ∧ In3 H' p m s ∧ ∃ l, l.length = 16 ∧ Bd i l ∧ Obj H' gm (kN n) l ∧ Obj H' gr (kN n) l) (fun x => m - x.2.2.2.2.toNat)
    ⟨rfl, rfl, rfl, rfl, 0, rfl, by omega, hin.le (hL1.trans hL2), _, initL_length _ _, initL_bd _, ho1.le hL2, ho2⟩ (by simp; omega) ?_
  rintro self ⟨⟨p', m', c', z'⟩, sv', q1, q2, _⟩ H3 ⟨hs, hsv, hq1, hq2, i, hi, him, hin, l, hl, hb, ho1, ho2⟩ ih
  simp only [Prod.mk.injEq] at hs hsv hq1 hq2 hi
  obtain ⟨rfl, rfl, rfl, rfl⟩ := hs
  subst hsv hq1 hq2 hi
  simp only [pR_]
  rw [iLt_dec]
  refine ifA_w (fun e => ?_) (fun e => ?_)
  · have e : i < m' := by simp only [decide_eq_true_eq, Int.ofNat_eq_natCast] at e; omega
    refine h19 _ _ _ _ _ ho1 hl fun H4 gc hL4 hn4 ho4 => asP_w' ?_
    have hcm : gc ≠ gm := fun e => hn4 (e ▸ ho1.2)
    have hcr : gc ≠ gr := fun e => hn4 (e ▸ ho2.2)
    have hin4 := hin.le hL4
    have o1 := ho1.le hL4
    have o2 := ho2.le hL4
    obtain ⟨g, rfl, hg, hrow, c0, c1, c2⟩ := step3 hin4 e
    generalize (s[i]'(by rw [hin4.1]; exact e)).1 = C at c0
    generalize (s[i]'(by rw [hin4.1]; exact e)).2.1 = F at c1
    generalize (s[i]'(by rw [hin4.1]; exact e)).2.2 = T at c2
    have hidx : (i : Int) < (m' : Int) := by omega
    refine nilK_w (idxK_w (by omega) hidx (fN_w (fN_w (rowK_wf hrow (ldI_w c0 ?_)))))
    refine nilK_w (idxK_w (by omega) hidx (fN_w (fN_w (rowK_wf hrow (ldI_w c1 ?_)))))
    refine nilK_w (idxK_w (by omega) hidx (fN_w (fN_w (rowK_wf hrow (ldI_w c2 ?_)))))
    refine nilK_w (idxK_w (by omega) hidx (fN_w (fN_w (getK_w hrow (rowK_wf hrow (ldI_w c0 ?_))))))
    refine nilK_w (idxK_w (by omega) hidx (fN_w (fN_w (getK_w hrow (rowK_wf hrow (ldI_w c1 ?_))))))
    refine nilK_w (idxK_w (by omega) hidx (fN_w (fN_w (getK_w hrow (rowK_wf hrow (ldI_w c2 ?_))))))
    refine h20 _ _ _ _ _ _ _ _ o1 hl (hb.small (by omega)) ?_
    have gne : ∀ {a k m}, Obj H4 a k m → g ≠ a := fun ha e => by subst e; rw [ha.1] at hrow; cases hrow
    have hrow5 : (handH H4 gm (kN n) l C F T).get g = some (.fix (fl3 s)) := (hand_ne (gne o1)).trans hrow
    refine okK_w (kSame_fix hrow5 (fl3_leafy s) (kSame_fix hrow5 (fl3_leafy s) (kSame_fix hrow5 (fl3_leafy s) (kSame_nil _)))) (arI_w ?_)
    refine h21 _ _ _ _ _ _ _ _ (hand_other o2 hne.symm) hl (hb.small (by omega)) (arI_w ?_)
    rw [iEq_beq]
    refine ifA_w (fun e => absurd e (by simp)) fun _ => ?_
    have p1 := hand_other (n := kN n) (l := l) (c := C) (f := F) (t := T) (hand_obj (c := C) (f := F) (t := T) o1) hne
    have p2 := hand_obj (c := C) (f := F) (t := T) (hand_other (n := kN n) (l := l) (c := C) (f := F) (t := T) o2 hne.symm)
    have p3 := hand_other (n := kN n) (l := l) (c := C) (f := F) (t := T) (hand_other (n := kN n) (l := l) (c := C) (f := F) (t := T) ho4 hcm) hcr
    have p4 := hand_in3 (c := C) (f := F) (t := T) (hand_in3 (c := C) (f := F) (t := T) hin4 o1) (hand_other (n := kN n) (l := l) (c := C) (f := F) (t := T) o2 hne.symm)
    refine h20 _ _ _ _ _ _ _ _ p3 hl (hb.small (by omega)) (arI_w ?_)
    have r1 := hand_other (n := kN n) (l := l) (c := Int.ofNat 3) (f := Int.ofNat 1) (t := Int.ofNat 0) p1 hcm.symm
    have r2 := hand_other (n := kN n) (l := l) (c := Int.ofNat 3) (f := Int.ofNat 1) (t := Int.ofNat 0) p2 hcr.symm
    have r4 := hand_in3 (c := Int.ofNat 3) (f := Int.ofNat 1) (t := Int.ofNat 0) p4 p3
    refine h22 _ _ _ _ _ _ r1 r2 (nxt_length hl) fun H9 hL9 => arB_w (ifA_w (fun e => absurd e (by decide)) fun _ => ?_)
    rw [iAdd_]
    refine w64_w (by simp only [Int.ofNat_eq_natCast]; omega) (by simp only [Int.ofNat_eq_natCast]; omega) (ih _ _ ⟨rfl, rfl, rfl, rfl, i + 1, by simp, by omega, r4.le hL9, _, nxt_length hl, hb.nxt, r1.le hL9, r2.le hL9⟩ ?_)
    simp only [Int.ofNat_eq_natCast]; omega
  · refine h23 _ _ _ _ _ _ ho1 hl fun H4 p4 c4 z4 hL4 s4 => ?_
    rw [asSl_]
    refine h24 _ _ _ _ _ _ (ho2.le hL4) hl fun H5 p5 c5 z5 hL5 s5 => ?_
    rw [asSl_, iEq_beq]
    refine ifA_w (fun e => absurd e (by simp)) fun _ => ?_
    have s4 := s4.le hL5
    have hle := cellsTo_le l sv' 16
    refine loopX_w (fun x H' => H' = H5 ∧ x.1 = .at gm 0 ∧ x.2.1 = .at gr 0 ∧ x.2.2.1 = (p4, (cellsTo l sv' 16).length, c4, z4) ∧ x.2.2.2.1 = (p5, (cellsTo l sv' 16).length, c5, z5) ∧ ∃ k : Nat, x.2.2.2.2 = (k : Int) ∧ k ≤ (cellsTo l sv' 16).length) (fun x => 16 - x.2.2.2.2.toNat)
      ⟨rfl, rfl, rfl, rfl, rfl, 0, rfl, by omega⟩ (by simp; omega) ?_
    rintro self2 ⟨a1, a2, ⟨b1, b2, b3, b4⟩, ⟨d1, d2, d3, d4⟩, _⟩ H6 ⟨hH, h1, h2, h3, h4, k, hk, hk2⟩ ih2
    simp only [Prod.mk.injEq] at h1 h2 h3 h4 hk
    obtain ⟨rfl, rfl, rfl, rfl⟩ := h3
    obtain ⟨rfl, rfl, rfl, rfl⟩ := h4
    subst hH h1 h2 hk
    simp only [pR_]
    rw [iLt_dec]
    refine ifA_w (fun e => ?_) (fun e => ?_)
    · have e : k < (cellsTo l sv' 16).length := by simp only [decide_eq_true_eq, Int.ofNat_eq_natCast] at e; omega
      obtain ⟨g4, rfl, e4, f4⟩ := sl_row s4 e
      obtain ⟨g5, rfl, e5, f5⟩ := sl_row s5 e
      refine nilK_w (idxK_w (by omega) (by omega) (fN_w (rowK_w e4 (ldI_w f4 ?_))))
      refine nilK_w (idxK_w (by omega) (by omega) (fN_w (rowK_w e5 (ldI_w f5 ?_))))
      rw [iEq_beq]
      refine ifA_w (fun e => absurd e (by simp)) fun _ => ?_
      rw [iAdd_]
      refine w64_w (by simp only [Int.ofNat_eq_natCast]; omega) (by simp only [Int.ofNat_eq_natCast]; omega) (ih2 _ _ ⟨rfl, rfl, rfl, rfl, rfl, k + 1, by simp, by omega⟩ ?_)
      simp only [Int.ofNat_eq_natCast]; omega
    · exact h22 _ _ _ _ _ _ (ho1.le (hL4.trans hL5)) (ho2.le (hL4.trans hL5)) hl fun H7 _ => arB_w rfl
end Go.Proofs
