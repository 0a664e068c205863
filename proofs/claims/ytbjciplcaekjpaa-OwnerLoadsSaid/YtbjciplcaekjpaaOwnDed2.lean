import Derived.Test.YtbjciplcaekjpaaOwnDed
namespace Go.Proofs
open Go Go.Vw Go.Vw.Ev
set_option linter.unusedVariables false

theorem fl_leafy : ∀ l, (fl l).all leafy = true
  | [] => rfl
  | x :: r => by simp [fl, leafy, fl_leafy r]
theorem enc_leafy (n l) : (enc n l).all leafy = true := by simp [enc, leafy, fl_leafy]
theorem leaves2 (a b : Int) : leavesA [Leaf.int .i64, Leaf.int .i64] [AS.int .i64 a, AS.int .i64 b] = true := rfl
theorem cells2 (a b c d : Int) : cellsEqA [AS.int .i64 a, AS.int .i64 b] [AS.int .i64 c, AS.int .i64 d] = (decide (a = c) && decide (b = d)) := by
  simp only [cellsEqA, cellEqA, iEq_beq]
  by_cases h1 : a = c
  · rw [show (a == c) = true by simpa using h1]
    by_cases h2 : b = d
    · rw [show (b == d) = true by simpa using h2]; simp [h1, h2]
    · rw [show (b == d) = false by simpa using h2]; simp [h2]
  · rw [show (a == c) = false by simpa using h1]; simp [h1]

/-- alike: of two that are alike. -/
theorem B22_ {lf : Nat} {cl : Cl} {H : AH} {g g' : Pn} {n : Int} {l : List (Int × Int)} {K : AV → AH → Bool} (hlf : 17 ≤ lf) (h27 : C27 cl) (h28 : C28 cl) (h29 : C29 cl) (ho : Obj H g n l) (ho' : Obj H g' n l) (hl : l.length = 16)
    (hk : ∀ H', Le H H' → K (.s (.bool true)) H' = true) : B22 lf cl (.at g 0) (.at g' 0) H K = true := by
  unfold B22
  refine h27 _ _ _ _ _ ho hl fun H1 g1 hle hn hh hg => ?_
  have o1 := ho.le hle
  have o1' := ho'.le hle
  rw [SlAt, asSl_, iEq_beq]
  refine ifA_w (fun e => absurd e (by simp)) fun _ => ?_
  refine nilK_w (fN_w (getK_w o1'.1 (rowK_w o1'.1 (ldI_w (n := n) rfl ?_))))
  rw [h28 _ _ _ _ _ o1]
  refine okK_w (kSame_row o1'.1 (enc_leafy n l) (kSame_nil _)) (arI_w ?_)
  rw [iEq_beq]
  refine ifA_w (fun e => absurd e (by simp)) fun _ => ?_
  refine loopX_w (fun x H' => x.1 = .at g 0 ∧ x.2.1 = .at g' 0 ∧ x.2.2.1 = (.at g1 0, 16, .lit 16, 2) ∧ ∃ i : Nat, x.2.2.2 = (i : Int) ∧ i ≤ 16 ∧ Le H H' ∧ Obj H' g n l ∧ Obj H' g' n l ∧ H'.get g1 = some (.row (fl l)) ∧ H'.has g1) (fun x => 16 - x.2.2.2.toNat)
    ⟨rfl, rfl, rfl, 0, rfl, by omega, hle, o1, o1', hg, hh⟩ (by simp; omega) ?_
  rintro self ⟨p, q, ⟨p1, l1, c1, z1⟩, _⟩ H2 ⟨hp, hq, hs, i, hi, hle16, hL, ho, ho', hg, hh⟩ ih
  simp only [Prod.mk.injEq] at hp hq hs hi
  obtain ⟨rfl, rfl, rfl, rfl⟩ := hs
  subst hp hq hi
  simp only [pR_]
  rw [iLt_dec]
  refine ifA_w (fun e => ?_) (fun e => hk _ hL)
  have e : i < 16 := by simp only [decide_eq_true_eq, Int.ofNat_eq_natCast] at e; omega
  have hc : isC (i : Int) = true := isC_iff.2 ⟨by omega, by omega⟩
  have hlt : i < l.length := by omega
  have hown : own l (i : Int) = l[i] := own_t hc (by simpa using hlt)
  refine h29 _ _ _ _ _ _ ho hl fun H3 hle3 => ?_
  rw [tup2_, asG_, hown, hc]
  refine arB_w (newK_w ?_)
  have ho3 := (ho.le hle3).le (Le.new H3 (.row [AS.int .i64 (Int.ofNat 0), AS.int .i64 (Int.ofNat 0)]))
  have ho3' := (ho'.le hle3).le (Le.new H3 (.row [AS.int .i64 (Int.ofNat 0), AS.int .i64 (Int.ofNat 0)]))
  refine stoN_we (ds := [.int .i64 (l[i]).1, .int .i64 (l[i]).2]) (get_new _ _) rfl (by decide) rfl ?_
  have hL4 := ((Le.refl H3).newr (.row [AS.int .i64 (Int.ofNat 0), AS.int .i64 (Int.ofNat 0)])).put (not_has_nx H3) (.row [.int .i64 (l[i]).1, .int .i64 (l[i]).2])
  have o4 := (ho.le hle3).le hL4
  have o4' := (ho'.le hle3).le hL4
  have g4 : (((H3.new (.row [AS.int .i64 (Int.ofNat 0), AS.int .i64 (Int.ofNat 0)])).put H3.nx (.row [.int .i64 (l[i]).1, .int .i64 (l[i]).2]))).get g1 = some (.row (fl l)) := ((hle3.trans hL4).get g1 hh).trans hg
  have h4 := (hle3.trans hL4).has g1 hh
  refine nilK_w (idxK_w (by omega) (by omega) (fN_w (rowK_w g4 (ldG_we (ys := [.int .i64 (l[i]).1, .int .i64 (l[i]).2]) (by rw [fl_length]; simp only [Nat.add_eq, Nat.mul_eq]; omega) (by decide) ?_ ?_))))
  · simp only [Nat.add_eq, Nat.mul_eq, Int.toNat_natCast, Nat.zero_add]
    rw [Nat.mul_comm]; exact fl_at hlt
  have cell : ((enc n l).drop (Nat.add (Nat.add 0 1) (Nat.mul (i : Int).toNat 2))).take 2 = [.int .i64 (l[i]).1, .int .i64 (l[i]).2] := by
    simp only [Nat.add_eq, Nat.mul_eq, Int.toNat_natCast, Nat.zero_add]
    rw [Nat.mul_comm, Nat.add_comm]; exact fl_at hlt
  have cle : Nat.add (Nat.add 0 1) (Nat.mul (i : Int).toNat 2) + 2 ≤ (enc n l).length := by rw [enc_length]; simp only [Nat.add_eq, Nat.mul_eq]; omega
  refine nilK_w (fN_w (idxK_w (by omega) (by omega) (fN_w (rowK_w o4'.1 (ldG_we cle (by decide) cell (okK_w rfl ?_))))))
  rw [cells2]
  refine ifA_w (fun e => absurd e (by simp)) fun _ => ifA_w (fun e => absurd e (by decide)) fun _ => ?_
  refine rowK_w (get_put _ _ _) (ldG_w (by simp) (by decide) (nilK_w (fN_w (idxK_w (by omega) (by omega) (fN_w (rowK_w o4'.1 (ldG_we cle (by decide) cell (okK_w rfl ?_))))))))
  show ifA (!cellsEqA [AS.int .i64 (l[i]).1, AS.int .i64 (l[i]).2] [AS.int .i64 (l[i]).1, AS.int .i64 (l[i]).2]) _ _ = true
  rw [cells2]
  refine ifA_w (fun e => absurd e (by simp)) fun _ => ?_
  rw [iAdd_]
  refine w64_w (by simp only [Int.ofNat_eq_natCast]; omega) (by simp only [Int.ofNat_eq_natCast]; omega) (ih _ _ ⟨rfl, rfl, rfl, i + 1, by simp, by omega, (hL.trans hle3).trans hL4, o4, o4', g4, h4⟩ ?_)
  simp only [Int.ofNat_eq_natCast]; omega
def C22 (cl : Cl) : Prop := ∀ H g g' n l K, Obj H g n l → Obj H g' n l → l.length = 16 → (∀ H', Le H H' → K (.s (.bool true)) H' = true) → cl 22 [.s (.ptr (.at g 0)), .s (.ptr (.at g' 0))] H K = true

/-! Cells. -/
def ints (xs : List Int) : List AS := xs.map fun x => .int .i64 x
def cellsTo (l : List (Int × Int)) (s : Int) (i : Nat) : List Int := ((List.range i).filter fun c => decide ((l.getD c (0, 0)).1 = s)).map Int.ofNat
theorem cellsTo_t {l : List (Int × Int)} {s : Int} {i : Nat} (h : i < l.length) (e : (l[i]).1 = s) : cellsTo l s (i + 1) = cellsTo l s i ++ [(i : Int)] := by
  simp [cellsTo, List.range_succ, List.filter_append, List.getD, h, e]
theorem cellsTo_f {l : List (Int × Int)} {s : Int} {i : Nat} (h : i < l.length) (e : (l[i]).1 ≠ s) : cellsTo l s (i + 1) = cellsTo l s i := by
  simp [cellsTo, List.range_succ, List.filter_append, List.getD, h, e]
theorem cellsTo_le (l : List (Int × Int)) (s : Int) (i : Nat) : (cellsTo l s i).length ≤ i := by
  simp only [cellsTo, List.length_map]
  exact Nat.le_trans (List.length_filter_le _ _) (by simp)
theorem ints_length (xs) : (ints xs).length = xs.length := by simp [ints]
theorem ints_append (xs ys) : ints (xs ++ ys) = ints xs ++ ints ys := by simp [ints]

theorem B23_ {lf : Nat} {cl : Cl} {H : AH} {g : Pn} {n s : Int} {l : List (Int × Int)} {K : AV → AH → Bool} (hlf : 17 ≤ lf) (ho : Obj H g n l) (hl : l.length = 16)
    (hk : ∀ H' p c z, Le H H' → Sl H H' p (cellsTo l s 16).length z (ints (cellsTo l s 16)) 1 → K (.s (.slice p (cellsTo l s 16).length c z)) H' = true) : B23 lf cl (.at g 0) s H K = true := by
  unfold B23
  have hfl := fl_length l
  refine nilK_w (fN_w (rowK_w ho.1 (ldG_we (ys := fl l) (by rw [enc_length]; simp only [Nat.add_eq]; omega) (by decide) ?_ ?_)))
  · show ((enc n l).drop 1).take 32 = fl l
    exact List.take_of_length_le (by rw [show (enc n l).drop 1 = fl l from rfl]; omega)
  refine loopX_w (fun x H' => x.1 = s ∧ x.2.2.1 = fl l ∧ ∃ i : Nat, x.2.2.2 = (i : Int) ∧ i ≤ 16 ∧ Le H H' ∧ x.2.1.2.1 = (cellsTo l s i).length ∧ Sl H H' x.2.1.1 x.2.1.2.1 x.2.1.2.2.2 (ints (cellsTo l s i)) 1) (fun x => 16 - x.2.2.2.toNat)
    ⟨rfl, rfl, 0, rfl, by omega, Le.refl _, rfl, Sl.nil⟩ (by simp; omega) ?_
  rintro self ⟨s', ⟨p, m, c, z⟩, cs, _⟩ H1 ⟨hs, hcs, i, hi, hi16, hL, hm, hsl⟩ ih
  simp only at hs hcs hi hm hsl
  subst hs hcs hi hm
  simp only [pR_]
  rw [iLt_dec]
  refine ifA_w (fun e => ?_) (fun e => ?_)
  · have e : i < 16 := by simp only [decide_eq_true_eq, Int.ofNat_eq_natCast] at e; omega
    have hlt : i < l.length := by omega
    refine idxK_w (by omega) (by omega) (fN_w (ldG_we (ys := [.int .i64 (l[i]).1, .int .i64 (l[i]).2]) (by rw [hfl]; simp only [Nat.mul_eq]; omega) (by decide) ?_ (newK_w ?_)))
    · simp only [Nat.mul_eq, Int.toNat_natCast]
      rw [Nat.mul_comm]; exact fl_at hlt
    refine stoN_we (ds := [.int .i64 (l[i]).1, .int .i64 (l[i]).2]) (get_new _ _) rfl (by decide) rfl (rowK_w (get_put _ _ _) (ldI_w (n := (l[i]).1) rfl ?_))
    have hL2 : Le H ((H1.new (.row [AS.int .i64 (Int.ofNat 0), AS.int .i64 (Int.ofNat 0)])).put H1.nx (.row [.int .i64 (l[i]).1, .int .i64 (l[i]).2])) := (hL.newr _).put hL.nx _
    have hsl2 := hsl.le (((Le.refl H1).newr (.row [AS.int .i64 (Int.ofNat 0), AS.int .i64 (Int.ofNat 0)])).put (not_has_nx H1) (.row [.int .i64 (l[i]).1, .int .i64 (l[i]).2]))
    have hb := cellsTo_le l s' i
    rw [iEq_beq]
    refine ifA_w (fun e2 => ?_) (fun e2 => ?_)
    · have e2 : (l[i]).1 = s' := by simpa using e2
      refine newK_w (elK_w (ys := [AS.int .i64 (i : Int)]) (get_new _ _) (Nat.le_refl _) rfl ?_)
      refine app_w (hsl2.le (Le.new _ _)) (hL2.newr _) rfl (by decide) (by omega) (by omega) fun p' c' z' H' hL3 hs3 _ => ?_
      rw [iAdd_]
      have hc := cellsTo_t hlt e2
      refine w64_w (by simp only [Int.ofNat_eq_natCast]; omega) (by simp only [Int.ofNat_eq_natCast]; omega) (ih _ _ ⟨rfl, rfl, i + 1, by simp, by omega, hL3, ?_, ?_⟩ ?_)
      · simp [hc]
      · simp only [hc, ints_append]; exact hs3
      · simp only [Int.ofNat_eq_natCast]; omega
    · have e2 : (l[i]).1 ≠ s' := by simpa using e2
      rw [iAdd_]
      have hc := cellsTo_f hlt e2
      refine w64_w (by simp only [Int.ofNat_eq_natCast]; omega) (by simp only [Int.ofNat_eq_natCast]; omega) (ih _ _ ⟨rfl, rfl, i + 1, by simp, by omega, hL2, ?_, ?_⟩ ?_)
      · simp [hc]
      · simp only [hc]; exact hsl2
      · simp only [Int.ofNat_eq_natCast]; omega
  · have e : i = 16 := by simp only [decide_eq_false_iff_not, Int.ofNat_eq_natCast] at e; omega
    subst e
    exact hk _ _ _ _ hL hsl
theorem B24_ {lf : Nat} {cl : Cl} {H : AH} {g : Pn} {n s : Int} {l : List (Int × Int)} {K : AV → AH → Bool} (hlf : 17 ≤ lf) (ho : Obj H g n l) (hl : l.length = 16)
    (hk : ∀ H' p c z, Le H H' → Sl H H' p (cellsTo l s 16).length z (ints (cellsTo l s 16)) 1 → K (.s (.slice p (cellsTo l s 16).length c z)) H' = true) : B24 lf cl (.at g 0) s H K = true := by
  unfold B24
  refine loopX_w (fun x H' => x.1 = .at g 0 ∧ x.2.1 = s ∧ ∃ i : Nat, x.2.2.2 = (i : Int) ∧ i ≤ 16 ∧ Le H H' ∧ x.2.2.1.2.1 = (cellsTo l s i).length ∧ Sl H H' x.2.2.1.1 x.2.2.1.2.1 x.2.2.1.2.2.2 (ints (cellsTo l s i)) 1) (fun x => 16 - x.2.2.2.toNat)
    ⟨rfl, rfl, 0, rfl, by omega, Le.refl _, rfl, Sl.nil⟩ (by simp; omega) ?_
  rintro self ⟨q, s', ⟨p, m, c, z⟩, _⟩ H1 ⟨hq, hs, i, hi, hi16, hL, hm, hsl⟩ ih
  simp only at hq hs hi hm hsl
  subst hq hs hi hm
  simp only [pR_]
  rw [iLt_dec]
  refine ifA_w (fun e => ?_) (fun e => ?_)
  · have e : i < 16 := by simp only [decide_eq_true_eq, Int.ofNat_eq_natCast] at e; omega
    have hlt : i < l.length := by omega
    have o1 := ho.le hL
    refine nilK_w (fN_w (idxK_w (by omega) (by omega) (fN_w (fN_w (rowK_w o1.1 (ldI_w (n := (l[i]).1) ?_ ?_))))))
    · simp only [Nat.add_eq, Nat.mul_eq, Int.toNat_natCast, Nat.zero_add, Nat.add_zero]
      rw [Nat.mul_comm]; exact enc_get0 hlt
    have hb := cellsTo_le l s' i
    rw [iEq_beq]
    refine ifA_w (fun e2 => ?_) (fun e2 => ?_)
    · have e2 : (l[i]).1 = s' := by simpa using e2
      refine newK_w (elK_w (ys := [AS.int .i64 (i : Int)]) (get_new _ _) (Nat.le_refl _) rfl ?_)
      refine app_w (hsl.le (Le.new _ _)) (hL.newr _) rfl (by decide) (by omega) (by omega) fun p' c' z' H' hL3 hs3 _ => ?_
      rw [iAdd_]
      have hc := cellsTo_t hlt e2
      refine w64_w (by simp only [Int.ofNat_eq_natCast]; omega) (by simp only [Int.ofNat_eq_natCast]; omega) (ih _ _ ⟨rfl, rfl, i + 1, by simp, by omega, hL3, ?_, ?_⟩ ?_)
      · simp [hc]
      · simp only [hc, ints_append]; exact hs3
      · simp only [Int.ofNat_eq_natCast]; omega
    · have e2 : (l[i]).1 ≠ s' := by simpa using e2
      rw [iAdd_]
      have hc := cellsTo_f hlt e2
      refine w64_w (by simp only [Int.ofNat_eq_natCast]; omega) (by simp only [Int.ofNat_eq_natCast]; omega) (ih _ _ ⟨rfl, rfl, i + 1, by simp, by omega, hL, ?_, ?_⟩ ?_)
      · simp [hc]
      · simp only [hc]; exact hsl
      · simp only [Int.ofNat_eq_natCast]; omega
  · have e : i = 16 := by simp only [decide_eq_false_iff_not, Int.ofNat_eq_natCast] at e; omega
    subst e
    exact hk _ _ _ _ hL hsl
def CCells (f : Nat) (cl : Cl) : Prop := ∀ H g n l s K, Obj H g n l → l.length = 16 → (∀ H' p c z, Le H H' → Sl H H' p (cellsTo l s 16).length z (ints (cellsTo l s 16)) 1 → K (.s (.slice p (cellsTo l s 16).length c z)) H' = true) →
  cl f [.s (.ptr (.at g 0)), .s (.int .i64 s)] H K = true
end Go.Proofs
