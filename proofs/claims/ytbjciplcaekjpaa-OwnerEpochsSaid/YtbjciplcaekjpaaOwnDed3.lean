import Derived.Test.YtbjciplcaekjpaaOwnDed2
namespace Go.Proofs
open Go Go.Vw Go.Vw.Ev
set_option linter.unusedVariables false

/-! Load. -/
def okO (n : Int) (x : Int × Int) : Prop := 0 ≤ x.1 ∧ x.1 < n ∧ 0 ≤ x.2 ∧ x.2 ≤ 1073741824
/-- A slice of owners, somewhere. -/
def InO (H : AH) (p : AP) (n : Nat) (l : List (Int × Int)) : Prop := l.length = n ∧ (n ≠ 0 → ∃ g, p = .at g 0 ∧ H.has g ∧ (H.get g = some (.fix (fl l)) ∨ H.get g = some (.row (fl l))))
theorem InO.le {H H' : AH} {p n l} (h : InO H p n l) (k : Le H H') : InO H' p n l :=
  ⟨h.1, fun hn => by obtain ⟨g, h1, h2, h3⟩ := h.2 hn; exact ⟨g, h1, k.has g h2, by rw [k.get g h2]; exact h3⟩⟩
theorem InO.row {H : AH} {p n l} (h : InO H p n l) (hn : n ≠ 0) : ∃ g, p = .at g 0 ∧ H.has g ∧ ∀ K : List AS → Bool, K (fl l) = true → rowK H g K = true := by
  obtain ⟨g, h1, h2, h3⟩ := h.2 hn
  refine ⟨g, h1, h2, fun K hk => ?_⟩
  rcases h3 with h3 | h3
  · exact rowK_wf h3 hk
  · exact rowK_w h3 hk
def loadL (l : List (Int × Int)) (i : Nat) : List (Int × Int) := l.take i ++ List.replicate (16 - i) (0, 0)
theorem loadL_length {l : List (Int × Int)} (hl : l.length = 16) {i : Nat} (hi : i ≤ 16) : (loadL l i).length = 16 := by simp [loadL, hl]; omega
theorem loadL_set {l : List (Int × Int)} (hl : l.length = 16) {i : Nat} (hi : i < 16) : (loadL l i).set i (l[i]) = loadL l (i + 1) := by
  apply List.ext_getElem
  · rw [List.length_set, loadL_length hl (by omega), loadL_length hl (by omega)]
  · intro j h1 h2
    have ht : (l.take i).length = i := by rw [List.length_take]; omega
    have ht' : (l.take (i + 1)).length = i + 1 := by rw [List.length_take]; omega
    simp only [List.getElem_set, loadL]
    by_cases hj : i = j
    · subst hj
      rw [if_pos rfl, List.getElem_append_left (by omega)]
      simp
    · rw [if_neg hj]
      by_cases h3 : j < i
      · rw [List.getElem_append_left (by omega), List.getElem_append_left (by omega)]
        simp
      · rw [List.getElem_append_right (by omega), List.getElem_append_right (by omega)]
        simp
theorem loadL_all {l : List (Int × Int)} (hl : l.length = 16) : loadL l 16 = l := by simp [loadL, List.take_of_length_le (by omega : l.length ≤ 16)]
theorem okO_step {n : Int} {l : List (Int × Int)} {i : Nat} (h : ∀ x ∈ l.take i, okO n x) (hi : i < l.length) (ho : okO n l[i]) : ∀ x ∈ l.take (i + 1), okO n x := by
  intro x hx
  rw [List.take_succ_eq_append_getElem hi] at hx
  rcases List.mem_append.1 hx with hx | hx
  · exact h x hx
  · simp only [List.mem_singleton] at hx; subst hx; exact ho
structure LoadK (H : AH) (n : Int) (l : List (Int × Int)) (no : AH → Bool) (yes : Pn → AH → Bool) : Prop where
  no : ¬ (1 ≤ n ∧ n ≤ 4 ∧ l.length = 16 ∧ ∀ x ∈ l, okO n x) → ∀ H', Le H H' → no H' = true
  yes : 1 ≤ n → n ≤ 4 → l.length = 16 → (∀ x ∈ l, okO n x) → ∀ H' g', Le H H' → ¬ H.has g' → Obj H' g' n l → yes g' H' = true
theorem fl_rep (k : Nat) : fl (List.replicate k (0, 0)) = List.replicate (2 * k) (.int .i64 0) := by
  induction k with
  | zero => rfl
  | succ k ih => rw [List.replicate_succ, fl, ih, show 2 * (k + 1) = 2 * k + 1 + 1 by omega, List.replicate_succ, List.replicate_succ]
theorem B25_ {lf : Nat} {cl : Cl} {H : AH} {n : Int} {p : AP} {m : Nat} {c : ACap} {z : Nat} {l : List (Int × Int)} {K : AV → AH → Bool} (hlf : 17 ≤ lf) (hin : InO H p m l)
    (hk : LoadK H n l (K (.tup [.s (.ptr .nil), .s (.int .i64 11)])) (fun g => K (.tup [.s (.ptr (.at g 0)), .s (.int .i64 0)]))) : B25 lf cl n p m c z H K = true := by
  unfold B25
  rw [iLt_dec, iLt_dec, iEq_beq]
  refine ifA_w (fun e => hk.no (fun h => by simp at e; omega) _ (Le.refl _)) fun e1 => ifA_w (fun e => hk.no (fun h => by simp at e; omega) _ (Le.refl _)) fun e2 => ifA_w (fun e => hk.no (fun h => by simp at e; have := hin.1; omega) _ (Le.refl _)) fun e3 => ?_
  have e1 : 1 ≤ n := by simp at e1; omega
  have e2 : n ≤ 4 := by simp at e2; omega
  have e3 : m = 16 := by simp at e3; omega
  subst e3
  have hl := hin.1
  refine newK_w ?_
  refine loopX_w (fun x H' => x.1 = n ∧ x.2.1 = .at H.nx 0 ∧ x.2.2.1 = (p, 16, c, z) ∧ x.2.2.2.1 = 16 ∧ ∃ i : Nat, x.2.2.2.2 = (i : Int) ∧ i ≤ 16 ∧ Le H H' ∧ Obj H' H.nx n (loadL l i) ∧ ∀ x ∈ l.take i, okO n x) (fun x => 16 - x.2.2.2.2.toNat)
    ⟨rfl, rfl, rfl, rfl, 0, rfl, by omega, Le.new _ _, ⟨?_, has_new_self _ _⟩, by simp⟩ (by simp; omega) ?_
  · rw [get_new]
    rfl
  rintro self ⟨n', q, ⟨p', m', c', z'⟩, k', _⟩ H1 ⟨hn, hq, hs, hk', i, hi, hi16, hL, ho, hall⟩ ih
  simp only [Prod.mk.injEq] at hn hq hs hk' hi
  obtain ⟨rfl, rfl, rfl, rfl⟩ := hs
  subst hn hq hi hk'
  simp only [pR_]
  rw [iLt_dec]
  refine ifA_w (fun e => ?_) (fun e => ?_)
  · have e : i < 16 := by simp only [decide_eq_true_eq] at e; omega
    have hlt : i < l.length := by omega
    obtain ⟨g, rfl, hg, hrow⟩ := (hin.le hL).row (by decide)
    refine nilK_w (idxK_w (by omega) (by omega) (fN_w (hrow _ (ldG_we (ys := [.int .i64 (l[i]).1, .int .i64 (l[i]).2]) (by rw [fl_length]; simp only [Nat.add_eq, Nat.mul_eq]; omega) (by decide) ?_ (newK_w ?_)))))
    · simp only [Nat.add_eq, Nat.mul_eq, Int.toNat_natCast, Nat.zero_add]
      rw [Nat.mul_comm]; exact fl_at hlt
    refine stoN_we (ds := [.int .i64 (l[i]).1, .int .i64 (l[i]).2]) (get_new _ _) rfl (by decide) rfl ?_
    have hno : ∀ {P : Prop}, ¬ okO n' l[i] → (P → 1 ≤ n' ∧ n' ≤ 4 ∧ l.length = 16 ∧ ∀ x ∈ l, okO n' x) → ¬ P := fun h1 h2 h3 => h1 ((h2 h3).2.2.2 _ (List.getElem_mem hlt))
    have hL2 : Le H ((H1.new (.row [AS.int .i64 (Int.ofNat 0), AS.int .i64 (Int.ofNat 0)])).put H1.nx (.row [.int .i64 (l[i]).1, .int .i64 (l[i]).2])) := (hL.newr _).put hL.nx _
    have ho2 := ho.le (((Le.refl H1).newr (.row [AS.int .i64 (Int.ofNat 0), AS.int .i64 (Int.ofNat 0)])).put (not_has_nx H1) (.row [.int .i64 (l[i]).1, .int .i64 (l[i]).2]))
    have gp := get_put (H1.new (.row [AS.int .i64 (Int.ofNat 0), AS.int .i64 (Int.ofNat 0)])) H1.nx (.row [.int .i64 (l[i]).1, .int .i64 (l[i]).2])
    refine rowK_w gp (ldI_w (n := (l[i]).1) rfl ?_)
    rw [iLt_dec]
    refine ifA_w (fun e4 => hk.no (hno (fun h => by simp [okO] at e4 h; omega) id) _ hL2) fun e4 => rowK_w gp (ldI_w (n := (l[i]).1) rfl ?_)
    rw [iLe_dec]
    refine ifA_w (fun e5 => hk.no (hno (fun h => by simp [okO] at e5 h; omega) id) _ hL2) fun e5 => rowK_w gp (ldI_w (n := (l[i]).2) rfl ?_)
    rw [iLt_dec]
    refine ifA_w (fun e6 => hk.no (hno (fun h => by simp [okO] at e6 h; omega) id) _ hL2) fun e6 => rowK_w gp (ldI_w (n := (l[i]).2) rfl ?_)
    rw [iLt_dec]
    refine ifA_w (fun e7 => hk.no (hno (fun h => by simp [okO] at e7 h; omega) id) _ hL2) fun e7 => rowK_w gp (ldG_we (ys := [.int .i64 (l[i]).1, .int .i64 (l[i]).2]) (by simp) (by decide) rfl ?_)
    have hok : okO n' l[i] := by simp [okO] at e4 e5 e6 e7 ⊢; omega
    refine nilK_w (fN_w (idxK_w (by omega) (by omega) (fN_w ?_)))
    have hll := loadL_length hl hi16
    refine stoN_we (ds := enc n' (loadL l (i + 1))) ho2.1 rfl (by rw [enc_length, hll]; simp only [Nat.add_eq, Nat.mul_eq]; omega) ?_ ?_
    · simp only [Nat.add_eq, Nat.mul_eq, Nat.zero_add, Int.toNat_natCast]
      rw [Nat.mul_comm, enc_set (by omega)]
      rw [← loadL_set hl e]
    rw [iAdd_]
    refine w64_w (by simp only [Int.ofNat_eq_natCast]; omega) (by simp only [Int.ofNat_eq_natCast]; omega) (ih _ _ ⟨rfl, rfl, rfl, rfl, i + 1, by simp, by omega, hL2.put (not_has_nx H) _, ⟨get_put _ _ _, has_put ho2.2⟩, okO_step hall hlt hok⟩ ?_)
    simp only [Int.ofNat_eq_natCast]; omega
  · have e : i = 16 := by simp only [decide_eq_false_iff_not] at e; omega
    subst e
    rw [List.take_of_length_le (by omega)] at hall
    rw [loadL_all hl] at ho
    exact hk.yes e1 e2 hl hall _ _ hL (not_has_nx H) ho
theorem B26_ {lf : Nat} {cl : Cl} {H : AH} {n : Int} {p : AP} {m : Nat} {c : ACap} {z : Nat} {l : List (Int × Int)} {K : AV → AH → Bool} (hlf : 17 ≤ lf) (hin : InO H p m l)
    (hk : LoadK H n l (K (.tup [.s (.ptr .nil), .s (.bool false)])) (fun g => K (.tup [.s (.ptr (.at g 0)), .s (.bool true)]))) : B26 lf cl n p m c z H K = true := by
  unfold B26
  rw [iLt_dec, iLt_dec, iEq_beq]
  refine ifA_w (fun e => hk.no (fun h => by simp at e; omega) _ (Le.refl _)) fun e1 => ifA_w (fun e => hk.no (fun h => by simp at e; omega) _ (Le.refl _)) fun e2 => ifA_w (fun e => hk.no (fun h => by simp at e; have := hin.1; omega) _ (Le.refl _)) fun e3 => ?_
  have e1 : 1 ≤ n := by simp at e1; omega
  have e2 : n ≤ 4 := by simp at e2; omega
  have e3 : m = 16 := by simp at e3; omega
  subst e3
  have hl := hin.1
  refine newK_w ?_
  refine loopX_w (fun x H' => x.1 = n ∧ x.2.1 = (p, 16, c, z) ∧ x.2.2.1 = .at H.nx 0 ∧ ∃ i : Nat, x.2.2.2 = (i : Int) ∧ i ≤ 16 ∧ Le H H' ∧ Obj H' H.nx n (loadL l i) ∧ ∀ x ∈ l.take i, okO n x) (fun x => 16 - x.2.2.2.toNat)
    ⟨rfl, rfl, rfl, 0, rfl, by omega, Le.new _ _, ⟨?_, has_new_self _ _⟩, by simp⟩ (by simp; omega) ?_
  · rw [get_new]
    rfl
  rintro self ⟨n', ⟨p', m', c', z'⟩, q, _⟩ H1 ⟨hn, hs, hq, i, hi, hi16, hL, ho, hall⟩ ih
  simp only [Prod.mk.injEq] at hn hq hs hi
  obtain ⟨rfl, rfl, rfl, rfl⟩ := hs
  subst hn hq hi
  simp only [pR_]
  rw [iLt_dec]
  refine ifA_w (fun e => ?_) (fun e => ?_)
  · have e : i < 16 := by simp only [decide_eq_true_eq, Int.ofNat_eq_natCast] at e; omega
    have hlt : i < l.length := by omega
    obtain ⟨g, rfl, hg, hrow⟩ := (hin.le hL).row (by decide)
    have hno : ∀ {P : Prop}, ¬ okO n' l[i] → (P → 1 ≤ n' ∧ n' ≤ 4 ∧ l.length = 16 ∧ ∀ x ∈ l, okO n' x) → ¬ P := fun h1 h2 h3 => h1 ((h2 h3).2.2.2 _ (List.getElem_mem hlt))
    have c0 : (fl l)[Nat.add (Nat.add 0 (Nat.mul (i : Int).toNat 2)) 0]? = some (.int .i64 (l[i]).1) := by
      simp only [Nat.add_eq, Nat.mul_eq, Int.toNat_natCast, Nat.zero_add, Nat.add_zero]
      rw [Nat.mul_comm]; exact fl_get0 hlt
    have c1 : (fl l)[Nat.add (Nat.add 0 (Nat.mul (i : Int).toNat 2)) 1]? = some (.int .i64 (l[i]).2) := by
      simp only [Nat.add_eq, Nat.mul_eq, Int.toNat_natCast, Nat.zero_add]
      rw [Nat.mul_comm]; exact fl_get1 hlt
    refine nilK_w (idxK_w (by omega) (by omega) (fN_w (fN_w (hrow _ (ldI_w c0 ?_)))))
    rw [iLt_dec]
    refine ifA_w (fun e4 => hk.no (hno (fun h => by simp [okO] at e4 h; omega) id) _ hL) fun e4 => nilK_w (idxK_w (by omega) (by omega) (fN_w (fN_w (hrow _ (ldI_w c0 ?_)))))
    rw [iLe_dec]
    refine ifA_w (fun e5 => hk.no (hno (fun h => by simp [okO] at e5 h; omega) id) _ hL) fun e5 => nilK_w (idxK_w (by omega) (by omega) (fN_w (fN_w (hrow _ (ldI_w c1 ?_)))))
    rw [iLt_dec]
    refine ifA_w (fun e6 => hk.no (hno (fun h => by simp [okO] at e6 h; omega) id) _ hL) fun e6 => nilK_w (idxK_w (by omega) (by omega) (fN_w (fN_w (hrow _ (ldI_w c1 ?_)))))
    rw [iLt_dec]
    refine ifA_w (fun e7 => hk.no (hno (fun h => by simp [okO] at e7 h; omega) id) _ hL) fun e7 => nilK_w (idxK_w (by omega) (by omega) (fN_w (hrow _ (ldG_we (ys := [.int .i64 (l[i]).1, .int .i64 (l[i]).2]) (by rw [fl_length]; simp only [Nat.add_eq, Nat.mul_eq]; omega) (by decide) ?_ ?_))))
    · simp only [Nat.add_eq, Nat.mul_eq, Int.toNat_natCast, Nat.zero_add]
      rw [Nat.mul_comm]; exact fl_at hlt
    have hok : okO n' l[i] := by simp [okO] at e4 e5 e6 e7 ⊢; omega
    refine nilK_w (fN_w (idxK_w (by omega) (by omega) (fN_w ?_)))
    have hll := loadL_length hl hi16
    refine stoN_we (ds := enc n' (loadL l (i + 1))) ho.1 rfl (by rw [enc_length, hll]; simp only [Nat.add_eq, Nat.mul_eq]; omega) ?_ ?_
    · simp only [Nat.add_eq, Nat.mul_eq, Nat.zero_add, Int.toNat_natCast]
      rw [Nat.mul_comm, enc_set (by omega)]
      rw [← loadL_set hl e]
    rw [iAdd_]
    refine w64_w (by simp only [Int.ofNat_eq_natCast]; omega) (by simp only [Int.ofNat_eq_natCast]; omega) (ih _ _ ⟨rfl, rfl, rfl, i + 1, by simp, by omega, hL.put (not_has_nx H) _, ⟨get_put _ _ _, has_put ho.2⟩, okO_step hall hlt hok⟩ ?_)
    simp only [Int.ofNat_eq_natCast]; omega
  · have e : i = 16 := by simp only [decide_eq_false_iff_not, Int.ofNat_eq_natCast] at e; omega
    subst e
    rw [List.take_of_length_le (by omega)] at hall
    rw [loadL_all hl] at ho
    exact hk.yes e1 e2 hl hall _ _ hL (not_has_nx H) ho
def C25 (cl : Cl) : Prop := ∀ H n p m c z l K, InO H p m l → LoadK H n l (K (.tup [.s (.ptr .nil), .s (.int .i64 11)])) (fun g => K (.tup [.s (.ptr (.at g 0)), .s (.int .i64 0)])) → cl 25 [.s (.int .i64 n), .s (.slice p m c z)] H K = true
def C26 (cl : Cl) : Prop := ∀ H n p m c z l K, InO H p m l → LoadK H n l (K (.tup [.s (.ptr .nil), .s (.bool false)])) (fun g => K (.tup [.s (.ptr (.at g 0)), .s (.bool true)])) → cl 26 [.s (.int .i64 n), .s (.slice p m c z)] H K = true
def C16 (cl : Cl) : Prop := ∀ H K, cl 16 [] H K = K (.s (.bool true)) H

/-- OwnerLoads. -/
theorem B6_ {lf : Nat} {cl : Cl} {H : AH} {n : Int} {p : AP} {m : Nat} {c : ACap} {z : Nat} {l : List (Int × Int)} (h16 : C16 cl) (h25 : C25 cl) (h26 : C26 cl) (h22 : C22 cl) (hin : InO H p m l) : B6 lf cl n p m c z H isT = true := by
  unfold B6
  rw [h16]
  refine arB_w (ifA_w (fun e => absurd e (by decide)) fun _ => ifA_w (fun _ => rfl) fun _ => ?_)
  refine h25 _ _ _ _ _ _ _ _ hin ⟨fun hno H1 hL1 => ?_, fun h1 h2 h3 h4 H1 g1 hL1 hn1 ho1 => ?_⟩
  · rw [tup2_, asP_]
    refine arI_w (h26 _ _ _ _ _ _ _ _ (hin.le hL1) ⟨fun _ H2 hL2 => ?_, fun a b c d => absurd ⟨a, b, c, d⟩ hno⟩)
    rw [tup2_, asP_]
    refine arB_w (ifA_w (fun _ => ifA_w (fun _ => fB_w rfl) (fun e => absurd e (by decide))) (fun e => absurd e (by decide)))
  · rw [tup2_, asP_]
    refine arI_w (h26 _ _ _ _ _ _ _ _ (hin.le hL1) ⟨fun h => absurd ⟨h1, h2, h3, h4⟩ h, fun _ _ _ _ H2 g2 hL2 hn2 ho2 => ?_⟩)
    rw [tup2_, asP_]
    refine arB_w (ifA_w (fun e => absurd e (by decide)) fun _ => ifA_w (fun _ => ifA_w (fun _ => h22 _ _ _ _ _ _ (ho1.le hL2) ho2 h3 fun H3 _ => ?_) (fun e => absurd e (by simp [isNilP]))) (fun e => absurd e (by decide)))
    exact arB_w rfl
end Go.Proofs
