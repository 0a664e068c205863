/- QueueRounds, from what the calls do. -/
import Derived.Test.YtbjciplcaekjpaaQueDed
namespace Go.Proofs
open Go Go.Vw Go.Vw.Ev
set_option linter.unusedVariables false
def C10 (cl : Cl) : Prop := ∀ H K, cl 10 [] H K = K (.s (.bool true)) H
def rg (r i : Nat) : List (Int × Int) := (List.range i).map fun j : Nat => ((0 : Int), 100 * (r : Int) + (j : Int))
theorem rg_length (r i) : (rg r i).length = i := by simp [rg]
theorem rg_succ (r i) : rg r (i + 1) = rg r i ++ [(0, 100 * (r : Int) + (i : Int))] := by simp [rg, List.range_succ]
theorem rg_get {r k i : Nat} (h : i < k) : (rg r k)[i]'(by rw [rg_length]; exact h) = (0, 100 * (r : Int) + (i : Int)) := by simp [rg]
theorem tm_nat (a k : Nat) : Int.tmod (Int.ofNat a) (Int.ofNat k) = ((a % k : Nat) : Int) := rfl
set_option maxHeartbeats 1000000 in
theorem B4_ {lf : Nat} {cl : Cl} {H : AH} {a b : Nat} (hlf : 1001 < lf) (h10 : C10 cl) (h11 : C11 cl) (h12 : C12 cl) (h13 : C13 cl) (h14 : C14 cl) (h15 : C15 cl) : B4 lf cl (Int.ofNat a) (Int.ofNat b) H isT = true := by
  unfold B4
  rw [h10]
  refine arB_w (ifA_w (fun e => absurd e (by decide)) fun _ => ?_)
  rw [tm_nat]
  refine fI_w (w64_w (by omega) (by omega) ?_)
  rw [iAdd_]
  refine w64_w (by simp only [Int.ofNat_eq_natCast]; omega) (by simp only [Int.ofNat_eq_natCast]; omega) ?_
  obtain ⟨k, hk, hk1, hk2⟩ : ∃ k : Nat, ((a % 20 : Nat) : Int) + Int.ofNat 1 = (k : Int) ∧ 1 ≤ k ∧ k ≤ 20 := ⟨a % 20 + 1, by simp, by omega, by omega⟩
  rw [hk]
  refine h11 _ _ _ fun H1 g c hL hcn hq => asP_w' ?_
  have hcap : (min (max (k : Int) 1) 1000).toNat = k := by omega
  rw [hcap] at hq
  refine loopX_w (fun x H' => x.1 = Int.ofNat b ∧ x.2.1 = (k : Int) ∧ x.2.2.1 = .at g 0 ∧ ∃ r : Nat, x.2.2.2 = (r : Int) ∧ r ≤ b % 6 ∧ Qu H' g c k []) (fun x => b % 6 - x.2.2.2.toNat) ⟨rfl, rfl, rfl, 0, rfl, by omega, hq⟩ (by simp; omega) ?_
  rintro self ⟨u1, u2, u3, _⟩ H2 ⟨h1, h2, h3, r, hr, hr6, hq⟩ ih
  simp only at h1 h2 h3 hr
  subst h1 h2 h3 hr
  simp only [pR_]
  rw [tm_nat]
  refine fI_w (w64_w (by omega) (by omega) ?_)
  rw [iLt_dec]
  refine ifA_w (fun e => ?_) (fun e => ?_)
  · have e : r < b % 6 := by simp only [decide_eq_true_eq] at e; omega
    refine loopX_w (fun x H' => x.1 = Int.ofNat b ∧ x.2.1 = (k : Int) ∧ x.2.2.1 = .at g 0 ∧ x.2.2.2.1 = (r : Int) ∧ ∃ i : Nat, x.2.2.2.2 = (i : Int) ∧ i ≤ k ∧ Qu H' g c k (rg r i)) (fun x => k - x.2.2.2.2.toNat) ⟨rfl, rfl, rfl, rfl, 0, rfl, by omega, hq⟩ (by simp; omega) ?_
    rintro self2 ⟨u1, u2, u3, u4, _⟩ H3 ⟨h1, h2, h3, h4, i, hi, hik, hq⟩ ih2
    simp only at h1 h2 h3 h4 hi
    subst h1 h2 h3 h4 hi
    simp only [pR_]
    rw [iLt_dec]
    refine ifA_w (fun e2 => ?_) (fun e2 => ?_)
    · have e2 : i < k := by simp only [decide_eq_true_eq] at e2; omega
      rw [iMul_]
      refine w64_w (by simp only [Int.ofNat_eq_natCast]; omega) (by simp only [Int.ofNat_eq_natCast]; omega) ?_
      rw [iAdd_]
      refine w64_w (by simp only [Int.ofNat_eq_natCast]; omega) (by simp only [Int.ofNat_eq_natCast]; omega) ?_
      refine h13 _ _ _ _ _ (Int.ofNat 0, Int.ofNat 100 * (r : Int) + (i : Int)) _ hq (fun _ H4 _ q4 => arB_w (ifA_w (fun e => absurd e (by decide)) fun _ => ?_)) (fun e3 => by rw [rg_length] at e3; omega)
      rw [iAdd_]
      refine w64_w (by simp only [Int.ofNat_eq_natCast]; omega) (by simp only [Int.ofNat_eq_natCast]; omega) (ih2 _ _ ⟨rfl, rfl, rfl, rfl, i + 1, by simp, by omega, by rw [rg_succ]; exact q4⟩ ?_)
      simp only [Int.ofNat_eq_natCast]; omega
    · have e2 : i = k := by simp only [decide_eq_false_iff_not] at e2; omega
      subst e2
      refine h13 _ _ _ _ _ (Int.ofNat 0, Int.ofNat 0) _ hq (fun e3 => by rw [rg_length] at e3; omega) (fun _ H4 _ q4 => arB_w (ifA_w (fun e => absurd e (by decide)) fun _ => ?_))
      refine h14 _ _ _ _ _ _ q4 fun H5 p5 c5 z5 _ q5 _ => ?_
      rw [asSl_, iEq_beq, rg_length]
      refine ifA_w (fun e => absurd e (by simp)) fun _ => h15 _ _ _ _ _ _ q5 (arI_w ?_)
      rw [iEq_beq, rg_length]
      refine ifA_w (fun e => absurd e (by simp)) fun _ => ?_
      refine loopX_w (fun x H' => x.1 = Int.ofNat b ∧ x.2.1 = (i : Int) ∧ x.2.2.1 = .at g 0 ∧ x.2.2.2.1 = (r : Int) ∧ ∃ j : Nat, x.2.2.2.2 = (j : Int) ∧ j ≤ i ∧ Qu H' g c i ((rg r i).drop j)) (fun x => i - x.2.2.2.2.toNat) ⟨rfl, rfl, rfl, rfl, 0, rfl, by omega, by simpa using q5⟩ (by simp; omega) ?_
      rintro self3 ⟨u1, u2, u3, u4, _⟩ H6 ⟨h1, h2, h3, h4, j, hj, hji, hq6⟩ ih3
      simp only at h1 h2 h3 h4 hj
      subst h1 h2 h3 h4 hj
      simp only [pR_]
      rw [iLt_dec]
      refine ifA_w (fun e2 => ?_) (fun e2 => ?_)
      · have e2 : j < i := by simp only [decide_eq_true_eq] at e2; omega
        have hd : (rg r i).drop j = (0, 100 * (r : Int) + (j : Int)) :: (rg r i).drop (j + 1) := by rw [List.drop_eq_getElem_cons (by rw [rg_length]; exact e2), rg_get e2]
        refine h12 _ _ _ _ _ _ hq6 (fun hx => by rw [hd] at hx; cases hx) fun x l hx H7 o7 q7 => ?_
        rw [hd] at hx
        obtain ⟨rfl, rfl⟩ := List.cons.inj hx
        rw [tup2_, asG_]
        refine arB_w (newK_w (stoN_we (ds := pk (0, 100 * (r : Int) + (j : Int))) (get_new _ _) rfl (by decide) rfl (ifA_w (fun e => absurd e (by decide)) fun _ => rowK_w (get_put _ _ _) (ldI_w (n := 100 * (r : Int) + (j : Int)) rfl ?_))))
        rw [iMul_]
        refine w64_w (by simp only [Int.ofNat_eq_natCast]; omega) (by simp only [Int.ofNat_eq_natCast]; omega) ?_
        rw [iAdd_]
        refine w64_w (by simp only [Int.ofNat_eq_natCast]; omega) (by simp only [Int.ofNat_eq_natCast]; omega) ?_
        rw [iEq_beq]
        refine ifA_w (fun e => absurd e (by simp)) fun _ => ?_
        rw [iAdd_]
        have q8 := q7.lem (((Le.refl H7).newr (.row (pk (0, 0)))).put (not_has_nx H7) (.row (pk (0, 100 * (r : Int) + (j : Int)))))
        refine w64_w (by simp only [Int.ofNat_eq_natCast]; omega) (by simp only [Int.ofNat_eq_natCast]; omega) (ih3 _ _ ⟨rfl, rfl, rfl, rfl, j + 1, by simp, by omega, q8⟩ ?_)
        simp only [Int.ofNat_eq_natCast]; omega
      · have e2 : j = i := by simp only [decide_eq_false_iff_not] at e2; omega
        subst e2
        have hd : (rg r j).drop j = [] := List.drop_eq_nil_of_le (by rw [rg_length]; exact Nat.le_refl _)
        refine h12 _ _ _ _ _ _ hq6 (fun _ H7 o7 q7 => ?_) fun x l hx => by rw [hd] at hx; cases hx
        rw [tup2_, asG_]
        refine arB_w (newK_w (stoN_we (ds := pk (0, 0)) (get_new _ _) rfl (by decide) rfl (ifA_w (fun e => absurd e (by decide)) fun _ => ?_)))
        have q8 := q7.lem (((Le.refl H7).newr (.row (pk (0, 0)))).put (not_has_nx H7) (.row (pk (0, 0))))
        refine h14 _ _ _ _ _ _ q8 fun H9 p9 c9 z9 _ q9 _ => ?_
        rw [asSl_, iEq_beq]
        refine ifA_w (fun e => absurd e (by simp)) fun _ => ?_
        rw [iAdd_]
        refine w64_w (by simp only [Int.ofNat_eq_natCast]; omega) (by simp only [Int.ofNat_eq_natCast]; omega) (ih _ _ ⟨rfl, rfl, rfl, r + 1, by simp, by omega, q9⟩ ?_)
        simp only [Int.ofNat_eq_natCast]; omega
  · refine h15 _ _ _ _ _ _ hq (arI_w (fB_w rfl))
end Go.Proofs
