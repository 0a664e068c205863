/- Rows of things, as the reference has them. -/
import Derived.Test.YtnncbfpkeikfaaaDT
import Derived.Test.YtnncbfpkeikfaaaBref6
namespace Go.Proofs
open Go Go.Vw Go.Vw.Ev
set_option linter.unusedVariables false
set_option linter.unusedSimpArgs false

theorem Sl.inT {H0 H : AH} {p : AP} {n z : Nat} {ts : List Th} (h : Sl H0 H p n z (thsC ts) 11) (hn : ts.length = n) : InT H p n ts :=
  ⟨hn, fun h0 => by
    rcases h.rep with ⟨h1, _⟩ | ⟨g, rfl, _, hg, hh, _⟩
    · exact absurd h1 h0
    · exact ⟨g, rfl, hh, .inr hg⟩⟩
theorem thC_inj {a b : Th} : cellsEqA (thC a) (thC b) = true ↔ a = b := by
  constructor
  · intro h
    have key : decide (a.id = b.id) = true ∧ decide (a.pt.x = b.pt.x) = true ∧ decide (a.pt.y = b.pt.y) = true ∧ decide (a.f0.n = b.f0.n) = true ∧ decide (a.f0.s = b.f0.s) = true ∧ decide (a.f1.n = b.f1.n) = true ∧ decide (a.f1.s = b.f1.s) = true ∧
        decide (a.f2.n = b.f2.n) = true ∧ decide (a.f2.s = b.f2.s) = true ∧ decide (a.f3.n = b.f3.n) = true ∧ decide (a.f3.s = b.f3.s) = true := by
      simp only [thC, ptC, fdC, List.cons_append, List.nil_append, cellsEqA, cellEqA, iEq_dec, sEq_dec] at h
      generalize decide (a.id = b.id) = b0 at *
      generalize decide (a.pt.x = b.pt.x) = b1 at *
      generalize decide (a.pt.y = b.pt.y) = b2 at *
      generalize decide (a.f0.n = b.f0.n) = b3 at *
      generalize decide (a.f0.s = b.f0.s) = b4 at *
      generalize decide (a.f1.n = b.f1.n) = b5 at *
      generalize decide (a.f1.s = b.f1.s) = b6 at *
      generalize decide (a.f2.n = b.f2.n) = b7 at *
      generalize decide (a.f2.s = b.f2.s) = b8 at *
      generalize decide (a.f3.n = b.f3.n) = b9 at *
      generalize decide (a.f3.s = b.f3.s) = b10 at *
      cases b0 <;> first | exact Bool.noConfusion h | skip
      cases b1 <;> first | exact Bool.noConfusion h | skip
      cases b2 <;> first | exact Bool.noConfusion h | skip
      cases b3 <;> first | exact Bool.noConfusion h | skip
      cases b4 <;> first | exact Bool.noConfusion h | skip
      cases b5 <;> first | exact Bool.noConfusion h | skip
      cases b6 <;> first | exact Bool.noConfusion h | skip
      cases b7 <;> first | exact Bool.noConfusion h | skip
      cases b8 <;> first | exact Bool.noConfusion h | skip
      cases b9 <;> first | exact Bool.noConfusion h | skip
      cases b10 <;> first | exact Bool.noConfusion h | skip
      exact ⟨rfl, rfl, rfl, rfl, rfl, rfl, rfl, rfl, rfl, rfl, rfl⟩
    simp only [decide_eq_true_eq] at key
    obtain ⟨e0, e1, e2, e3, e4, e5, e6, e7, e8, e9, e10⟩ := key
    obtain ⟨ai, ⟨ax, ay⟩, ⟨a0, a1⟩, ⟨a2, a3⟩, ⟨a4, a5⟩, ⟨a6, a7⟩⟩ := a
    obtain ⟨bi, ⟨bx, by_⟩, ⟨b0, b1⟩, ⟨b2, b3⟩, ⟨b4, b5⟩, ⟨b6, b7⟩⟩ := b
    simp only at e0 e1 e2 e3 e4 e5 e6 e7 e8 e9 e10
    subst e0 e1 e2 e3 e4 e5 e6 e7 e8 e9 e10
    rfl
  · rintro rfl
    simp only [thC, ptC, fdC, List.cons_append, List.nil_append, cellsEqA, cellEqA, iEq_dec, sEq_dec, decide_true]
def CSame6 (cl : Cl) : Prop := ∀ H p n c z1 q m d z2 ts us K, InT H p n ts → InT H q m us → n < 100000 → (∀ b, (b = true ↔ ts = us) → K (.s (.bool b)) H = true) → cl i_ref6_SameAll [.s (.slice p n c z1), .s (.slice q m d z2)] H K = true
theorem InT.at {H : AH} {p : AP} {n : Nat} {ts : List Th} (h : InT H p n ts) {i : Nat} (hi : i < n) : ∃ g, p = .at g 0 ∧ H.has g ∧ (H.get g = some (.fix (thsC ts)) ∨ H.get g = some (.row (thsC ts))) ∧ i * 11 + 11 ≤ (thsC ts).length ∧
    ((thsC ts).drop (i * 11)).take 11 = thC (ts[i]'(by rw [h.1]; exact hi)) ∧ (thsC ts)[i * 11]? = some (.int .i64 (ts[i]'(by rw [h.1]; exact hi)).id) := by
  obtain ⟨g, h1, h2, h3⟩ := h.2 (by omega)
  have hl : i < ts.length := by rw [h.1]; exact hi
  have ha := thsC_at ts i hl
  refine ⟨g, h1, h2, h3, by rw [thsC_len]; omega, ha, ?_⟩
  have := congrArg (·[0]?) ha
  rw [List.getElem?_take_of_lt (by decide), List.getElem?_drop, Nat.add_zero] at this
  rw [this]; rfl
theorem B_ref6_SameAll_ {lf : Nat} {cl : Cl} (hlf : 100000 ≤ lf) {H : AH} {p q : AP} {n m zz zy : Nat} {c d : ACap} {ts us : List Th} {K : AV → AH → Bool} (hp : InT H p n ts) (hq : InT H q m us) (hn : n < 100000) (hk : ∀ b, (b = true ↔ ts = us) → K (.s (.bool b)) H = true) :
    B_ref6_SameAll lf cl p n c zz q m d zy H K = true := by
  unfold B_ref6_SameAll
  rw [fB_eq, iEq_dec]
  refine ifA_w (fun h => hk false ⟨fun h => (by cases h), fun e => ?_⟩) (fun h => ?_)
  · have : n = m := by rw [← hp.1, ← hq.1, e]
    subst this
    rw [decide_eq_true rfl] at h
    cases h
  have hnm : n = m := by
    by_cases e : (Int.ofNat n) = Int.ofNat m
    · exact Int.ofNat.inj e
    · rw [decide_eq_false e] at h; cases h
  subst hnm
  refine loopX_w (fun x Hx => Hx = H ∧ x.1 = (p, n, c, zz) ∧ x.2.1 = (q, n, d, zy) ∧ ∃ i : Nat, x.2.2 = (i : Int) ∧ i ≤ n ∧ ts.take i = us.take i) (fun x => n - x.2.2.toNat) ⟨rfl, rfl, rfl, 0, rfl, by omega, rfl⟩ (by simp; omega) ?_
  rintro self ⟨x1, x2, x3⟩ Hx ⟨e0, e1, e2, i, e3, hi, ht⟩ ih
  simp only at e1 e2 e3
  subst e0 e1 e2 e3
  simp only [pR_, fB_eq, iLt_dec]
  have hlt := hp.1
  have hlu := hq.1
  refine ifA_w (fun hx => ?_) (fun hx => ?_)
  · have hx : i < n := by have := of_decide_eq_true hx; simp only [Int.ofNat_eq_natCast] at this; omega
    obtain ⟨g1, rfl, _, r1, l1, a1, _⟩ := hp.at hx
    obtain ⟨g2, rfl, _, r2, l2, a2, _⟩ := hq.at hx
    simp only [nilK_at, fN_eq, Nat.add_eq, Nat.mul_eq, Nat.zero_add]
    refine idxK_w (by omega) (by omega) (rowK_wo r1 (ldG_we (ys := thC (ts[i]'(by omega))) (by rw [Int.toNat_natCast]; exact l1) (by decide) (by rw [Int.toNat_natCast]; exact a1) ?_))
    refine idxK_w (by omega) (by omega) (rowK_wo r2 (ldG_we (ys := thC (us[i]'(by omega))) (by rw [Int.toNat_natCast]; exact l2) (by decide) (by rw [Int.toNat_natCast]; exact a2) (okK_w rfl ?_)))
    refine ifA_w (fun h => hk false ⟨fun h => (by cases h), fun e => ?_⟩) (fun h => ?_)
    · subst e
      rw [thC_inj.2 rfl] at h; cases h
    · have he : ts[i]'(by omega) = us[i]'(by omega) := thC_inj.1 (by cases h' : cellsEqA (thC (ts[i]'(by omega))) (thC (us[i]'(by omega))) with
        | true => rfl
        | false => rw [h'] at h; cases h)
      rw [iAdd_]
      refine w64_w (by simp only [Int.ofNat_eq_natCast]; omega) (by simp only [Int.ofNat_eq_natCast]; omega) (ih _ _ ⟨rfl, rfl, rfl, i + 1, by simp, by omega, ?_⟩ (by simp; omega))
      rw [List.take_succ_eq_append_getElem (by omega), List.take_succ_eq_append_getElem (by omega), ht, he]
  · have hx : i = n := by have := of_decide_eq_false hx; simp only [Int.ofNat_eq_natCast] at this; omega
    rw [hx, List.take_of_length_le (by omega), List.take_of_length_le (by omega)] at ht
    exact hk true ⟨fun _ => ht, fun _ => rfl⟩
def CAt6 (cl : Cl) : Prop := ∀ H p n c z ts id K, InT H p n ts → n < 100000 → (∀ r : Int, ((0 ≤ r ∧ ∃ (i : Nat) (hi : i < ts.length), r = (i : Int) ∧ ts[i].id = id) ∨ (r < 0 ∧ ∀ t ∈ ts, t.id ≠ id)) → K (.s (.int .i64 r)) H = true) → cl i_ref6_At [.s (.slice p n c z), .s (.int .i64 id)] H K = true
theorem B_ref6_At_ {lf : Nat} {cl : Cl} (hlf : 100000 ≤ lf) {H : AH} {p : AP} {n zz : Nat} {c : ACap} {ts : List Th} {id : Int} {K : AV → AH → Bool} (hp : InT H p n ts) (hn : n < 100000)
    (hk : ∀ r : Int, ((0 ≤ r ∧ ∃ (i : Nat) (hi : i < ts.length), r = (i : Int) ∧ ts[i].id = id) ∨ (r < 0 ∧ ∀ t ∈ ts, t.id ≠ id)) → K (.s (.int .i64 r)) H = true) : B_ref6_At lf cl p n c zz id H K = true := by
  unfold B_ref6_At
  have hlt := hp.1
  refine loopX_w (fun x Hx => Hx = H ∧ x.1 = (p, n, c, zz) ∧ x.2.1 = id ∧ ∃ i : Nat, x.2.2 = (i : Int) ∧ i ≤ n ∧ ∀ t ∈ ts.take i, t.id ≠ id) (fun x => n - x.2.2.toNat) ⟨rfl, rfl, rfl, 0, rfl, by omega, fun t h => (by simp at h)⟩ (by simp; omega) ?_
  rintro self ⟨x1, x2, x3⟩ Hx ⟨e0, e1, e2, i, e3, hi, ht⟩ ih
  simp only at e1 e2 e3
  subst e0 e1 e2 e3
  simp only [pR_, fB_eq, iLt_dec]
  refine ifA_w (fun hx => ?_) (fun hx => ?_)
  · have hx : i < n := by have := of_decide_eq_true hx; simp only [Int.ofNat_eq_natCast] at this; omega
    obtain ⟨g1, rfl, _, r1, l1, a1, i1⟩ := hp.at hx
    simp only [nilK_at, fN_eq, Nat.add_eq, Nat.mul_eq, Nat.zero_add, Nat.add_zero]
    refine idxK_w (by omega) (by omega) (rowK_wo r1 (ldI_w (by rw [Int.toNat_natCast]; exact i1) ?_))
    rw [iEq_dec]
    refine ifA_w (fun h => hk _ (.inl ⟨by omega, i, by omega, rfl, of_decide_eq_true h⟩)) (fun h => ?_)
    rw [iAdd_]
    refine w64_w (by simp only [Int.ofNat_eq_natCast]; omega) (by simp only [Int.ofNat_eq_natCast]; omega) (ih _ _ ⟨rfl, rfl, rfl, i + 1, by simp, by omega, fun t h' => ?_⟩ (by simp; omega))
    rw [List.take_succ_eq_append_getElem (by omega), List.mem_append, List.mem_singleton] at h'
    rcases h' with h' | rfl
    · exact ht t h'
    · exact of_decide_eq_false h
  · have hx : i = n := by have := of_decide_eq_false hx; simp only [Int.ofNat_eq_natCast] at this; omega
    rw [hx, List.take_of_length_le (by omega)] at ht
    exact hk _ (.inr ⟨by decide, ht⟩)
def notId (id : Int) (t : Th) : Bool := decide (t.id ≠ id)
def CWithout (cl : Cl) : Prop := ∀ H p n c z ts id K, InT H p n ts → n < 10000 → (∀ H' p' c' z', Le H H' → InT H' p' (ts.filter (notId id)).length (ts.filter (notId id)) → K (.s (.slice p' (ts.filter (notId id)).length c' z')) H' = true) → cl i_ref6_Without [.s (.slice p n c z), .s (.int .i64 id)] H K = true
theorem B_ref6_Without_ {lf : Nat} {cl : Cl} (hlf : 100000 ≤ lf) {H : AH} {p : AP} {n zz : Nat} {c : ACap} {ts : List Th} {id : Int} {K : AV → AH → Bool} (hp : InT H p n ts) (hn : n < 10000)
    (hk : ∀ H' p' c' z', Le H H' → InT H' p' (ts.filter (notId id)).length (ts.filter (notId id)) → K (.s (.slice p' (ts.filter (notId id)).length c' z')) H' = true) : B_ref6_Without lf cl p n c zz id H K = true := by
  unfold B_ref6_Without
  have hlt := hp.1
  refine loopX_w (fun x Hx => x.1 = (p, n, c, zz) ∧ x.2.1 = id ∧ Le H Hx ∧ ∃ i : Nat, x.2.2.2 = (i : Int) ∧ i ≤ n ∧ ∃ p1 c1 z1, x.2.2.1 = (p1, ((ts.take i).filter (notId id)).length, c1, z1) ∧ Sl H Hx p1 ((ts.take i).filter (notId id)).length z1 (thsC ((ts.take i).filter (notId id))) 11) (fun x => n - x.2.2.2.toNat)
    ⟨rfl, rfl, Le.refl _, 0, rfl, by omega, .nil, _, _, rfl, Sl.nil⟩ (by simp; omega) ?_
  rintro self ⟨x1, x2, x3, x4⟩ Hx ⟨e1, e2, hL, i, e4, hi, p1, c1, z1, e3, sl⟩ ih
  simp only at e1 e2 e3 e4
  subst e1 e2 e3 e4
  simp only [pR_, fB_eq, iLt_dec]
  refine ifA_w (fun hx => ?_) (fun hx => ?_)
  · have hx : i < n := by have := of_decide_eq_true hx; simp only [Int.ofNat_eq_natCast] at this; omega
    obtain ⟨g1, rfl, _, r1, l1, a1, i1⟩ := (hp.le hL).at hx
    simp only [nilK_at, fN_eq, Nat.add_eq, Nat.mul_eq, Nat.zero_add, Nat.add_zero]
    refine idxK_w (by omega) (by omega) (rowK_wo r1 (ldI_w (by rw [Int.toNat_natCast]; exact i1) ?_))
    rw [iEq_dec]
    have tk : (ts.take (i + 1)).filter (notId x2) = (ts.take i).filter (notId x2) ++ (if notId x2 (ts[i]'(by omega)) = true then [ts[i]'(by omega)] else []) := by
      rw [List.take_succ_eq_append_getElem (by omega), List.filter_append, List.filter_cons, List.filter_nil]
    have lb10 : ((ts.take i).filter (notId x2)).length ≤ i := Nat.le_trans (List.length_filter_le _ _) (by simp; omega)
    refine ifA_w (fun h => ?_) (fun h => ?_)
    · have hne : notId x2 (ts[i]'(by omega)) = true := by
        unfold notId
        by_cases e : (ts[i]'(by omega)).id = x2
        · rw [decide_eq_true e] at h; cases h
        · exact decide_eq_true e
      rw [if_pos hne] at tk
      refine idxK_w (by omega) (by omega) (rowK_wo r1 (ldG_we (ys := thC (ts[i]'(by omega))) (by rw [Int.toNat_natCast]; exact l1) (by decide) (by rw [Int.toNat_natCast]; exact a1) (okK_w rfl (fL_w ?_))))
      rw [ap_eq, List.append_nil]
      refine okK_w rfl (newK_w ?_)
      refine elK_w (ys := thC (ts[i]'(by omega))) (get_new _ _) (by rw [thC_len]; decide) rfl ?_
      refine app_w (sl.le (Le.new _ _)) (hL.newr _) (m := 1) rfl (by decide) (by omega) (by omega) fun p2 c2 z2 H2 hL2 sl2 _ => ?_
      rw [iAdd_]
      refine w64_w (by simp only [Int.ofNat_eq_natCast]; omega) (by simp only [Int.ofNat_eq_natCast]; omega) (ih _ _ ⟨rfl, rfl, hL2, i + 1, by simp, by omega, p2, c2, z2, ?_, ?_⟩ (by simp; omega))
      · rw [tk]; simp
      · rw [tk, thsC, List.flatMap_append, List.length_append]
        simpa [thsC] using sl2
    · have hne : ¬ notId x2 (ts[i]'(by omega)) = true := by
        unfold notId
        by_cases e : (ts[i]'(by omega)).id = x2
        · simp [e]
        · rw [decide_eq_false e] at h; cases h
      rw [if_neg hne, List.append_nil] at tk
      rw [iAdd_]
      exact w64_w (by simp only [Int.ofNat_eq_natCast]; omega) (by simp only [Int.ofNat_eq_natCast]; omega) (ih _ _ ⟨rfl, rfl, hL, i + 1, by simp, by omega, p1, c1, z1, by rw [tk], by rw [tk]; exact sl⟩ (by simp; omega))
  · have hx : i = n := by have := of_decide_eq_false hx; simp only [Int.ofNat_eq_natCast] at this; omega
    rw [hx, List.take_of_length_le (by omega)] at sl ⊢
    exact hk _ _ _ _ hL (Sl.inT sl rfl)
end Go.Proofs
