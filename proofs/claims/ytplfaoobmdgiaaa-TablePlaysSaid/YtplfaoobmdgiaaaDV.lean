import Derived.Test.YtplfaoobmdgiaaaDU
import Derived.Test.YtplfaoobmdgiaaaBR
import Derived.Test.YtplfaoobmdgiaaaBQ
import Derived.Test.YtplfaoobmdgiaaaVwClone
import Derived.Test.YtplfaoobmdgiaaaDD
section
/- Rows of things, as the reference has them. -/
namespace Go.Proofs
open Go Go.Vw Go.Vw.Ev
set_option linter.unusedVariables false
set_option linter.unusedSimpArgs false

theorem Sl.inT {H0 H : AH} {p : AP} {n z : Nat} {ts : List Th} (h : Sl H0 H p n z (thsC ts) 11) (hn : ts.length = n) : InT H p n ts :=
  ⟨hn, fun h0 => by
    rcases h.rep with ⟨h1, _⟩ | ⟨g, rfl, _, hg, hh, _⟩
    · exact absurd h1 h0
    · exact ⟨g, rfl, hh, .inr hg⟩⟩
theorem thC_inj {a b : Th} : cellsEqA (thC a) (thC b) = true ↔ a = b := by
  constructor
  · intro h
    have key : decide (a.id = b.id) = true ∧ decide (a.pt.x = b.pt.x) = true ∧ decide (a.pt.y = b.pt.y) = true ∧ decide (a.f0.n = b.f0.n) = true ∧ decide (a.f0.s = b.f0.s) = true ∧ decide (a.f1.n = b.f1.n) = true ∧ decide (a.f1.s = b.f1.s) = true ∧
        decide (a.f2.n = b.f2.n) = true ∧ decide (a.f2.s = b.f2.s) = true ∧ decide (a.f3.n = b.f3.n) = true ∧ decide (a.f3.s = b.f3.s) = true := by
      simp only [thC, ptC, fdC, List.cons_append, List.nil_append, cellsEqA, cellEqA, iEq_dec, sEq_dec] at h
      generalize decide (a.id = b.id) = b0 at *
      generalize decide (a.pt.x = b.pt.x) = b1 at *
      generalize decide (a.pt.y = b.pt.y) = b2 at *
      generalize decide (a.f0.n = b.f0.n) = b3 at *
      generalize decide (a.f0.s = b.f0.s) = b4 at *
      generalize decide (a.f1.n = b.f1.n) = b5 at *
      generalize decide (a.f1.s = b.f1.s) = b6 at *
      generalize decide (a.f2.n = b.f2.n) = b7 at *
      generalize decide (a.f2.s = b.f2.s) = b8 at *
      generalize decide (a.f3.n = b.f3.n) = b9 at *
      generalize decide (a.f3.s = b.f3.s) = b10 at *
      cases b0 <;> first | exact Bool.noConfusion h | skip
      cases b1 <;> first | exact Bool.noConfusion h | skip
      cases b2 <;> first | exact Bool.noConfusion h | skip
      cases b3 <;> first | exact Bool.noConfusion h | skip
      cases b4 <;> first | exact Bool.noConfusion h | skip
      cases b5 <;> first | exact Bool.noConfusion h | skip
      cases b6 <;> first | exact Bool.noConfusion h | skip
      cases b7 <;> first | exact Bool.noConfusion h | skip
      cases b8 <;> first | exact Bool.noConfusion h | skip
      cases b9 <;> first | exact Bool.noConfusion h | skip
      cases b10 <;> first | exact Bool.noConfusion h | skip
      exact ⟨rfl, rfl, rfl, rfl, rfl, rfl, rfl, rfl, rfl, rfl, rfl⟩
    simp only [decide_eq_true_eq] at key
    obtain ⟨e0, e1, e2, e3, e4, e5, e6, e7, e8, e9, e10⟩ := key
    obtain ⟨ai, ⟨ax, ay⟩, ⟨a0, a1⟩, ⟨a2, a3⟩, ⟨a4, a5⟩, ⟨a6, a7⟩⟩ := a
    obtain ⟨bi, ⟨bx, by_⟩, ⟨b0, b1⟩, ⟨b2, b3⟩, ⟨b4, b5⟩, ⟨b6, b7⟩⟩ := b
    simp only at e0 e1 e2 e3 e4 e5 e6 e7 e8 e9 e10
    subst e0 e1 e2 e3 e4 e5 e6 e7 e8 e9 e10
    rfl
  · rintro rfl
    simp only [thC, ptC, fdC, List.cons_append, List.nil_append, cellsEqA, cellEqA, iEq_dec, sEq_dec, decide_true]
def CSame6 (cl : Cl) : Prop := ∀ H p n c z1 q m d z2 ts us K, InT H p n ts → InT H q m us → n < 100000 → (∀ b, (b = true ↔ ts = us) → K (.s (.bool b)) H = true) → cl i_ref6_SameAll [.s (.slice p n c z1), .s (.slice q m d z2)] H K = true
theorem InT.at {H : AH} {p : AP} {n : Nat} {ts : List Th} (h : InT H p n ts) {i : Nat} (hi : i < n) : ∃ g, p = .at g 0 ∧ H.has g ∧ (H.get g = some (.fix (thsC ts)) ∨ H.get g = some (.row (thsC ts))) ∧ i * 11 + 11 ≤ (thsC ts).length ∧
    ((thsC ts).drop (i * 11)).take 11 = thC (ts[i]'(by rw [h.1]; exact hi)) ∧ (thsC ts)[i * 11]? = some (.int .i64 (ts[i]'(by rw [h.1]; exact hi)).id) := by
  obtain ⟨g, h1, h2, h3⟩ := h.2 (by omega)
  have hl : i < ts.length := by rw [h.1]; exact hi
  have ha := thsC_at ts i hl
  refine ⟨g, h1, h2, h3, by rw [thsC_len]; omega, ha, ?_⟩
  have := congrArg (·[0]?) ha
  rw [List.getElem?_take_of_lt (by decide), List.getElem?_drop, Nat.add_zero] at this
  rw [this]; rfl
theorem B_ref6_SameAll_ {lf : Nat} {cl : Cl} (hlf : 100000 ≤ lf) {H : AH} {p q : AP} {n m zz zy : Nat} {c d : ACap} {ts us : List Th} {K : AV → AH → Bool} (hp : InT H p n ts) (hq : InT H q m us) (hn : n < 100000) (hk : ∀ b, (b = true ↔ ts = us) → K (.s (.bool b)) H = true) :
    B_ref6_SameAll lf cl p n c zz q m d zy H K = true := by
  unfold B_ref6_SameAll
  rw [fB_eq, iEq_dec]
  refine ifA_w (fun h => hk false ⟨fun h => (by cases h), fun e => ?_⟩) (fun h => ?_)
  · have : n = m := by rw [← hp.1, ← hq.1, e]
    subst this
    rw [decide_eq_true rfl] at h
    cases h
  have hnm : n = m := by
    by_cases e : (Int.ofNat n) = Int.ofNat m
    · exact Int.ofNat.inj e
    · rw [decide_eq_false e] at h; cases h
  subst hnm
  refine loopX_w (fun x Hx => Hx = H ∧ x.1 = (p, n, c, zz) ∧ x.2.1 = (q, n, d, zy) ∧ ∃ i : Nat, x.2.2 = (i : Int) ∧ i ≤ n ∧ ts.take i = us.take i) (fun x => n - x.2.2.toNat) ⟨rfl, rfl, rfl, 0, rfl, by omega, rfl⟩ (by simp; omega) ?_
  rintro self ⟨x1, x2, x3⟩ Hx ⟨e0, e1, e2, i, e3, hi, ht⟩ ih
  simp only at e1 e2 e3
  subst e0 e1 e2 e3
  simp only [pR_, fB_eq, iLt_dec]
  have hlt := hp.1
  have hlu := hq.1
  refine ifA_w (fun hx => ?_) (fun hx => ?_)
  · have hx : i < n := by have := of_decide_eq_true hx; simp only [Int.ofNat_eq_natCast] at this; omega
    obtain ⟨g1, rfl, _, r1, l1, a1, _⟩ := hp.at hx
    obtain ⟨g2, rfl, _, r2, l2, a2, _⟩ := hq.at hx
    simp only [nilK_at, fN_eq, Nat.add_eq, Nat.mul_eq, Nat.zero_add]
    refine idxK_w (by omega) (by omega) (rowK_wo r1 (ldG_we (ys := thC (ts[i]'(by omega))) (by rw [Int.toNat_natCast]; exact l1) (by decide) (by rw [Int.toNat_natCast]; exact a1) ?_))
    refine idxK_w (by omega) (by omega) (rowK_wo r2 (ldG_we (ys := thC (us[i]'(by omega))) (by rw [Int.toNat_natCast]; exact l2) (by decide) (by rw [Int.toNat_natCast]; exact a2) (okK_w rfl ?_)))
    refine ifA_w (fun h => hk false ⟨fun h => (by cases h), fun e => ?_⟩) (fun h => ?_)
    · subst e
      rw [thC_inj.2 rfl] at h; cases h
    · have he : ts[i]'(by omega) = us[i]'(by omega) := thC_inj.1 (by cases h' : cellsEqA (thC (ts[i]'(by omega))) (thC (us[i]'(by omega))) with
        | true => rfl
        | false => rw [h'] at h; cases h)
      rw [iAdd_]
      refine w64_w (by simp only [Int.ofNat_eq_natCast]; omega) (by simp only [Int.ofNat_eq_natCast]; omega) (ih _ _ ⟨rfl, rfl, rfl, i + 1, by simp, by omega, ?_⟩ (by simp; omega))
      rw [List.take_succ_eq_append_getElem (by omega), List.take_succ_eq_append_getElem (by omega), ht, he]
  · have hx : i = n := by have := of_decide_eq_false hx; simp only [Int.ofNat_eq_natCast] at this; omega
    rw [hx, List.take_of_length_le (by omega), List.take_of_length_le (by omega)] at ht
    exact hk true ⟨fun _ => ht, fun _ => rfl⟩
def CAt6 (cl : Cl) : Prop := ∀ H p n c z ts id K, InT H p n ts → n < 100000 → (∀ r : Int, ((0 ≤ r ∧ ∃ (i : Nat) (hi : i < ts.length), r = (i : Int) ∧ ts[i].id = id) ∨ (r < 0 ∧ ∀ t ∈ ts, t.id ≠ id)) → K (.s (.int .i64 r)) H = true) → cl i_ref6_At [.s (.slice p n c z), .s (.int .i64 id)] H K = true
theorem B_ref6_At_ {lf : Nat} {cl : Cl} (hlf : 100000 ≤ lf) {H : AH} {p : AP} {n zz : Nat} {c : ACap} {ts : List Th} {id : Int} {K : AV → AH → Bool} (hp : InT H p n ts) (hn : n < 100000)
    (hk : ∀ r : Int, ((0 ≤ r ∧ ∃ (i : Nat) (hi : i < ts.length), r = (i : Int) ∧ ts[i].id = id) ∨ (r < 0 ∧ ∀ t ∈ ts, t.id ≠ id)) → K (.s (.int .i64 r)) H = true) : B_ref6_At lf cl p n c zz id H K = true := by
  unfold B_ref6_At
  have hlt := hp.1
  refine loopX_w (fun x Hx => Hx = H ∧ x.1 = (p, n, c, zz) ∧ x.2.1 = id ∧ ∃ i : Nat, x.2.2 = (i : Int) ∧ i ≤ n ∧ ∀ t ∈ ts.take i, t.id ≠ id) (fun x => n - x.2.2.toNat) ⟨rfl, rfl, rfl, 0, rfl, by omega, fun t h => (by simp at h)⟩ (by simp; omega) ?_
  rintro self ⟨x1, x2, x3⟩ Hx ⟨e0, e1, e2, i, e3, hi, ht⟩ ih
  simp only at e1 e2 e3
  subst e0 e1 e2 e3
  simp only [pR_, fB_eq, iLt_dec]
  refine ifA_w (fun hx => ?_) (fun hx => ?_)
  · have hx : i < n := by have := of_decide_eq_true hx; simp only [Int.ofNat_eq_natCast] at this; omega
    obtain ⟨g1, rfl, _, r1, l1, a1, i1⟩ := hp.at hx
    simp only [nilK_at, fN_eq, Nat.add_eq, Nat.mul_eq, Nat.zero_add, Nat.add_zero]
    refine idxK_w (by omega) (by omega) (rowK_wo r1 (ldI_w (by rw [Int.toNat_natCast]; exact i1) ?_))
    rw [iEq_dec]
    refine ifA_w (fun h => hk _ (.inl ⟨by omega, i, by omega, rfl, of_decide_eq_true h⟩)) (fun h => ?_)
    rw [iAdd_]
    refine w64_w (by simp only [Int.ofNat_eq_natCast]; omega) (by simp only [Int.ofNat_eq_natCast]; omega) (ih _ _ ⟨rfl, rfl, rfl, i + 1, by simp, by omega, fun t h' => ?_⟩ (by simp; omega))
    rw [List.take_succ_eq_append_getElem (by omega), List.mem_append, List.mem_singleton] at h'
    rcases h' with h' | rfl
    · exact ht t h'
    · exact of_decide_eq_false h
  · have hx : i = n := by have := of_decide_eq_false hx; simp only [Int.ofNat_eq_natCast] at this; omega
    rw [hx, List.take_of_length_le (by omega)] at ht
    exact hk _ (.inr ⟨by decide, ht⟩)
def notId (id : Int) (t : Th) : Bool := decide (t.id ≠ id)
def CWithoutS (cl : Cl) : Prop := ∀ H p n c z ts id K, InT H p n ts → n < 10000 → (∀ H' p' c' z', Le H H' → Sl H H' p' (ts.filter (notId id)).length z' (thsC (ts.filter (notId id))) 11 → K (.s (.slice p' (ts.filter (notId id)).length c' z')) H' = true) → cl i_ref6_Without [.s (.slice p n c z), .s (.int .i64 id)] H K = true
def CWithout (cl : Cl) : Prop := ∀ H p n c z ts id K, InT H p n ts → n < 10000 → (∀ H' p' c' z', Le H H' → InT H' p' (ts.filter (notId id)).length (ts.filter (notId id)) → K (.s (.slice p' (ts.filter (notId id)).length c' z')) H' = true) → cl i_ref6_Without [.s (.slice p n c z), .s (.int .i64 id)] H K = true
theorem B_ref6_WithoutS_ {lf : Nat} {cl : Cl} (hlf : 100000 ≤ lf) {H : AH} {p : AP} {n zz : Nat} {c : ACap} {ts : List Th} {id : Int} {K : AV → AH → Bool} (hp : InT H p n ts) (hn : n < 10000)
    (hk : ∀ H' p' c' z', Le H H' → Sl H H' p' (ts.filter (notId id)).length z' (thsC (ts.filter (notId id))) 11 → K (.s (.slice p' (ts.filter (notId id)).length c' z')) H' = true) : B_ref6_Without lf cl p n c zz id H K = true := by
  unfold B_ref6_Without
  have hlt := hp.1
  refine loopX_w (fun x Hx => x.1 = (p, n, c, zz) ∧ x.2.1 = id ∧ Le H Hx ∧ ∃ i : Nat, x.2.2.2 = (i : Int) ∧ i ≤ n ∧ ∃ p1 c1 z1, x.2.2.1 = (p1, ((ts.take i).filter (notId id)).length, c1, z1) ∧ Sl H Hx p1 ((ts.take i).filter (notId id)).length z1 (thsC ((ts.take i).filter (notId id))) 11) (fun x => n - x.2.2.2.toNat)
    ⟨rfl, rfl, Le.refl _, 0, rfl, by omega, .nil, _, _, rfl, Sl.nil⟩ (by simp; omega) ?_
  rintro self ⟨x1, x2, x3, x4⟩ Hx ⟨e1, e2, hL, i, e4, hi, p1, c1, z1, e3, sl⟩ ih
  simp only at e1 e2 e3 e4
  subst e1 e2 e3 e4
  simp only [pR_, fB_eq, iLt_dec]
  refine ifA_w (fun hx => ?_) (fun hx => ?_)
  · have hx : i < n := by have := of_decide_eq_true hx; simp only [Int.ofNat_eq_natCast] at this; omega
    obtain ⟨g1, rfl, _, r1, l1, a1, i1⟩ := (hp.le hL).at hx
    simp only [nilK_at, fN_eq, Nat.add_eq, Nat.mul_eq, Nat.zero_add, Nat.add_zero]
    refine idxK_w (by omega) (by omega) (rowK_wo r1 (ldI_w (by rw [Int.toNat_natCast]; exact i1) ?_))
    rw [iEq_dec]
    have tk : (ts.take (i + 1)).filter (notId x2) = (ts.take i).filter (notId x2) ++ (if notId x2 (ts[i]'(by omega)) = true then [ts[i]'(by omega)] else []) := by
      rw [List.take_succ_eq_append_getElem (by omega), List.filter_append, List.filter_cons, List.filter_nil]
    have lb10 : ((ts.take i).filter (notId x2)).length ≤ i := Nat.le_trans (List.length_filter_le _ _) (by simp; omega)
    refine ifA_w (fun h => ?_) (fun h => ?_)
    · have hne : notId x2 (ts[i]'(by omega)) = true := by
        unfold notId
        by_cases e : (ts[i]'(by omega)).id = x2
        · rw [decide_eq_true e] at h; cases h
        · exact decide_eq_true e
      rw [if_pos hne] at tk
      refine idxK_w (by omega) (by omega) (rowK_wo r1 (ldG_we (ys := thC (ts[i]'(by omega))) (by rw [Int.toNat_natCast]; exact l1) (by decide) (by rw [Int.toNat_natCast]; exact a1) (okK_w rfl (fL_w ?_))))
      rw [ap_eq, List.append_nil]
      refine okK_w rfl (newK_w ?_)
      refine elK_w (ys := thC (ts[i]'(by omega))) (get_new _ _) (by rw [thC_len]; decide) rfl ?_
      refine app_w (sl.le (Le.new _ _)) (hL.newr _) (m := 1) rfl (by decide) (by omega) (by omega) fun p2 c2 z2 H2 hL2 sl2 _ => ?_
      rw [iAdd_]
      refine w64_w (by simp only [Int.ofNat_eq_natCast]; omega) (by simp only [Int.ofNat_eq_natCast]; omega) (ih _ _ ⟨rfl, rfl, hL2, i + 1, by simp, by omega, p2, c2, z2, ?_, ?_⟩ (by simp; omega))
      · rw [tk]; simp
      · rw [tk, thsC, List.flatMap_append, List.length_append]
        simpa [thsC] using sl2
    · have hne : ¬ notId x2 (ts[i]'(by omega)) = true := by
        unfold notId
        by_cases e : (ts[i]'(by omega)).id = x2
        · simp [e]
        · rw [decide_eq_false e] at h; cases h
      rw [if_neg hne, List.append_nil] at tk
      rw [iAdd_]
      exact w64_w (by simp only [Int.ofNat_eq_natCast]; omega) (by simp only [Int.ofNat_eq_natCast]; omega) (ih _ _ ⟨rfl, rfl, hL, i + 1, by simp, by omega, p1, c1, z1, by rw [tk], by rw [tk]; exact sl⟩ (by simp; omega))
  · have hx : i = n := by have := of_decide_eq_false hx; simp only [Int.ofNat_eq_natCast] at this; omega
    rw [hx, List.take_of_length_le (by omega)] at sl ⊢
    exact hk _ _ _ _ hL sl
theorem B_ref6_Without_ {lf : Nat} {cl : Cl} (hlf : 100000 ≤ lf) {H : AH} {p : AP} {n zz : Nat} {c : ACap} {ts : List Th} {id : Int} {K : AV → AH → Bool} (hp : InT H p n ts) (hn : n < 10000)
    (hk : ∀ H' p' c' z', Le H H' → InT H' p' (ts.filter (notId id)).length (ts.filter (notId id)) → K (.s (.slice p' (ts.filter (notId id)).length c' z')) H' = true) : B_ref6_Without lf cl p n c zz id H K = true :=
  B_ref6_WithoutS_ hlf hp hn fun H' p' c' z' h sl => hk _ _ _ _ h (Sl.inT sl rfl)
end Go.Proofs
end
section
/- The reference's rows of things: what a thing must be, with one, without one, those in a rectangle; and rows that rise. -/
namespace Go.Proofs
open Go Go.Vw Go.Vw.Ev
set_option linter.unusedVariables false
set_option linter.unusedSimpArgs false

/-! What a thing must be. -/
def CIsF6 (cl : Cl) : Prop := ∀ f H K, (∀ H', Le H H' → K (.s (.bool (IsF f))) H' = true) → cl i_ref6_IsField [.agg (fdC f)] H K = true
theorem B_ref6_IsField_ {lf : Nat} {cl : Cl} {f : Fd} {H : AH} {K : AV → AH → Bool} (hk : ∀ H', Le H H' → K (.s (.bool (IsF f))) H' = true) : B_ref6_IsField lf cl (fdC f) H K = true := by
  unfold B_ref6_IsField
  refine new_w fun g H1 h1 hg ng gg => ?_
  have hs : ∀ K : List Nat → Bool, K f.s = true → rowK H1 g (fun cs => ldStr cs 1 K) = true := fun K h => rowK_w gg (ldStr_w (p := f.s) rfl h)
  refine rowK_w gg (ldI_w (n := f.n) rfl ?_)
  have k1 := hk H1 h1
  simp only [fB_eq, fN_eq, iEq_dec, iLe_dec, sEq_dec, ln_eq] at *
  have e12 : decide ((Int.ofNat f.s.length) ≤ Int.ofNat 12) = decide (f.s.length ≤ 12) := by congr 1; simp only [Int.ofNat_eq_natCast]; exact propext (by omega)
  unfold IsF at k1
  refine ifA_w (fun h => ?_) (fun h => ?_)
  · replace h : decide (f.n = 0) = true := h
    refine hs _ ?_
    rw [h, Bool.true_or, Bool.true_and] at k1
    rw [e12]; exact k1
  · replace h : decide (f.n = 0) = false := h
    refine hs _ ?_
    rw [h, Bool.false_or] at k1
    refine ifA_w (fun h2 => hs _ ?_) (fun h2 => ?_)
    · rw [h2, Bool.true_and] at k1
      rw [e12]; exact k1
    · rw [h2, Bool.false_and] at k1
      exact k1
theorem thC_fd6 (t : Th) : ∀ k : Nat, k < 4 → ((thC t).drop (3 + k * 2)).take 2 = fdC (t.fs k) := lt4 rfl rfl rfl rfl
def okT (t : Th) : Nat → Bool
  | 0 => decide (0 ≤ t.id) && (decide (t.id ≤ 1000000) && On t.pt)
  | i + 1 => okT t i && IsF (t.fs i)
theorem okT_all (t : Th) : okT t 4 = IsTh t := by
  unfold IsTh
  show (((((decide (0 ≤ t.id) && (decide (t.id ≤ 1000000) && On t.pt)) && IsF t.f0) && IsF t.f1) && IsF t.f2) && IsF t.f3) = _
  cases decide (0 ≤ t.id) <;> cases decide (t.id ≤ 1000000) <;> cases On t.pt <;> cases IsF t.f0 <;> cases IsF t.f1 <;> cases IsF t.f2 <;> cases IsF t.f3 <;> rfl
def CIs6 (cl : Cl) : Prop := ∀ t H K, (∀ H', Le H H' → K (.s (.bool (IsTh t))) H' = true) → cl i_ref6_Is [.agg (thC t)] H K = true
theorem B_ref6_Is_ {lf : Nat} {cl : Cl} (hlf : 10 ≤ lf) (hon : CPtB i_ref3_On On cl) (hf : CIsF6 cl) {t : Th} {H : AH} {K : AV → AH → Bool} (hk : ∀ H', Le H H' → K (.s (.bool (IsTh t))) H' = true) : B_ref6_Is lf cl (thC t) H K = true := by
  unfold B_ref6_Is
  refine new_w fun g H1 h1 hg ng gg => ?_
  refine joinX_w (fun x Hx => Le H1 Hx ∧ x.1 = .at g 0 ∧ x.2 = okT t 0) ?_ ?_
  · rintro ⟨x1, x2⟩ H2 ⟨hL, e1, e2⟩
    simp only at e1 e2
    subst e1 e2
    simp only [pR_]
    refine loopX_w (fun x Hx => Le H1 Hx ∧ x.1 = .at g 0 ∧ ∃ i : Nat, x.2.2 = (i : Int) ∧ i ≤ 4 ∧ x.2.1 = okT t i) (fun x => 4 - x.2.2.toNat) ⟨hL, rfl, 0, rfl, by omega, rfl⟩ (by simp; omega) ?_
    rintro self ⟨x1, x2, x3⟩ H3 ⟨hL3, e1, i, e3, hi, e2⟩ ih
    simp only at e1 e2 e3
    subst e1 e2 e3
    simp only [pR_, fB_eq, iLt_dec]
    refine ifA_w (fun hx => ?_) (fun hx => ?_)
    · have hx : i < 4 := by have h : (i : Int) < 4 := of_decide_eq_true hx; omega
      refine ifA_w (fun hb => ?_) (fun hb => ?_)
      · simp only [nilK_at, fN_eq, Nat.add_eq, Nat.zero_add]
        refine idxK_w (by omega) (by omega) ?_
        simp only [Int.toNat_natCast, Nat.mul_eq]
        refine rowK_w ((hL3.get _ hg).trans gg) (ldG_we (by rw [thC_len]; omega) (by decide) (thC_fd6 t i hx) (hf _ _ _ fun H4 h4 => arB_w ?_))
        rw [iAdd_]
        exact w64_w (by simp only [Int.ofNat_eq_natCast]; omega) (by simp only [Int.ofNat_eq_natCast]; omega) (ih _ _ ⟨hL3.trans h4, rfl, i + 1, by simp, by omega, by unfold okT; rw [hb, Bool.true_and]⟩ (by simp; omega))
      · rw [iAdd_]
        exact w64_w (by simp only [Int.ofNat_eq_natCast]; omega) (by simp only [Int.ofNat_eq_natCast]; omega) (ih _ _ ⟨hL3, rfl, i + 1, by simp, by omega, by unfold okT; rw [hb, Bool.false_and]⟩ (by simp; omega))
    · have hx : i = 4 := by have h : ¬ (i : Int) < 4 := of_decide_eq_false hx; omega
      subst hx
      rw [okT_all]
      exact hk _ (h1.trans hL3)
  · intro J hJ
    have k0 := fun b Hx hL (e : b = okT t 0) => hJ (.at g 0, b) Hx ⟨hL, rfl, e⟩
    refine rowK_w gg (ldI_w (n := t.id) rfl ?_)
    simp only [fB_eq, iLe_dec]
    refine ifA_w (fun h => ?_) (fun h => k0 _ _ (Le.refl _) ?_)
    · refine rowK_w gg (ldI_w (n := t.id) rfl ?_)
      refine ifA_w (fun h2 => ?_) (fun h2 => k0 _ _ (Le.refl _) ?_)
      · refine rowK_w gg (ldG_we (ys := ptC t.pt) (by rw [thC_len]; decide) (by decide) (thC_1 t) (hon _ _ _ fun H2 h2' => arB_w (k0 _ _ h2' ?_)))
        show _ = (decide (0 ≤ t.id) && (decide (t.id ≤ 1000000) && On t.pt))
        rw [show decide (0 ≤ t.id) = true from h, show decide (t.id ≤ 1000000) = true from h2]; rfl
      · show _ = (decide (0 ≤ t.id) && (decide (t.id ≤ 1000000) && On t.pt))
        rw [show decide (0 ≤ t.id) = true from h, show decide (t.id ≤ 1000000) = false from h2]; rfl
    · show _ = (decide (0 ≤ t.id) && (decide (t.id ≤ 1000000) && On t.pt))
      rw [show decide (0 ≤ t.id) = false from h]; rfl
/-! Those in a rectangle. -/
theorem Sl.base {H0 H1 H : AH} {p : AP} {n z : Nat} {cs : List AS} {sz : Nat} (h : Sl H1 H p n z cs sz) (k : Le H0 H1) : Sl H0 H p n z cs sz :=
  ⟨h.len, h.rep.imp id fun ⟨g, h1, h2, h3, h4, h5⟩ => ⟨g, h1, h2, h3, h4, fun h => h5 (k.has _ h)⟩⟩
def inP (r : Rc) (t : Th) : Bool := RIn r t.pt
def CSeen (cl : Cl) : Prop := ∀ H p n c z ts r K, InT H p n ts → n < 10000 → (∀ H' p' c' z', Le H H' → Sl H H' p' (ts.filter (inP r)).length z' (thsC (ts.filter (inP r))) 11 → K (.s (.slice p' (ts.filter (inP r)).length c' z')) H' = true) → cl i_ref6_Seen [.s (.slice p n c z), .agg (rcC r)] H K = true
theorem InT.pt {H : AH} {p : AP} {n : Nat} {ts : List Th} (h : InT H p n ts) {i : Nat} (hi : i < n) : ((thsC ts).drop (i * 11 + 1)).take 2 = ptC (ts[i]'(by rw [h.1]; exact hi)).pt := by
  have ha := thsC_at ts i (by rw [h.1]; exact hi)
  have := congrArg (fun l => (l.drop 1).take 2) ha
  simp only [List.drop_take, List.drop_drop, List.take_take] at this
  rw [show i * 11 + 1 = i * 11 + 1 from rfl]
  exact this
theorem B_ref6_Seen_ {lf : Nat} {cl : Cl} (hlf : 100000 ≤ lf) (hin : CRcPtB i_ref3_In RIn cl) {H : AH} {p : AP} {n zz : Nat} {c : ACap} {ts : List Th} {r : Rc} {K : AV → AH → Bool} (hp : InT H p n ts) (hn : n < 10000)
    (hk : ∀ H' p' c' z', Le H H' → Sl H H' p' (ts.filter (inP r)).length z' (thsC (ts.filter (inP r))) 11 → K (.s (.slice p' (ts.filter (inP r)).length c' z')) H' = true) : B_ref6_Seen lf cl p n c zz (rcC r) H K = true := by
  unfold B_ref6_Seen
  have hlt := hp.1
  refine new_w fun gr H1 h1 hgr ngr ggr => ?_
  replace hp := hp.le h1
  refine loopX_w (fun x Hx => x.1 = (p, n, c, zz) ∧ x.2.1 = .at gr 0 ∧ Le H1 Hx ∧ ∃ i : Nat, x.2.2.2 = (i : Int) ∧ i ≤ n ∧ ∃ p1 c1 z1, x.2.2.1 = (p1, ((ts.take i).filter (inP r)).length, c1, z1) ∧ Sl H1 Hx p1 ((ts.take i).filter (inP r)).length z1 (thsC ((ts.take i).filter (inP r))) 11) (fun x => n - x.2.2.2.toNat)
    ⟨rfl, rfl, Le.refl _, 0, rfl, by omega, .nil, _, _, rfl, Sl.nil⟩ (by simp; omega) ?_
  rintro self ⟨x1, x2, x3, x4⟩ Hx ⟨e1, e2, hL, i, e4, hi, p1, c1, z1, e3, sl⟩ ih
  simp only at e1 e2 e3 e4
  subst e1 e2 e3 e4
  simp only [pR_, fB_eq, iLt_dec]
  refine ifA_w (fun hx => ?_) (fun hx => ?_)
  · have hx : i < n := by have := of_decide_eq_true hx; simp only [Int.ofNat_eq_natCast] at this; omega
    have hpt := hp.pt hx
    obtain ⟨g1, rfl, hh1, r1, l1, a1, i1⟩ := hp.at hx
    have r1x : ∀ {Hy}, Le H1 Hy → Hy.get g1 = some (.fix (thsC ts)) ∨ Hy.get g1 = some (.row (thsC ts)) := fun k => r1.imp (fun e => (k.get _ hh1).trans e) (fun e => (k.get _ hh1).trans e)
    simp only [nilK_at, fN_eq, Nat.add_eq, Nat.mul_eq, Nat.zero_add, Nat.add_zero]
    refine rowK_w ((hL.get _ hgr).trans ggr) (ldG_we (ys := rcC r) (Nat.le_refl 4) (by decide) rfl ?_)
    refine idxK_w (by omega) (by omega) (rowK_wo (r1x hL) (ldG_we (ys := ptC (ts[i]'(by omega)).pt) (by rw [Int.toNat_natCast]; omega) (by decide) (by rw [Int.toNat_natCast]; exact hpt) ?_))
    refine hin _ _ _ _ fun H2 h2 => arB_w ?_
    have hL2 := hL.trans h2
    have tk : (ts.take (i + 1)).filter (inP r) = (ts.take i).filter (inP r) ++ (if inP r (ts[i]'(by omega)) = true then [ts[i]'(by omega)] else []) := by
      rw [List.take_succ_eq_append_getElem (by omega), List.filter_append, List.filter_cons, List.filter_nil]
    have lb10 : ((ts.take i).filter (inP r)).length ≤ i := Nat.le_trans (List.length_filter_le _ _) (by simp; omega)
    refine ifA_w (fun h => ?_) (fun h => ?_)
    · have hne : inP r (ts[i]'(by omega)) = true := h
      rw [if_pos hne] at tk
      refine idxK_w (by omega) (by omega) (rowK_wo (r1x hL2) (ldG_we (ys := thC (ts[i]'(by omega))) (by rw [Int.toNat_natCast]; exact l1) (by decide) (by rw [Int.toNat_natCast]; exact a1) (okK_w rfl (fL_w ?_))))
      rw [ap_eq, List.append_nil]
      refine okK_w rfl (newK_w ?_)
      refine elK_w (ys := thC (ts[i]'(by omega))) (get_new _ _) (by rw [thC_len]; decide) rfl ?_
      refine app_w ((sl.le h2).le (Le.new _ _)) (hL2.newr _) (m := 1) rfl (by decide) (by omega) (by omega) fun p2 c2 z2 H3 hL3 sl3 l23 => ?_
      rw [iAdd_]
      refine w64_w (by simp only [Int.ofNat_eq_natCast]; omega) (by simp only [Int.ofNat_eq_natCast]; omega) (ih _ _ ⟨rfl, rfl, hL3, i + 1, by simp, by omega, p2, c2, z2, ?_, ?_⟩ (by simp; omega))
      · rw [tk]; simp
      · rw [tk, thsC, List.flatMap_append, List.length_append]
        simpa [thsC] using sl3
    · have hne : ¬ inP r (ts[i]'(by omega)) = true := by unfold inP; rw [h]; simp
      rw [if_neg hne, List.append_nil] at tk
      rw [iAdd_]
      exact w64_w (by simp only [Int.ofNat_eq_natCast]; omega) (by simp only [Int.ofNat_eq_natCast]; omega) (ih _ _ ⟨rfl, rfl, hL2, i + 1, by simp, by omega, p1, c1, z1, by rw [tk], by rw [tk]; exact sl.le h2⟩ (by simp; omega))
  · have hx : i = n := by have := of_decide_eq_false hx; simp only [Int.ofNat_eq_natCast] at this; omega
    rw [hx, List.take_of_length_le (by omega)] at sl ⊢
    exact hk _ _ _ _ (h1.trans hL) (Sl.base sl h1)
/-! With one. -/
def withF (t : Th) : Bool → List Th → List Th
  | d, [] => if d = true then [] else [t]
  | d, x :: r => (if (!d && decide (t.id ≤ x.id)) = true then [t] else []) ++ ((if x.id = t.id then [] else [x]) ++ withF t (d || decide (t.id ≤ x.id)) r)
def CWith (cl : Cl) : Prop := ∀ H p n c z ts t K, InT H p n ts → n < 10000 → (∀ H' p' c' z', Le H H' → Sl H H' p' (withF t false ts).length z' (thsC (withF t false ts)) 11 → K (.s (.slice p' (withF t false ts).length c' z')) H' = true) → cl i_ref6_With [.s (.slice p n c z), .agg (thC t)] H K = true
theorem apT_w {H0 H : AH} {p : AP} {z : Nat} {ts : List Th} {t : Th} {c : ACap} {K : AP → Nat → ACap → Nat → AH → Bool} (hs : Sl H0 H p ts.length z (thsC ts) 11) (hle : Le H0 H) (hb : ts.length ≤ 20000)
    (hk : ∀ p' c' z' H', Le H0 H' → Sl H0 H' p' (ts ++ [t]).length z' (thsC (ts ++ [t])) 11 → K p' (ts ++ [t]).length c' z' H' = true) :
    okK (Nat.beq (ln (thC t)) 11) (fL (ap (α := AS) (thC t) []) fun cs => okK (Nat.beq (ln cs) (1 * 11)) (newK H (.row cs) fun g h => elK h (.at g 0) 1 11 fun ys => appA h p ts.length z 11 120 ys 1 c K)) = true := by
  refine okK_w rfl (fL_w ?_)
  rw [ap_eq, List.append_nil]
  refine okK_w rfl (newK_w ?_)
  refine elK_w (ys := thC t) (get_new _ _) (by rw [thC_len]; decide) rfl ?_
  refine app_w (hs.le (Le.new _ _)) (hle.newr _) (m := 1) rfl (by decide) (by omega) (by omega) fun p2 c2 z2 H3 hL3 sl3 l23 => ?_
  have := hk p2 c2 z2 H3 hL3
  rw [List.length_append, thsC, List.flatMap_append] at this
  exact this (by simpa [thsC] using sl3)
theorem B_ref6_With_ {lf : Nat} {cl : Cl} (hlf : 100000 ≤ lf) {H : AH} {p : AP} {n zz : Nat} {c : ACap} {ts : List Th} {t : Th} {K : AV → AH → Bool} (hp : InT H p n ts) (hn : n < 10000)
    (hk : ∀ H' p' c' z', Le H H' → Sl H H' p' (withF t false ts).length z' (thsC (withF t false ts)) 11 → K (.s (.slice p' (withF t false ts).length c' z')) H' = true) : B_ref6_With lf cl p n c zz (thC t) H K = true := by
  unfold B_ref6_With
  have hlt := hp.1
  generalize hW : withF t false ts = w at hk
  refine new_w fun gr H1 h1 hgr ngr ggr => ?_
  replace hp := hp.le h1
  refine loopX_w (fun x Hx => x.1 = (p, n, c, zz) ∧ x.2.1 = .at gr 0 ∧ Le H1 Hx ∧ ∃ i : Nat, x.2.2.2.2 = (i : Int) ∧ i ≤ n ∧ ∃ (o : List Th) (p1 : AP) (c1 : ACap) (z1 : Nat), x.2.2.1 = (p1, o.length, c1, z1) ∧ Sl H1 Hx p1 o.length z1 (thsC o) 11 ∧ o.length ≤ 2 * i ∧ o ++ withF t x.2.2.2.1 (ts.drop i) = w) (fun x => n - x.2.2.2.2.toNat)
    ⟨rfl, rfl, Le.refl _, 0, rfl, by omega, [], .nil, _, _, rfl, Sl.nil, by simp, by simpa using hW⟩ (by simp; omega) ?_
  rintro self ⟨x1, x2, x3, d, x5⟩ Hx ⟨e1, e2, hL, i, e4, hi, o, p1, c1, z1, e3, sl, ho, hw⟩ ih
  simp only at e1 e2 e3 e4 hw
  subst e1 e2 e3 e4
  simp only [pR_, fB_eq, iLt_dec]
  have gx : ∀ {Hy}, Le H1 Hy → Hy.get gr = some (.row (thC t)) := fun k => (k.get _ hgr).trans ggr
  refine ifA_w (fun hx => ?_) (fun hx => ?_)
  · have hx : i < n := by have := of_decide_eq_true hx; simp only [Int.ofNat_eq_natCast] at this; omega
    have hxl : i < ts.length := by omega
    obtain ⟨g1, rfl, hh1, r1, l1, a1, i1⟩ := hp.at hx
    have r1x : ∀ {Hy}, Le H1 Hy → Hy.get g1 = some (.fix (thsC ts)) ∨ Hy.get g1 = some (.row (thsC ts)) := fun k => r1.imp (fun e => (k.get _ hh1).trans e) (fun e => (k.get _ hh1).trans e)
    rw [List.drop_eq_getElem_cons hxl] at hw
    generalize ts[i]'hxl = ti at *
    unfold withF at hw
    refine joinX_w (fun x Hy => Le H1 Hy ∧ ∃ (d' : Bool) (o' : List Th) (p2 : AP) (c2 : ACap) (z2 : Nat), x = ((.at g1 0, n, c, zz), .at gr 0, (p2, o'.length, c2, z2), d', (i : Int)) ∧ Sl H1 Hy p2 o'.length z2 (thsC o') 11 ∧ d' = (d || decide (t.id ≤ ti.id)) ∧ o'.length ≤ 2 * i + 1 ∧ o' = o ++ (if (!d && decide (t.id ≤ ti.id)) = true then [t] else [])) ?_ ?_
    · rintro x Hy ⟨hLy, d', o', p2, c2, z2, rfl, sl', ed, hl', eo⟩
      rw [← List.append_assoc, ← eo, ← ed] at hw
      simp only [pR_, nilK_at, fN_eq, Nat.add_eq, Nat.mul_eq, Nat.zero_add, Nat.add_zero]
      refine idxK_w (by omega) (by omega) (rowK_wo (r1x hLy) (ldI_w (by rw [Int.toNat_natCast]; exact i1) ?_))
      refine rowK_w (gx hLy) (ldI_w (n := t.id) rfl ?_)
      simp only [fB_eq, iEq_dec]
      refine ifA_w (fun h => ?_) (fun h => ?_)
      · have hne : ti.id ≠ t.id := by simpa using h
        rw [if_neg hne] at hw
        refine idxK_w (by omega) (by omega) (rowK_wo (r1x hLy) (ldG_we (ys := thC ti) (by rw [Int.toNat_natCast]; exact l1) (by decide) (by rw [Int.toNat_natCast]; exact a1) ?_))
        refine apT_w sl' hLy (by omega) fun p3 c3 z3 H3 hL3 sl3 => ?_
        rw [iAdd_]
        exact w64_w (by simp only [Int.ofNat_eq_natCast]; omega) (by simp only [Int.ofNat_eq_natCast]; omega) (ih _ _ ⟨rfl, rfl, hL3, i + 1, by simp, by omega, o' ++ [ti], p3, c3, z3, rfl, sl3, by simp; omega, by rw [List.append_assoc]; exact hw⟩ (by simp; omega))
      · have he : ti.id = t.id := by simpa using h
        rw [if_pos he, List.nil_append] at hw
        rw [iAdd_]
        exact w64_w (by simp only [Int.ofNat_eq_natCast]; omega) (by simp only [Int.ofNat_eq_natCast]; omega) (ih _ _ ⟨rfl, rfl, hLy, i + 1, by simp, by omega, o', p2, c2, z2, rfl, sl', by omega, hw⟩ (by simp; omega))
    · intro J hJ
      refine joinX_w (fun x Hy => Hy = Hx ∧ x = ((.at g1 0, n, c, zz), .at gr 0, (p1, o.length, c1, z1), d, (i : Int), (!d && decide (t.id ≤ ti.id)))) ?_ ?_
      · rintro x Hy ⟨rfl, rfl⟩
        simp only [pR_]
        refine ifA_w (fun h => ?_) (fun h => ?_)
        · simp only [nilK_at]
          refine rowK_w (gx hL) (ldG_we (ys := thC t) (by rw [thC_len]; decide) (by decide) (thC_all _) ?_)
          refine apT_w sl hL (by omega) fun p3 c3 z3 H3 hL3 sl3 => ?_
          refine hJ _ _ ⟨hL3, true, o ++ [t], p3, c3, z3, rfl, sl3, ?_, by simp; omega, by rw [if_pos h]⟩
          rw [Bool.and_eq_true] at h
          rw [h.2, Bool.or_true]
        · refine hJ _ _ ⟨hL, d, o, p1, c1, z1, rfl, sl, ?_, by omega, by rw [h]; simp⟩
          cases d with
          | true => rfl
          | false => simpa using h.symm
      · intro J2 hJ2
        refine ifA_w (fun h => ?_) (fun h => hJ2 _ _ ⟨rfl, by rw [h, Bool.false_and]⟩)
        refine rowK_w (gx hL) (ldI_w (n := t.id) rfl ?_)
        simp only [nilK_at, fN_eq, Nat.add_eq, Nat.mul_eq, Nat.zero_add, Nat.add_zero]
        refine idxK_w (by omega) (by omega) (rowK_wo (r1x hL) (ldI_w (by rw [Int.toNat_natCast]; exact i1) ?_))
        refine hJ2 _ _ ⟨rfl, ?_⟩
        rw [h, Bool.true_and, iLe_dec]
  · have hx : i = n := by have := of_decide_eq_false hx; simp only [Int.ofNat_eq_natCast] at this; omega
    rw [List.drop_of_length_le (by omega)] at hw
    unfold withF at hw
    refine ifA_w (fun h => ?_) (fun h => ?_)
    · have hd : d = false := by simpa using h
      subst hd
      simp only [nilK_at]
      refine rowK_w (gx hL) (ldG_we (ys := thC t) (by rw [thC_len]; decide) (by decide) (thC_all _) ?_)
      refine apT_w sl hL (by omega) fun p3 c3 z3 H3 hL3 sl3 => ?_
      rw [if_neg (by decide)] at hw
      have := hk H3 p3 c3 z3 (h1.trans hL3)
      rw [← hw] at this
      exact this (Sl.base sl3 h1)
    · have hd : d = true := by simpa using h
      subst hd
      rw [if_pos rfl, List.append_nil] at hw
      have := hk Hx p1 c1 z1 (h1.trans hL)
      rw [← hw] at this
      exact this (Sl.base sl h1)
/-! Rows that rise. -/
def Up (ts : List Th) : Prop := ts.Pairwise fun a b => a.id < b.id
theorem Up.ext : ∀ {ts us : List Th}, Up ts → Up us → (∀ t, t ∈ ts ↔ t ∈ us) → ts = us
  | [], [], _, _, _ => rfl
  | [], u :: us, _, _, h => absurd ((h u).2 (by simp)) (by simp)
  | t :: ts, [], _, _, h => absurd ((h t).1 (by simp)) (by simp)
  | t :: ts, u :: us, ht, hu, h => by
    have ht' := List.pairwise_cons.1 ht
    have hu' := List.pairwise_cons.1 hu
    have e : t = u := by
      rcases List.mem_cons.1 ((h t).1 (by simp)) with e | m1
      · exact e
      · rcases List.mem_cons.1 ((h u).2 (by simp)) with e | m2
        · exact e.symm
        · exact absurd (hu'.1 _ m1) (by have := ht'.1 _ m2; omega)
    subst e
    congr 1
    refine Up.ext ht'.2 hu'.2 fun x => ?_
    have hx := h x
    simp only [List.mem_cons] at hx
    constructor
    · intro m
      rcases hx.1 (.inr m) with e | m'
      · subst e; exact absurd (ht'.1 _ m) (by omega)
      · exact m'
    · intro m
      rcases hx.2 (.inr m) with e | m'
      · subst e; exact absurd (hu'.1 _ m) (by omega)
      · exact m'
theorem withF_mem (t : Th) : ∀ (ts : List Th) (d : Bool) (x : Th), x ∈ withF t d ts ↔ (x ∈ ts ∧ x.id ≠ t.id) ∨ (d = false ∧ x = t)
  | [], d, x => by unfold withF; cases d <;> simp
  | y :: r, d, x => by
    unfold withF
    simp only [List.mem_append, withF_mem t r]
    by_cases h1 : y.id = t.id
    · rw [if_pos h1, decide_eq_true (by omega : t.id ≤ y.id)]
      cases d
      · simp only [Bool.not_false, Bool.and_true, if_true, List.mem_singleton, Bool.or_true, Bool.true_eq_false, false_and, or_false, List.not_mem_nil, false_or, List.mem_cons, true_and]
        constructor
        · rintro (h | h)
          · exact .inr h
          · exact .inl ⟨.inr h.1, h.2⟩
        · rintro (⟨h | h, h2⟩ | h)
          · subst h; exact absurd h1 h2
          · exact .inr ⟨h, h2⟩
          · exact .inl h
      · simp only [Bool.not_true, Bool.false_and, Bool.false_eq_true, if_false, Bool.or_true, Bool.true_eq_false, false_and, or_false, List.not_mem_nil, false_or, List.mem_cons]
        constructor
        · rintro h; exact ⟨.inr h.1, h.2⟩
        · rintro ⟨h | h, h2⟩
          · subst h; exact absurd h1 h2
          · exact ⟨h, h2⟩
    · rw [if_neg h1]
      by_cases h2 : t.id ≤ y.id
      · rw [decide_eq_true h2]
        cases d
        · simp only [Bool.not_false, Bool.and_true, if_true, List.mem_singleton, Bool.or_true, Bool.true_eq_false, false_and, or_false, List.not_mem_nil, List.mem_cons, true_and]
          constructor
          · rintro (h | h | h)
            · exact .inr h
            · subst h; exact .inl ⟨.inl rfl, h1⟩
            · exact .inl ⟨.inr h.1, h.2⟩
          · rintro (⟨h | h, h3⟩ | h)
            · exact .inr (.inl h)
            · exact .inr (.inr ⟨h, h3⟩)
            · exact .inl h
        · simp only [Bool.not_true, Bool.false_and, Bool.false_eq_true, if_false, Bool.or_true, Bool.true_eq_false, false_and, or_false, List.not_mem_nil, false_or, List.mem_cons, List.mem_singleton]
          constructor
          · rintro (h | h)
            · subst h; exact ⟨.inl rfl, h1⟩
            · exact ⟨.inr h.1, h.2⟩
          · rintro ⟨h | h, h3⟩
            · exact .inl h
            · exact .inr ⟨h, h3⟩
      · rw [decide_eq_false h2]
        simp only [Bool.and_false, Bool.false_eq_true, if_false, Bool.or_false, List.not_mem_nil, false_or, or_false, List.mem_cons, List.mem_singleton]
        constructor
        · rintro (h | h | h)
          · subst h; exact .inl ⟨.inl rfl, h1⟩
          · exact .inl ⟨.inr h.1, h.2⟩
          · exact .inr h
        · rintro (⟨h | h, h3⟩ | h)
          · exact .inl h
          · exact .inr (.inl ⟨h, h3⟩)
          · exact .inr (.inr h)
theorem withF_up (t : Th) : ∀ (ts : List Th) (d : Bool), Up ts → (d = true → ∀ x ∈ ts, t.id < x.id) → Up (withF t d ts)
  | [], d, _, _ => by unfold withF; split <;> simp [Up]
  | y :: r, d, h, hd => by
    have h' := List.pairwise_cons.1 h
    unfold withF
    have ih := withF_up t r (d || decide (t.id ≤ y.id)) h'.2 fun e x hx => by
      rcases Bool.or_eq_true _ _ ▸ e with e | e
      · exact hd e x (List.mem_cons_of_mem _ hx)
      · have := of_decide_eq_true e; have := h'.1 x hx; omega
    have mid : Up ((if y.id = t.id then [] else [y]) ++ withF t (d || decide (t.id ≤ y.id)) r) := by
      split
      · exact ih
      · rename_i hne
        rw [List.singleton_append]
        refine List.pairwise_cons.2 ⟨fun x hx => ?_, ih⟩
        rcases (withF_mem t r _ x).1 hx with ⟨h1, h2⟩ | ⟨h1, h2⟩
        · exact h'.1 x h1
        · subst h2
          have := (Bool.or_eq_false_iff.1 h1).2
          have := of_decide_eq_false this; omega
    split
    · rename_i hc
      have hc' : d = false ∧ t.id ≤ y.id := by simpa using hc
      rw [List.singleton_append]
      refine List.pairwise_cons.2 ⟨fun x hx => ?_, mid⟩
      rcases List.mem_append.1 hx with hx | hx
      · split at hx
        · cases hx
        · rename_i hne
          rw [List.mem_singleton] at hx; subst hx; omega
      · rcases (withF_mem t r _ x).1 hx with ⟨h1, h2⟩ | ⟨h1, h2⟩
        · have := h'.1 x h1; omega
        · rw [decide_eq_true hc'.2, Bool.or_true] at h1; cases h1
    · exact mid
/-- The row of a table: rising, and just what it has. -/
def RowOf (L : List (Int × Th)) (ts : List Th) : Prop := Up ts ∧ ∀ t, t ∈ ts ↔ aGet L t.id = some t
theorem RowOf.ext {L : List (Int × Th)} {ts us : List Th} (h : RowOf L ts) (k : RowOf L us) : ts = us := Up.ext h.1 k.1 fun t => (h.2 t).trans (k.2 t).symm
theorem RowOf.congr {L M : List (Int × Th)} {ts : List Th} (h : RowOf L ts) (k : ∀ i, aGet M i = aGet L i) : RowOf M ts := ⟨h.1, fun t => by rw [k]; exact h.2 t⟩
def IdOk (L : List (Int × Th)) : Prop := ∀ k t, aGet L k = some t → t.id = k
theorem RowOf.nil : RowOf [] [] := ⟨List.Pairwise.nil, fun t => by simp [aGet]⟩
theorem RowOf.set {L : List (Int × Th)} {ts : List Th} (h : RowOf L ts) (t : Th) : RowOf (aSet L t.id t) (withF t false ts) := by
  refine ⟨withF_up t ts false h.1 (fun e => by cases e), fun x => ?_⟩
  rw [withF_mem, h.2]
  by_cases e : x.id = t.id
  · rw [e, aGet_set_same]
    constructor
    · rintro (⟨_, h⟩ | ⟨_, h⟩)
      · exact absurd rfl h
      · rw [h]
    · intro h; exact .inr ⟨rfl, (Option.some.inj h).symm⟩
  · rw [aGet_set_ne _ _ e]
    constructor
    · rintro (⟨h, _⟩ | ⟨_, h⟩)
      · exact h
      · subst h; exact absurd rfl e
    · intro h; exact .inl ⟨h, e⟩
theorem RowOf.del {L : List (Int × Th)} {ts : List Th} (h : RowOf L ts) (id : Int) : RowOf (aDel L id) (ts.filter (notId id)) := by
  refine ⟨h.1.filter _, fun x => ?_⟩
  rw [List.mem_filter, h.2]
  unfold notId
  by_cases e : x.id = id
  · rw [e, aGet_del_same]; simp
  · rw [aGet_del_ne _ e, decide_eq_true e]; simp
theorem aGet_none_del {L : List (Int × Th)} {id : Int} (h : aGet L id = none) (k : Int) : aGet (aDel L id) k = aGet L k := by
  by_cases e : k = id
  · rw [e, aGet_del_same, h]
  · exact aGet_del_ne _ e
theorem RowOf.mem {L : List (Int × Th)} {ts : List Th} (h : RowOf L ts) (hid : IdOk L) (id : Int) : (aGet L id).isSome = true ↔ ∃ t ∈ ts, t.id = id := by
  constructor
  · intro hs
    obtain ⟨t, e⟩ := Option.isSome_iff_exists.1 hs
    have := hid _ _ e
    exact ⟨t, (h.2 t).2 (by rw [this]; exact e), this⟩
  · rintro ⟨t, hm, rfl⟩
    rw [(h.2 t).1 hm]; rfl
theorem up_of_keys {L : List (Int × Th)} (hid : ∀ k ∈ aKeys L, (thOf L k).id = k) : ∀ {ks : List Int}, ks.Pairwise (· < ·) → (∀ k ∈ ks, k ∈ aKeys L) → Up (ks.map (thOf L)) := by
  intro ks hp hm
  unfold Up
  rw [List.pairwise_map]
  refine List.Pairwise.imp_of_mem (fun {a b} ha hb h => ?_) hp
  rw [hid a (hm a ha), hid b (hm b hb)]; exact h
theorem thOf_get {L : List (Int × Th)} {t : Th} {k : Int} (h : aGet L k = some t) : thOf L k = t := by unfold thOf; rw [h]; rfl
theorem aGet_thOf {L : List (Int × Th)} {k : Int} (h : k ∈ aKeys L) : aGet L k = some (thOf L k) := by
  obtain ⟨t, e⟩ := Option.isSome_iff_exists.1 (mem_get.1 h)
  rw [e, thOf_get e]
theorem sorted_lt {l : List Int} (hn : l.Nodup) : (srtI l).Pairwise (· < ·) := by
  have h1 := srtI_sorted l
  have h2 : (srtI l).Nodup := (srtI_perm l).nodup_iff.2 hn
  exact (h1.and h2).imp fun h => by obtain ⟨h1, h2⟩ := h; omega
/-- Those of a table whose keys are chosen. -/
theorem sel_row {L : List (Int × Th)} {ts : List Th} (h : RowOf L ts) (hn : (aKeys L).Nodup) (hid : IdOk L) (f : Th → Bool) : (srtI ((aKeys L).filter fun k => f (thOf L k))).map (thOf L) = ts.filter f := by
  have hid' : ∀ k ∈ aKeys L, (thOf L k).id = k := fun k hk => hid _ _ (aGet_thOf hk)
  refine Up.ext (up_of_keys hid' (sorted_lt (hn.filter _)) fun k hk => (List.mem_filter.1 ((srtI_perm _).mem_iff.1 hk)).1) (h.1.filter _) fun t => ?_
  rw [List.mem_map, List.mem_filter, h.2]
  constructor
  · rintro ⟨k, hk, rfl⟩
    have hk := List.mem_filter.1 ((srtI_perm _).mem_iff.1 hk)
    rw [hid' k hk.1]
    exact ⟨aGet_thOf hk.1, hk.2⟩
  · rintro ⟨h1, h2⟩
    refine ⟨t.id, (srtI_perm _).mem_iff.2 (List.mem_filter.2 ⟨mem_get.2 (by rw [h1]; rfl), ?_⟩), thOf_get h1⟩
    rw [thOf_get h1]; exact h2
theorem all_row {L : List (Int × Th)} {ts : List Th} (h : RowOf L ts) (hn : (aKeys L).Nodup) (hid : IdOk L) : (allT L).map (thOf L) = ts := by
  have := sel_row h hn hid fun _ => true
  rw [List.filter_eq_self.2 fun _ _ => rfl, List.filter_eq_self.2 fun _ _ => rfl] at this
  exact this
theorem in_row {L : List (Int × Th)} {ts : List Th} (h : RowOf L ts) (hn : (aKeys L).Nodup) (hid : IdOk L) (r : Rc) : (inT L r).map (thOf L) = ts.filter (inP r) := sel_row h hn hid (inP r)
theorem row_len {L : List (Int × Th)} {ts : List Th} (h : RowOf L ts) (hn : (aKeys L).Nodup) (hid : IdOk L) : ts.length = L.length := by
  rw [← all_row h hn hid, List.length_map, allT_len]
theorem row_of_keys {L : List (Int × Th)} (hn : (aKeys L).Nodup) (hid : IdOk L) : RowOf L ((allT L).map (thOf L)) := by
  have hid' : ∀ k ∈ aKeys L, (thOf L k).id = k := fun k hk => hid _ _ (aGet_thOf hk)
  refine ⟨up_of_keys hid' (sorted_lt hn) fun k hk => (srtI_perm _).mem_iff.1 hk, fun t => ?_⟩
  rw [List.mem_map]
  constructor
  · rintro ⟨k, hk, rfl⟩
    have hk := (srtI_perm _).mem_iff.1 hk
    rw [hid' k hk]; exact aGet_thOf hk
  · intro h; exact ⟨t.id, (srtI_perm _).mem_iff.2 (mem_get.2 (by rw [h]; rfl)), thOf_get h⟩
theorem TT.ids {H : AH} {g : Pn} {L : List (Int × Th)} {O : Pn → Prop} (h : TT H g L O) : (aKeys L).Nodup ∧ IdOk L := by
  obtain ⟨m, q, Lq, Oq, tb, rfl⟩ := h
  exact ⟨tb.nod, tb.ok⟩
theorem Sl.len2 {H0 H : AH} {p : AP} {n z : Nat} {ts : List Th} (h : Sl H0 H p n z (thsC ts) 11) : ts.length = n := by have := h.len; rw [thsC_len] at this; omega
theorem Sl.own {H0 H : AH} {p : AP} {n z : Nat} {cs : List AS} (h : Sl H0 H p n z cs 11) : (∀ a, ownP p a → ¬ H0.has a) ∧ ∀ a, ownP p a → H.has a := by
  rcases h.rep with ⟨_, rfl⟩ | ⟨g, rfl, _, _, hh, hn⟩
  · exact ⟨fun a ⟨o, e⟩ => (by cases e), fun a ⟨o, e⟩ => (by cases e)⟩
  · exact ⟨fun a ⟨o, e⟩ => (by cases e; exact hn), fun a ⟨o, e⟩ => (by cases e; exact hh)⟩
theorem InT.fr {F : Pn → Prop} {H H' : AH} {p : AP} {n : Nat} {ts : List Th} (h : InT H p n ts) (k : Fr F H H') (hf : ∀ a, ownP p a → ¬ F a) : InT H' p n ts :=
  ⟨h.1, fun hn => (h.2 hn).imp fun g hg => by
    obtain ⟨rfl, h1, h2⟩ := hg
    have e := k.get g h1 (hf g ⟨0, rfl⟩)
    exact ⟨rfl, k.has g h1, h2.imp e.trans e.trans⟩⟩
end Go.Proofs
end
section
/- The reference's cells: a cell's rectangle. -/
namespace Go.Proofs
open Go Go.Vw Go.Vw.Ev
set_option linter.unusedVariables false
set_option linter.unusedSimpArgs false

def CIsCell3 (cl : Cl) : Prop := ∀ c H K, K (.s (.bool (isC c))) H = true → cl i_ref3_IsCell [.s (.int .i64 c)] H K = true
theorem B_ref3_IsCell_ {lf : Nat} {cl : Cl} {c : Int} {H : AH} {K : AV → AH → Bool} (hk : K (.s (.bool (isC c))) H = true) : B_ref3_IsCell lf cl c H K = true := by
  unfold B_ref3_IsCell
  simp only [fB_eq, iLe_dec, iLt_dec]
  rw [ifA_and]
  exact hk
def CSplit3 (cl : Cl) : Prop := ∀ c H K, 0 ≤ c → c < 16 → K (.tup [.s (.int .u16 (cellX c)), .s (.int .u16 (cellY c))]) H = true → cl i_ref3_Split [.s (.int .u32 c)] H K = true
theorem split3_0 (m : Nat) (cl : Cl) (H : AH) (K : AV → AH → Bool) : B_ref3_Split (m + 17) cl (Int.ofNat 0) H K = K (.tup [.s (.int .u16 (cellX (Int.ofNat 0))), .s (.int .u16 (cellY (Int.ofNat 0)))]) H := by kernel_rfl
theorem split3_1 (m : Nat) (cl : Cl) (H : AH) (K : AV → AH → Bool) : B_ref3_Split (m + 17) cl (Int.ofNat 1) H K = K (.tup [.s (.int .u16 (cellX (Int.ofNat 1))), .s (.int .u16 (cellY (Int.ofNat 1)))]) H := by kernel_rfl
theorem split3_2 (m : Nat) (cl : Cl) (H : AH) (K : AV → AH → Bool) : B_ref3_Split (m + 17) cl (Int.ofNat 2) H K = K (.tup [.s (.int .u16 (cellX (Int.ofNat 2))), .s (.int .u16 (cellY (Int.ofNat 2)))]) H := by kernel_rfl
theorem split3_3 (m : Nat) (cl : Cl) (H : AH) (K : AV → AH → Bool) : B_ref3_Split (m + 17) cl (Int.ofNat 3) H K = K (.tup [.s (.int .u16 (cellX (Int.ofNat 3))), .s (.int .u16 (cellY (Int.ofNat 3)))]) H := by kernel_rfl
theorem split3_4 (m : Nat) (cl : Cl) (H : AH) (K : AV → AH → Bool) : B_ref3_Split (m + 17) cl (Int.ofNat 4) H K = K (.tup [.s (.int .u16 (cellX (Int.ofNat 4))), .s (.int .u16 (cellY (Int.ofNat 4)))]) H := by kernel_rfl
theorem split3_5 (m : Nat) (cl : Cl) (H : AH) (K : AV → AH → Bool) : B_ref3_Split (m + 17) cl (Int.ofNat 5) H K = K (.tup [.s (.int .u16 (cellX (Int.ofNat 5))), .s (.int .u16 (cellY (Int.ofNat 5)))]) H := by kernel_rfl
theorem split3_6 (m : Nat) (cl : Cl) (H : AH) (K : AV → AH → Bool) : B_ref3_Split (m + 17) cl (Int.ofNat 6) H K = K (.tup [.s (.int .u16 (cellX (Int.ofNat 6))), .s (.int .u16 (cellY (Int.ofNat 6)))]) H := by kernel_rfl
theorem split3_7 (m : Nat) (cl : Cl) (H : AH) (K : AV → AH → Bool) : B_ref3_Split (m + 17) cl (Int.ofNat 7) H K = K (.tup [.s (.int .u16 (cellX (Int.ofNat 7))), .s (.int .u16 (cellY (Int.ofNat 7)))]) H := by kernel_rfl
theorem split3_8 (m : Nat) (cl : Cl) (H : AH) (K : AV → AH → Bool) : B_ref3_Split (m + 17) cl (Int.ofNat 8) H K = K (.tup [.s (.int .u16 (cellX (Int.ofNat 8))), .s (.int .u16 (cellY (Int.ofNat 8)))]) H := by kernel_rfl
theorem split3_9 (m : Nat) (cl : Cl) (H : AH) (K : AV → AH → Bool) : B_ref3_Split (m + 17) cl (Int.ofNat 9) H K = K (.tup [.s (.int .u16 (cellX (Int.ofNat 9))), .s (.int .u16 (cellY (Int.ofNat 9)))]) H := by kernel_rfl
theorem split3_10 (m : Nat) (cl : Cl) (H : AH) (K : AV → AH → Bool) : B_ref3_Split (m + 17) cl (Int.ofNat 10) H K = K (.tup [.s (.int .u16 (cellX (Int.ofNat 10))), .s (.int .u16 (cellY (Int.ofNat 10)))]) H := by kernel_rfl
theorem split3_11 (m : Nat) (cl : Cl) (H : AH) (K : AV → AH → Bool) : B_ref3_Split (m + 17) cl (Int.ofNat 11) H K = K (.tup [.s (.int .u16 (cellX (Int.ofNat 11))), .s (.int .u16 (cellY (Int.ofNat 11)))]) H := by kernel_rfl
theorem split3_12 (m : Nat) (cl : Cl) (H : AH) (K : AV → AH → Bool) : B_ref3_Split (m + 17) cl (Int.ofNat 12) H K = K (.tup [.s (.int .u16 (cellX (Int.ofNat 12))), .s (.int .u16 (cellY (Int.ofNat 12)))]) H := by kernel_rfl
theorem split3_13 (m : Nat) (cl : Cl) (H : AH) (K : AV → AH → Bool) : B_ref3_Split (m + 17) cl (Int.ofNat 13) H K = K (.tup [.s (.int .u16 (cellX (Int.ofNat 13))), .s (.int .u16 (cellY (Int.ofNat 13)))]) H := by kernel_rfl
theorem split3_14 (m : Nat) (cl : Cl) (H : AH) (K : AV → AH → Bool) : B_ref3_Split (m + 17) cl (Int.ofNat 14) H K = K (.tup [.s (.int .u16 (cellX (Int.ofNat 14))), .s (.int .u16 (cellY (Int.ofNat 14)))]) H := by kernel_rfl
theorem split3_15 (m : Nat) (cl : Cl) (H : AH) (K : AV → AH → Bool) : B_ref3_Split (m + 17) cl (Int.ofNat 15) H K = K (.tup [.s (.int .u16 (cellX (Int.ofNat 15))), .s (.int .u16 (cellY (Int.ofNat 15)))]) H := by kernel_rfl
theorem B_ref3_Split_ {lf : Nat} {cl : Cl} (hlf : 100 ≤ lf) {c : Int} {H : AH} {K : AV → AH → Bool} (h0 : 0 ≤ c) (h1 : c < 16) (hk : K (.tup [.s (.int .u16 (cellX c)), .s (.int .u16 (cellY c))]) H = true) : B_ref3_Split lf cl c H K = true := by
  obtain ⟨m, rfl⟩ : ∃ m, lf = m + 17 := ⟨lf - 17, by omega⟩
  obtain ⟨i, rfl⟩ := Int.eq_ofNat_of_zero_le h0
  rcases (by omega : i = 0 ∨ i = 1 ∨ i = 2 ∨ i = 3 ∨ i = 4 ∨ i = 5 ∨ i = 6 ∨ i = 7 ∨ i = 8 ∨ i = 9 ∨ i = 10 ∨ i = 11 ∨ i = 12 ∨ i = 13 ∨ i = 14 ∨ i = 15) with rfl | rfl | rfl | rfl | rfl | rfl | rfl | rfl | rfl | rfl | rfl | rfl | rfl | rfl | rfl | rfl
  · exact (split3_0 m cl H K).trans hk
  · exact (split3_1 m cl H K).trans hk
  · exact (split3_2 m cl H K).trans hk
  · exact (split3_3 m cl H K).trans hk
  · exact (split3_4 m cl H K).trans hk
  · exact (split3_5 m cl H K).trans hk
  · exact (split3_6 m cl H K).trans hk
  · exact (split3_7 m cl H K).trans hk
  · exact (split3_8 m cl H K).trans hk
  · exact (split3_9 m cl H K).trans hk
  · exact (split3_10 m cl H K).trans hk
  · exact (split3_11 m cl H K).trans hk
  · exact (split3_12 m cl H K).trans hk
  · exact (split3_13 m cl H K).trans hk
  · exact (split3_14 m cl H K).trans hk
  · exact (split3_15 m cl H K).trans hk
def CRect3 (cl : Cl) : Prop := ∀ c H K, (∀ H', Le H H' → K (.tup [.agg (rcC (if isC c = true then cellR c else rc0')), .s (.bool (isC c))]) H' = true) → cl i_ref3_Rect [.s (.int .i64 c)] H K = true
theorem B_ref3_Rect_ {lf : Nat} {cl : Cl} (hi : CIsCell3 cl) (hs : CSplit3 cl) {c : Int} {H : AH} {K : AV → AH → Bool} (hk : ∀ H', Le H H' → K (.tup [.agg (rcC (if isC c = true then cellR c else rc0')), .s (.bool (isC c))]) H' = true) : B_ref3_Rect lf cl c H K = true := by
  unfold B_ref3_Rect
  refine new_w fun g H1 h1 hg ng gg => ?_
  refine hi _ _ _ (arB_w ?_)
  rw [fB_eq]
  refine ifA_w (fun h => ?_) (fun h => ?_)
  · have hc : isC c = false := by simpa using h
    refine stoN_we (ds := rcC rc0') gg rfl (Nat.le_refl 4) rfl (rowK_w (get_put _ _ _) (ldG_we (ys := rcC rc0') (Nat.le_refl 4) (by decide) rfl ?_))
    have := hk (H1.put g (.row (rcC rc0'))) (h1.put ng _)
    rw [hc] at this
    exact this
  · have hc : isC c = true := by simpa using h
    have hb : 0 ≤ c ∧ c < 16 := by unfold isC at hc; simpa using hc
    obtain ⟨b0, b1, b2, b3⟩ := cellX_b hb.1 hb.2
    have ew : IntKind.wrap .u32 c = c := lt16 (P := fun c => IntKind.wrap .u32 c = c) (by decide) c hb.1 hb.2
    rw [wrapK_eq, ew]
    refine hs _ _ _ hb.1 hb.2 ?_
    rw [tup2_]
    refine arI_w (arI_w ?_)
    simp only [iMul_, iAdd_, Int.ofNat_eq_natCast, Int.cast_ofNat_Int]
    iterate 10 refine w64_w (by omega) (by omega) ?_
    rw [show cellX c * 16 + 16 = (cellX c + 1) * 16 by omega, show cellY c * 16 + 16 = (cellY c + 1) * 16 by omega]
    refine stoN_we (ds := rcC (cellR c)) gg rfl (Nat.le_refl 4) rfl (rowK_w (get_put _ _ _) (ldG_we (ys := rcC (cellR c)) (Nat.le_refl 4) (by decide) rfl ?_))
    have := hk (H1.put g (.row (rcC (cellR c)))) (h1.put ng _)
    rw [hc] at this
    exact this
end Go.Proofs
end
section
/- Copies: of the tree, the table. -/
namespace Go.Proofs
open Go Go.Vw Go.Vw.Ev
set_option linter.unusedVariables false
set_option linter.unusedSimpArgs false

theorem keys_sorted2_ {g : Nat} {gs : List Nat} (hg : memN g gs = true) {cl cl' : Cl} {H : AH} {m : Pn} {es : List (Int × AV)} {K : AV → AH → Bool} (hm : H.get m = some (.imap es)) (hh : H.has m) (hr : ∀ k ∈ keysOf es, 0 ≤ k ∧ k ≤ 9223372036854775807) (hl : es.length ≤ 1000000)
    (hk : ∀ H' p c z, Le H H' → IS H' p (srtI (keysOf es)).length z (srtI (keysOf es)) → (∀ a, ownP p a → ¬ H.has a) → K (.s (.slice p (srtI (keysOf es)).length c z)) H' = true) : keysB g cl [.s (.map (some m))] H (fun r h => sortedB gs cl' [r] h K) = true := by
  unfold keysB
  refine new_w fun b H1 h1 hb nb gb => ?_
  unfold sortedB
  refine okK_w hg ?_
  rw [show H1.t.get b = some (.one (.map (some m))) from gb]
  refine mapK_w ((h1.get _ hh).trans hm) (okK_w ?_ (fL_w ?_))
  · rw [allIn_of fun x hx => inR_of (hr x hx).1 (hr x hx).2, ln_eq, Nat.ble_eq_true_of_le hl]; rfl
  · cases e : srtI (keysOf es) with
    | nil =>
      have := hk H1 .nil (.lit 0) 1 h1
      rw [e] at this
      exact this ⟨rfl, .inl ⟨rfl, rfl⟩⟩ fun a ⟨o, h⟩ => by cases h
    | cons k r =>
      refine new_w fun c H2 h2 hc nc gc => ?_
      rw [ln_eq]
      rw [e] at hk
      refine hk H2 (.at c 0) _ 1 (h1.trans h2) ⟨rfl, .inr ⟨c, _, rfl, rfl, hc, gc, by rw [intsA_len]; exact Nat.le_refl _, ?_⟩⟩ fun a ⟨o, h⟩ => ?_
      · rw [List.take_of_length_le (by rw [intsA_len]; exact Nat.le_refl _)]
      · cases h
        exact fun h => nc (h1.has _ h)
theorem TR.onKC {H : AH} {g : Pn} {L : List (Int × Pt)} {O : Pn → Prop} (h : TR H g L O) : ∀ k ∈ aKeys L, On (posOf L k) = true ∧ 0 ≤ k ∧ k ≤ 9223372036854775807 := by
  obtain ⟨m, q, t, _⟩ := h
  exact fun k hk => ⟨on_sq.2 (t.inv.mem k (t.perm.mem_iff.2 hk)), t.kb k hk⟩
def CQCopy (cl : Cl) : Prop := ∀ H g L O K, TR H g L O → (∀ H' g' L' O', Le H H' → TR H' g' L' O' → (∀ a, O' a → ¬ H.has a) → (∀ k, aGet L' k = aGet L k) → K (.s (.ptr (.at g' 0))) H' = true) → cl i_quad_Tree_Copy [.s (.ptr (.at g 0))] H K = true
def CKeysP (cl : Cl) : Prop := ∀ H m es K, H.get m = some (.imap es) → H.has m → (∀ k ∈ keysOf es, 0 ≤ k ∧ k ≤ 9223372036854775807) → es.length ≤ 1000000 →
  (∀ H' p c z, Le H H' → IS H' p (srtI (keysOf es)).length z (srtI (keysOf es)) → (∀ a, ownP p a → ¬ H.has a) → K (.s (.slice p (srtI (keysOf es)).length c z)) H' = true) → cl i_maps_Keys_int_Point [.s (.map (some m))] H (fun r h => cl i_slices_Sorted_int [r] h K) = true
theorem B_quad_Tree_Copy_ {lf : Nat} {cl : Cl} (hlf : 20000 ≤ lf) (hnew : CNewQ cl) (hks : CKeysP cl) (hlay : CLay cl) {H : AH} {g : Pn} {L : List (Int × Pt)} {O : Pn → Prop} {K : AV → AH → Bool} (tr : TR H g L O)
    (hk : ∀ H' g' L' O', Le H H' → TR H' g' L' O' → (∀ a, O' a → ¬ H.has a) → (∀ k, aGet L' k = aGet L k) → K (.s (.ptr (.at g' 0))) H' = true) : B_quad_Tree_Copy lf cl (.at g 0) H K = true := by
  have ton := TR.onKC tr
  have nodL := TR.nodK tr
  obtain ⟨m, q, t, _⟩ := tr
  have llen : (aKeys L).length < 10000 := t.len
  have hLl : L.length = (aKeys L).length := by simp [aKeys]
  unfold B_quad_Tree_Copy
  refine hnew _ _ fun H1 g' O' h1 tr1 z1 => ?_
  rw [asP_]
  simp only [nilK_at, fN_eq, Nat.add_eq, Nat.zero_add]
  have gg1 := (h1.get _ t.has).trans t.get
  have gm1 := (h1.get _ t.hasm).trans t.map
  refine rowK_w gg1 (ldM_w rfl ?_)
  refine hks H1 m (aImg ptV L) _ gm1 (h1.has _ t.hasm) (by rw [keysOf_img]; exact fun k hk => (ton k hk).2) (by rw [aImg_length]; omega) fun H2 p c z h2 is2 own2 => ?_
  rw [asSl_]
  rw [keysOf_img] at *
  have hsl : (srtI (aKeys L)).length = (aKeys L).length := srtI_len _
  have snod : (srtI (aKeys L)).Nodup := (srtI_perm _).nodup_iff.2 nodL
  refine loopX_w (fun x Hx => x.1 = .at g 0 ∧ x.2.1 = .at g' 0 ∧ x.2.2.1 = (p, (srtI (aKeys L)).length, c, z) ∧ x.2.2.2.1 = ((srtI (aKeys L)).length : Int) ∧ Le H Hx ∧ ∃ i : Nat, x.2.2.2.2 = (i : Int) ∧ i ≤ (srtI (aKeys L)).length ∧ ∃ L' O', TR Hx g' L' O' ∧ (∀ a, O' a → ¬ H.has a) ∧
      IS Hx p (srtI (aKeys L)).length z (srtI (aKeys L)) ∧ (∀ a, ownP p a → ¬ O' a) ∧ (∀ k, k ∈ aKeys L' ↔ k ∈ (srtI (aKeys L)).take i) ∧ (∀ k ∈ aKeys L', aGet L' k = some (posOf L k)) ∧ L'.length = i) (fun x => 10000 - x.2.2.2.2.toNat)
    ⟨rfl, rfl, rfl, rfl, h1.trans h2, 0, rfl, by omega, [], O', tr1.le h2, z1, is2, fun a ha h => own2 a ha (TRq.has tr1 a h), fun k => ⟨fun h => (by cases h), fun h => (by simp at h)⟩, fun k h => (by cases h), rfl⟩ (by simp; omega) ?_
  clear tr1 z1 is2 own2 O'
  rintro self ⟨x1, x2, x3, x4, x5⟩ Hx ⟨e1, e2, e3, e4, hL, i, e5, hi, L', O', tr', hz, is, own, keys, vals, ll⟩ ih
  simp only at e1 e2 e3 e4 e5
  subst e1 e2 e3 e4 e5
  simp only [pR_, fB_eq, iLt_dec]
  refine ifA_w (fun hx => ?_) (fun hx => ?_)
  · have hx : i < (srtI (aKeys L)).length := by have := of_decide_eq_true hx; omega
    obtain ⟨g4, cs4, rfl, hh4, hg4, hc4⟩ := is.at (i := i) hx
    simp only [nilK_at, fN_eq, Nat.add_eq, Nat.mul_eq, Nat.zero_add, Nat.mul_one]
    refine idxK_w (by omega) (by omega) (rowK_w hg4 (ldI_w (by rw [Int.toNat_natCast]; exact hc4) ?_))
    have ggx := (hL.get _ t.has).trans t.get
    have gmx := (hL.get _ t.hasm).trans t.map
    refine rowK_w ggx (ldM_w rfl (asMp_w (mapK_w gmx (lkP_w ?_))))
    show asG (.agg (ptC _)) _ = true
    rw [asG_]
    have hmem : (srtI (aKeys L))[i] ∈ aKeys L := (srtI_perm _).mem_iff.1 (List.getElem_mem hx)
    have hnot : (srtI (aKeys L))[i] ∉ aKeys L' := fun h => by
      have h := (keys _).1 h
      obtain ⟨j, hj, e⟩ := List.getElem_of_mem h
      rw [List.getElem_take] at e
      have hji : j < i := by rw [List.length_take] at hj; omega
      exact absurd ((List.getElem_inj snod).1 e) (by omega)
    obtain ⟨on, k0, k1⟩ := ton _ hmem
    refine hlay Hx g' L' (aKeys L') O' _ (posOf L (srtI (aKeys L))[i]) _ tr' hnot on k0 k1 (by simp [aKeys]; omega) fun H3 O3 f3 t3 o3 => ?_
    rw [tup0_, iAdd_]
    have own3 : ∀ a, ownP (.at g4 0) a → ¬ O3 a := fun a ha h => (o3 a h).elim (own a ha) fun h => h (is.own_has a ha)
    refine w64_w (by simp only [Int.ofNat_eq_natCast]; omega) (by simp only [Int.ofNat_eq_natCast]; omega) (ih _ _ ⟨rfl, rfl, rfl, rfl, ⟨fun a ha => f3.has a (hL.has a ha), fun a ha => (f3.get a (hL.has a ha) fun h => hz a h ha).trans (hL.get a ha)⟩, i + 1, by simp, by omega,
      aSet L' (srtI (aKeys L))[i] (posOf L (srtI (aKeys L))[i]), O3, ?_, fun a h => (o3 a h).elim (hz a) fun h hh => h (hL.has a hh), is.fr f3 own, own3, fun k => ?_, fun k hk' => ?_, ?_⟩ (by simp; omega))
    · refine TRq.permute t3 ?_
      rw [aKeys_set_new _ _ hnot]
      exact (List.perm_append_singleton _ _).symm
    · rw [aKeys_set_new _ _ hnot, List.take_succ_eq_append_getElem hx, List.mem_append, List.mem_append, keys k]
    · rw [aKeys_set_new _ _ hnot, List.mem_append, List.mem_singleton] at hk'
      by_cases e : k = (srtI (aKeys L))[i]
      · rw [e, aGet_set_same]
      · rw [aGet_set_ne _ _ e]; exact vals k (hk'.resolve_right e)
    · have := congrArg List.length (aKeys_set_new L' (posOf L (srtI (aKeys L))[i]) hnot)
      simp only [aKeys, List.length_map, List.length_append, List.length_cons, List.length_nil] at this
      simp only [aKeys] at *
      omega
  · have hx : i = (srtI (aKeys L)).length := by have := of_decide_eq_false hx; omega
    rw [hx, List.take_length] at keys
    refine hk _ _ _ _ hL tr' hz fun k => ?_
    by_cases hm : k ∈ aKeys L
    · rw [vals k ((keys k).2 ((srtI_perm _).mem_iff.2 hm))]
      obtain ⟨v, hv⟩ := Option.isSome_iff_exists.1 (mem_get.1 hm)
      unfold posOf
      rw [hv]; rfl
    · rw [aGet_none.2 hm, aGet_none.2 fun h => hm ((srtI_perm _).mem_iff.1 ((keys k).1 h))]
def CCloneT (cl : Cl) : Prop := ∀ H m es K, H.get m = some (.imap es) → (∀ g H', Le H H' → H'.has g → ¬ H.has g → H'.get g = some (.imap es) → K (.s (.map (some g))) H' = true) → cl i_maps_Clone_int_Thing [.s (.map (some m))] H K = true
theorem cloneB_ {cl : Cl} {H : AH} {m : Pn} {es : List (Int × AV)} {K : AV → AH → Bool} (hm : H.get m = some (.imap es)) (hk : ∀ g H', Le H H' → H'.has g → ¬ H.has g → H'.get g = some (.imap es) → K (.s (.map (some g))) H' = true) : cloneB cl [.s (.map (some m))] H K = true := by
  unfold cloneB
  exact mapK_w hm (new_w fun g H' h1 h2 h3 h4 => hk g H' h1 h2 h3 h4)
def CTCopy (cl : Cl) : Prop := ∀ H g L O K, TT H g L O → (∀ H' g' O', Le H H' → TT H' g' L O' → (∀ a, O' a → ¬ H.has a) → K (.s (.ptr (.at g' 0))) H' = true) → cl i_table_Table_Copy [.s (.ptr (.at g 0))] H K = true
theorem B_table_Table_Copy_ {lf : Nat} {cl : Cl} (hcl : CCloneT cl) (hq : CQCopy cl) {H : AH} {g : Pn} {L : List (Int × Th)} {O : Pn → Prop} {K : AV → AH → Bool} (tt : TT H g L O)
    (hk : ∀ H' g' O', Le H H' → TT H' g' L O' → (∀ a, O' a → ¬ H.has a) → K (.s (.ptr (.at g' 0))) H' = true) : B_table_Table_Copy lf cl (.at g 0) H K = true := by
  obtain ⟨m, q, Lq, Oq, tb, rfl⟩ := tt
  unfold B_table_Table_Copy
  simp only [nilK_at, fN_eq, Nat.add_eq, Nat.zero_add]
  refine rowK_w tb.get (ldM_w rfl (getK_w tb.get (rowK_w tb.get (ldP_w rfl ?_))))
  refine hcl H m _ _ tb.map fun m' H1 h1 hm1 nm gm1 => ?_
  have tb1 := tb.le h1
  refine okK_w (kSame_p tb1.get rfl rfl) ?_
  show cl i_quad_Tree_Copy _ H1 _ = true
  refine hq H1 q Lq Oq _ tb1.tr fun H2 q' L' O' h2 t2 z2 e2 => ?_
  rw [asP_]
  refine new_w fun g' H3 h3 hg3 ng gg3 => ?_
  have hm2 := h2.has _ hm1
  have ngm : g' ≠ m' := fun e => ng (e ▸ hm2)
  refine hk H3 g' (ownT g' m' O') (h1.trans (h2.trans h3)) ⟨m', q', L', O', ⟨hg3, gg3, h3.has _ hm2, (h3.get _ hm2).trans ((h2.get _ hm1).trans gm1), t2.le h3, ngm, fun h => ng (TRq.has t2 _ h), fun h => z2 _ h hm1, tb.nod, fun k => by rw [e2, tb.pos], tb.ok⟩, rfl⟩ fun a ha => ?_
  rcases ha with rfl | rfl | ha
  · exact fun h => ng (h2.has _ (h1.has _ h))
  · exact nm
  · exact fun h => z2 _ ha (h1.has _ h)
end Go.Proofs
end
section
/- TableCells: all things together are those of all cells, each once. -/
namespace Go.Proofs
open Go Go.Vw Go.Vw.Ev
set_option linter.unusedVariables false
set_option linter.unusedSimpArgs false

theorem fBf_w {b x y : Bool} (h : b = false) (hk : y = true) : fB b (fun b' => ifA b' x y) = true := by subst h; exact hk
def CFewF (cl : Cl) : Prop := ∀ f H K, (∀ H' b, Le H H' → K (.s (.bool b)) H' = true) → cl i_law9_fewField [.agg (fdC f)] H K = true
theorem B_law9_fewField_ {lf : Nat} {cl : Cl} {f : Fd} {H : AH} {K : AV → AH → Bool} (hk : ∀ H' b, Le H H' → K (.s (.bool b)) H' = true) : B_law9_fewField lf cl (fdC f) H K = true := by
  unfold B_law9_fewField
  refine new_w fun g H1 h1 hg ng gg => ?_
  refine rowK_w gg (ldStr_w (p := f.s) rfl (fN_w ?_))
  rw [fB_eq]
  exact hk _ _ h1
def CFewT (cl : Cl) : Prop := ∀ t H K, (∀ H' b, Le H H' → K (.s (.bool b)) H' = true) → cl i_law9_fewThing [.agg (thC t)] H K = true
theorem thC_fd (t : Th) : ∀ k : Nat, k < 4 → ((thC t).drop (3 + k * 2)).take 2 = fdC (t.fs k) := lt4 rfl rfl rfl rfl
theorem B_law9_fewThing_ {lf : Nat} {cl : Cl} (hlf : 10 ≤ lf) (hf : CFewF cl) {t : Th} {H : AH} {K : AV → AH → Bool} (hk : ∀ H' b, Le H H' → K (.s (.bool b)) H' = true) : B_law9_fewThing lf cl (thC t) H K = true := by
  unfold B_law9_fewThing
  refine new_w fun g H1 h1 hg ng gg => ?_
  refine loopX_w (fun x Hx => x.1 = .at g 0 ∧ Le H1 Hx ∧ ∃ i : Nat, x.2 = (i : Int) ∧ i ≤ 4) (fun x => 4 - x.2.toNat) ⟨rfl, Le.refl _, 0, rfl, by omega⟩ (by simp; omega) ?_
  rintro self ⟨x1, x2⟩ H2 ⟨e1, hL, i, e2, hi⟩ ih
  simp only at e1 e2
  subst e1 e2
  simp only [pR_, fB_eq, iLt_dec]
  refine ifA_w (fun hx => ?_) (fun hx => hk _ _ (h1.trans hL))
  have hx : i < 4 := by have h : (i : Int) < 4 := of_decide_eq_true hx; omega
  simp only [nilK_at, fN_eq, Nat.add_eq, Nat.zero_add]
  refine idxK_w (by omega) (by omega) ?_
  simp only [Int.toNat_natCast, Nat.mul_eq]
  refine rowK_w ((hL.get _ hg).trans gg) (ldG_we (by rw [thC_len]; omega) (by decide) (thC_fd t i hx) (hf _ _ _ fun H3 b h3 => arB_w ?_))
  refine ifA_w (fun _ => hk _ _ (h1.trans (hL.trans h3))) (fun _ => ?_)
  rw [iAdd_]
  exact w64_w (by simp only [Int.ofNat_eq_natCast]; omega) (by simp only [Int.ofNat_eq_natCast]; omega) (ih _ _ ⟨rfl, hL.trans h3, i + 1, by simp, by omega⟩ (by simp; omega))
/-- Few things, or not: whatever it tells, no more than thirty if they are few. -/
theorem B_law9_fewThings_ {lf : Nat} {cl : Cl} (hf : CFewT cl) {H : AH} {p : AP} {n : Nat} {c : ACap} {ts : List Th} {K : AV → AH → Bool} (hI : InT H p n ts) (hn : n < lf) (hmax : n ≤ 9223372036854775807) (hk : ∀ H' b, Le H H' → (b = true → n ≤ 30) → K (.s (.bool b)) H' = true) : B_law9_fewThings lf cl p n c 11 H K = true := by
  unfold B_law9_fewThings
  refine loopX_w (fun x Hx => x.1 = (p, n, c, 11) ∧ Le H Hx ∧ ∃ i : Nat, x.2 = (i : Int) ∧ i ≤ n) (fun x => n - x.2.toNat) ⟨rfl, Le.refl _, 0, rfl, by omega⟩ (by simp; omega) ?_
  rintro self ⟨x1, x2⟩ H2 ⟨e1, hL, i, e2, hi⟩ ih
  simp only at e1 e2
  subst e1 e2
  simp only [pR_, fB_eq, iLt_dec, iLe_dec]
  refine ifA_w (fun hx => ?_) (fun hx => hk _ _ hL fun h => by have := of_decide_eq_true h; simp only [Int.ofNat_eq_natCast] at this; omega)
  have hx : i < n := by have := of_decide_eq_true hx; simp only [Int.ofNat_eq_natCast] at this; omega
  refine (hI.le hL).read hx (hf _ _ _ fun H3 b h3 => arB_w ?_)
  refine ifA_w (fun _ => hk _ _ (hL.trans h3) fun h => (by cases h)) (fun _ => ?_)
  rw [iAdd_]
  exact w64_w (by simp only [Int.ofNat_eq_natCast]; omega) (by simp only [Int.ofNat_eq_natCast]; omega) (ih _ _ ⟨rfl, hL.trans h3, i + 1, by simp, by omega⟩ (by simp; omega))
def CFewTs (lf : Nat) (cl : Cl) : Prop := ∀ H p n c ts K, InT H p n ts → n < lf → n ≤ 9223372036854775807 → (∀ H' b, Le H H' → (b = true → n ≤ 30) → K (.s (.bool b)) H' = true) → cl i_law9_fewThings [.s (.slice p n c 11)] H K = true
theorem putAll_len : ∀ (ts : List Th) (L : List (Int × Th)), (ts.foldl tputL L).length ≤ L.length + ts.length
  | [], L => by simp
  | t :: r, L => by
    have h := putAll_len r (tputL L t)
    have h2 : (tputL L t).length ≤ L.length + 1 := by
      unfold tputL
      split
      · have : ∀ (L : List (Int × Th)) (k : Int) (v : Th), (aSet L k v).length ≤ L.length + 1 := fun L => by
          induction L with
          | nil => intro k v; simp [aSet]
          | cons x r ih => intro k v; unfold aSet; split
                           · simp
                           · have := ih k v; simp only [List.length_cons]; omega
        exact this _ _ _
      · omega
    simp only [List.foldl_cons, List.length_cons]
    omega
theorem TR.onT {H : AH} {g : Pn} {L : List (Int × Pt)} {O : Pn → Prop} (h : TR H g L O) : ∀ k ∈ aKeys L, On (posOf L k) = true := by
  obtain ⟨m, q, t, _⟩ := h
  exact fun k hk => on_sq.2 (t.inv.mem k (t.perm.mem_iff.2 hk))
theorem TT.atK {H : AH} {g : Pn} {L : List (Int × Th)} {O : Pn → Prop} (h : TT H g L O) : (aKeys L).Nodup ∧ ∀ k ∈ aKeys L, (aGet L k).isSome = true ∧ (thOf L k).id = k ∧ On (thOf L k).pt = true := by
  obtain ⟨m, q, Lq, Oq, tb, rfl⟩ := h
  refine ⟨tb.nod, fun k hk => ?_⟩
  have hs := mem_get.1 hk
  obtain ⟨t, ht⟩ := Option.isSome_iff_exists.1 hs
  have h1 := TR.onT tb.tr k ((tb.mem k).2 hk)
  have e : posOf Lq k = t.pt := by unfold posOf; rw [tb.pos, ht]; rfl
  refine ⟨hs, ?_⟩
  unfold thOf
  rw [ht]
  exact ⟨tb.ok k t ht, by show On t.pt = true; rw [← e]; exact h1⟩
/-- How many there are in the cells below one. -/
noncomputable def cum (L : List (Int × Th)) : Nat → Nat
  | 0 => 0
  | j + 1 => cum L j + (cellT L ((j : Int) - 1)).length
theorem cell_one (p : Pt) (h : On p = true) : 0 ≤ cellOf p ∧ cellOf p < 16 := by
  have : 0 ≤ p.x ∧ p.x < 64 ∧ 0 ≤ p.y ∧ p.y < 64 := by unfold On at h; simpa only [Bool.and_eq_true, decide_eq_true_eq] using h
  exact cellAt_b (by omega) (by omega) (by omega) (by omega)
theorem cum_keys {L : List (Int × Th)} (h : ∀ k ∈ aKeys L, On (thOf L k).pt = true) : ∀ j : Nat, j ≤ 17 → cum L j = ((aKeys L).filter fun k => decide (cellOf (thOf L k).pt < (j : Int) - 1)).length
  | 0, _ => by
    rw [List.filter_eq_nil_iff.2 fun k hk hr => by have := cell_one _ (h k hk); have := of_decide_eq_true hr; omega]
    rfl
  | j + 1, hj => by
    have ih := cum_keys h j (by omega)
    unfold cum
    rw [ih]
    have key : ∀ l : List Int, (∀ k ∈ l, On (thOf L k).pt = true) → (l.filter fun k => decide (cellOf (thOf L k).pt < (j : Int) - 1)).length + (l.filter fun k => decide (cellOf (thOf L k).pt = (j : Int) - 1)).length = (l.filter fun k => decide (cellOf (thOf L k).pt < ((j + 1 : Nat) : Int) - 1)).length := by
      intro l
      induction l with
      | nil => intro _; rfl
      | cons k r ih2 =>
        intro hl
        have := ih2 fun k hk => hl k (List.mem_cons_of_mem _ hk)
        simp only [List.filter_cons]
        by_cases h1 : cellOf (thOf L k).pt < (j : Int) - 1
        · rw [decide_eq_true h1, decide_eq_false (by omega), decide_eq_true (by omega)]
          simp only [if_true, List.length_cons, Bool.false_eq_true, if_false]; omega
        · by_cases h2 : cellOf (thOf L k).pt = (j : Int) - 1
          · rw [decide_eq_false h1, decide_eq_true h2, decide_eq_true (by omega)]
            simp only [if_true, List.length_cons, Bool.false_eq_true, if_false]; omega
          · rw [decide_eq_false h1, decide_eq_false h2, decide_eq_false (by omega)]
            simp only [Bool.false_eq_true, if_false]; omega
    rw [← key _ h]
    congr 1
    unfold cellT
    by_cases hc : isC ((j : Int) - 1) = true
    · rw [if_pos hc]
      have hb : 0 ≤ (j : Int) - 1 ∧ (j : Int) - 1 < 16 := by unfold isC at hc; simpa using hc
      unfold inT
      rw [srtI_len]
      congr 1
      refine List.filter_congr fun k hk => ?_
      have := cell_in hb.1 hb.2 (thOf L k).pt
      rw [h k hk] at this
      cases hr : RIn (cellR ((j : Int) - 1)) (thOf L k).pt with
      | true => rw [decide_eq_true (this.1 hr).2]
      | false => rw [decide_eq_false fun e => by rw [this.2 ⟨rfl, e⟩] at hr; cases hr]
    · rw [if_neg hc]
      rw [List.filter_eq_nil_iff.2 fun k hk hr => ?_]
      have := cell_one _ (h k hk)
      have e := of_decide_eq_true hr
      exact hc (by unfold isC; rw [decide_eq_true (by omega : 0 ≤ (j : Int) - 1), decide_eq_true (by omega : (j : Int) - 1 < 16)]; rfl)
theorem cum_all {L : List (Int × Th)} (h : ∀ k ∈ aKeys L, On (thOf L k).pt = true) : cum L 18 = L.length := by
  have e : cum L 18 = cum L 17 + (cellT L 16).length := rfl
  rw [e, cum_keys h 17 (by omega), List.filter_eq_self.2 fun k hk => ?_]
  · have : cellT L 16 = [] := by unfold cellT; rw [if_neg (by decide)]
    rw [this]; simp [aKeys]
  · have := cell_one _ (h k hk)
    exact decide_eq_true (by omega)
theorem cells_strict {L : List (Int × Th)} {c : Int} (hn : (aKeys L).Nodup) {i j : Nat} (hj : j < (cellT L c).length) (h : i < j) : (cellT L c)[i] < (cellT L c)[j] := by
  have key : ∀ l : List Int, l = cellT L c → ∀ (hj : j < l.length), l[i]'(by omega) < l[j] := by
    intro l hl hj
    unfold cellT at hl
    split at hl
    · subst hl
      exact srtI_strict (hn.filter _) hj h
    · subst hl; simp at hj
  exact key _ rfl hj
theorem cells_mem {L : List (Int × Th)} {c k : Int} (h : k ∈ cellT L c) : k ∈ aKeys L := by
  unfold cellT at h
  split at h
  · unfold inT at h
    exact (List.mem_filter.1 ((srtI_perm _).mem_iff.1 h)).1
  · cases h
theorem same_thT (t : Th) : cellsEqA (thC t) (thC t) = true := by
  simp only [thC, ptC, fdC, List.cons_append, List.nil_append, cellsEqA, cellEqA, iEq_dec, sEq_dec, decide_true]
theorem inT_lenC (L : List (Int × Th)) (c : Int) : (cellT L c).length ≤ L.length := by
  unfold cellT
  split
  · exact inT_len L _
  · simp
theorem cum_le {L : List (Int × Th)} : ∀ j : Nat, cum L j ≤ j * L.length
  | 0 => by simp [cum]
  | j + 1 => by have := cum_le (L := L) j; have := inT_lenC L ((j : Int) - 1); unfold cum; rw [Nat.add_mul]; omega
theorem B_law9_TableCells_ {lf : Nat} {cl : Cl} (hlf : 1000 ≤ lf) (hkn : CTrue i_law9_known cl) (hfew : CFewTs lf cl) (hof : CTOf cl) (hcell : CTCell cl) (hget : CTGet cl) (hlen : CTLen cl) (hall : CTAll cl) {H : AH} {p : AP} {n : Nat} {c : ACap} {ts : List Th} (hI : InT H p n ts) (hn : n < lf) (hmax : n ≤ 9223372036854775807) :
    B_law9_TableCells lf cl p n c 11 H isT = true := by
  unfold B_law9_TableCells
  rw [hkn]
  refine arB_w (fBf_w rfl ?_)
  refine hfew _ _ _ _ _ _ hI hn hmax fun H1 b h1 hb => arB_w ?_
  rw [fB_eq]
  refine ifA_w (fun _ => rfl) (fun hb' => ?_)
  have h30 : n ≤ 30 := hb (by simpa using hb')
  refine hof _ _ _ _ _ _ (hI.le h1) (by omega) fun H2 g O h2 tt hz => ?_
  rw [asP_]
  have hL30 : (putAll ts).length ≤ 30 := by have := putAll_len ts []; rw [hI.1] at this; simp only [List.length_nil, putAll] at *; omega
  generalize putAll ts = L at *
  obtain ⟨hnod, hk⟩ := tt.atK
  refine loopX_w (fun x Hx => x.1 = .at g 0 ∧ TT Hx g L O ∧ ∃ j : Nat, x.2.2 = (j : Int) - 1 ∧ j ≤ 18 ∧ x.2.1 = (cum L j : Nat)) (fun x => 20 - (x.2.2 + 1).toNat) ⟨rfl, tt, 0, rfl, by omega, rfl⟩ (by simp; omega) ?_
  clear tt hz hI
  rintro self ⟨x1, x2, x3⟩ H3 ⟨e1, tt, j, e3, hj, e2⟩ ih
  simp only at e1 e2 e3
  subst e1 e2 e3
  simp only [pR_, fB_eq, iLt_dec, iLe_dec]
  have hcj := cum_le (L := L) j
  have hc1 : cum L j ≤ 600 := Nat.le_trans hcj (Nat.le_trans (Nat.mul_le_mul hj hL30) (by decide))
  refine ifA_w (fun hx => ?_) (fun hx => ?_)
  · have hx : j < 18 := by have := of_decide_eq_true hx; simp only [Int.ofNat_eq_natCast, Int.cast_ofNat_Int] at this; omega
    refine hcell H3 g L O _ _ tt (by omega) fun H4 p4 c4 z4 h4 sl4 => ?_
    rw [asSl_]
    have hcl := inT_lenC L ((j : Int) - 1)
    refine loopX_w (fun x Hx => x.1 = .at g 0 ∧ x.2.1 = (cum L j : Nat) ∧ x.2.2.1 = (j : Int) - 1 ∧ x.2.2.2.1 = (p4, (cellT L ((j : Int) - 1)).length, c4, z4) ∧ Le H4 Hx ∧ ∃ i : Nat, x.2.2.2.2 = (i : Int) ∧ i ≤ (cellT L ((j : Int) - 1)).length) (fun x => 100 - x.2.2.2.2.toNat)
      ⟨rfl, rfl, rfl, rfl, Le.refl _, 0, rfl, by omega⟩ (by simp; omega) ?_
    rintro self2 ⟨y1, y2, y3, y4, y5⟩ H5 ⟨e1, e2, e3, e4, h5, i, e5, hi⟩ ih2
    simp only at e1 e2 e3 e4 e5
    subst e1 e2 e3 e4 e5
    have t5 := tt.le (h4.trans h5)
    simp only [pR_, fB_eq, iLt_dec, iLe_dec]
    refine ifA_w (fun hy => ?_) (fun hy => ?_)
    · have hy : i < (cellT L ((j : Int) - 1)).length := by have := of_decide_eq_true hy; simp only [Int.ofNat_eq_natCast] at this; omega
      have row : ∀ (a : Nat) (ha : a < (cellT L ((j : Int) - 1)).length), ∃ g6, p4 = .at g6 0 ∧ H4.has g6 ∧ H4.get g6 = some (.row (thsC ((cellT L ((j : Int) - 1)).map (thOf L)))) ∧ ((thsC ((cellT L ((j : Int) - 1)).map (thOf L))).drop (a * 11)).take 11 = thC (thOf L (cellT L ((j : Int) - 1))[a]) := fun a ha => by
        rcases sl4.rep with ⟨h0, _⟩ | ⟨g6, hp, _, hg6, hh6, _⟩
        · omega
        · refine ⟨g6, hp, hh6, hg6, ?_⟩
          have := thsC_at ((cellT L ((j : Int) - 1)).map (thOf L)) a (by rw [List.length_map]; exact ha)
          rw [this, List.getElem_map]
      have len : (thsC ((cellT L ((j : Int) - 1)).map (thOf L))).length = (cellT L ((j : Int) - 1)).length * 11 := by rw [thsC_len, List.length_map]
      obtain ⟨g6, rfl, hh6, hg6, at6⟩ := row i hy
      have idc : ∀ (a : Nat) (ha : a < (cellT L ((j : Int) - 1)).length), (thsC ((cellT L ((j : Int) - 1)).map (thOf L)))[a * 11]? = some (.int .i64 (cellT L ((j : Int) - 1))[a]) := fun a ha => by
        obtain ⟨_, _, _, _, at'⟩ := row a ha
        have := congrArg (·[0]?) at'
        rw [List.getElem?_take_of_lt (by decide), List.getElem?_drop, Nat.add_zero] at this
        rw [this]
        show some (AS.int .i64 (thOf L _).id) = _
        rw [(hk _ (cells_mem (List.getElem_mem ha))).2.1]
      have gg := (h5.get _ hh6).trans hg6
      simp only [nilK_at, fN_eq, Nat.add_eq, Nat.mul_eq, Nat.zero_add, Nat.add_zero]
      refine idxK_w (by omega) (by omega) (rowK_w gg (ldI_w (by rw [Int.toNat_natCast]; exact idc i hy) ?_))
      have hki := hk _ (cells_mem (List.getElem_mem hy))
      refine hget H5 g L O _ _ t5 fun H6 h6 => ?_
      rw [tup2_, asG_, hki.1]
      refine arB_w (tmp_w rfl rfl fun gx H7 h7 hx7 nx gx7 => ?_)
      have h57 := h6.trans h7
      have hh5 := h5.has _ hh6
      have gg7 := (h57.get _ hh5).trans gg
      refine (show ifA false _ _ = true from ?_)
      rw [ifA_f]
      refine rowK_w gx7 (ldG_we (by rw [thC_len]; decide) (by decide) (thC_all _) ?_)
      refine idxK_w (by omega) (by omega) (rowK_w gg7 (ldG_we (ys := thC (thOf L (cellT L ((j : Int) - 1))[i])) (by rw [len, Int.toNat_natCast]; omega) (by decide) (by rw [Int.toNat_natCast]; exact at6) (okK_w rfl ?_)))
      rw [same_thT]
      refine (show ifA false _ _ = true from ?_)
      rw [ifA_f]
      have nx : (w64 (iAdd (i : Int) (Int.ofNat 1)) fun n79 => self2 (.at g 0, (cum L j : Nat), (j : Int) - 1, (.at g6 0, (cellT L ((j : Int) - 1)).length, c4, z4), n79) H7) = true :=
        w64_w (by simp only [iAdd_, Int.ofNat_eq_natCast]; omega) (by simp only [iAdd_, Int.ofNat_eq_natCast]; omega) (ih2 _ _ ⟨rfl, rfl, rfl, rfl, h5.trans h57, i + 1, by simp [iAdd_], by omega⟩ (by simp [iAdd_]; omega))
      refine ifA_w (fun hi0 => ?_) (fun _ => nx)
      have hi0 : 0 < i := by have := of_decide_eq_true hi0; simp only [Int.ofNat_eq_natCast] at this; omega
      rw [iSub_]
      refine w64_w (by simp only [Int.ofNat_eq_natCast]; omega) (by simp only [Int.ofNat_eq_natCast]; omega) ?_
      have e9 : ((i : Int) - Int.ofNat 1).toNat = i - 1 := by simp only [Int.ofNat_eq_natCast]; omega
      refine idxK_w (by simp only [Int.ofNat_eq_natCast]; omega) (by simp only [Int.ofNat_eq_natCast]; omega) (rowK_w gg7 (ldI_w (by rw [e9]; exact idc (i - 1) (by omega)) ?_))
      refine idxK_w (by omega) (by omega) (rowK_w gg7 (ldI_w (by rw [Int.toNat_natCast]; exact idc i hy) ?_))
      have := cells_strict (c := (j : Int) - 1) hnod hy (show i - 1 < i by omega)
      refine ifA_w (fun h => absurd (of_decide_eq_true h) (by omega)) (fun _ => nx)
    · have hy : i = (cellT L ((j : Int) - 1)).length := by have := of_decide_eq_false hy; simp only [Int.ofNat_eq_natCast] at this; omega
      rw [iAdd_, iAdd_]
      have e : cum L (j + 1) = cum L j + (cellT L ((j : Int) - 1)).length := rfl
      refine w64_w (by simp only [Int.ofNat_eq_natCast]; omega) (by simp only [Int.ofNat_eq_natCast]; omega) (w64_w (by simp only [Int.ofNat_eq_natCast]; omega) (by simp only [Int.ofNat_eq_natCast]; omega) (ih _ _ ⟨rfl, t5, j + 1, by simp only [Int.ofNat_eq_natCast]; omega, by omega, by rw [e]; simp⟩ (by simp only [Int.ofNat_eq_natCast]; omega)))
  · have hx : j = 18 := by have := of_decide_eq_false hx; simp only [Int.ofNat_eq_natCast, Int.cast_ofNat_Int] at this; omega
    subst hx
    have e := cum_all fun k hk' => (hk k hk').2.2
    refine hlen H3 g L O _ tt (arI_w ?_)
    rw [e]
    refine ifA_w (fun _ => ?_) (fun h => absurd h (by rw [iEq_dec]; simp))
    refine hall H3 g L O _ tt (by omega) fun H4 p4 c4 z4 h4 sl4 => ?_
    rw [asSl_, allT_len, iEq_dec, decide_eq_true (show ((L.length : Nat) : Int) = Int.ofNat L.length from rfl)]
    rfl
end Go.Proofs
end
