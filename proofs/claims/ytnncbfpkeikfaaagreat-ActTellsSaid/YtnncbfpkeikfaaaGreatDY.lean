import Derived.Test.YtnncbfpkeikfaaaGreatDX
import Derived.Test.YtnncbfpkeikfaaaGreatBL
import Derived.Test.YtnncbfpkeikfaaaGreatDT
import Derived.Test.YtnncbfpkeikfaaaGreatBR
section
/- Many things at one place. -/
namespace Go.Proofs
open Go Go.Vw Go.Vw.Ev
set_option linter.unusedVariables false
set_option linter.unusedSimpArgs false

theorem wrapu8 {n : Int} (h0 : 0 ≤ n) (h1 : n ≤ 255) : IntKind.wrap .u8 n = n := by
  obtain ⟨m, rfl⟩ := Int.eq_ofNat_of_zero_le h0
  have key : ∀ i : Fin 256, IntKind.wrap .u8 (i.val : Nat) = (i.val : Nat) := by decide +kernel
  exact key ⟨m, by omega⟩
theorem cellOf_b {p : Pt} (h : On p = true) : 0 ≤ cellOf p ∧ cellOf p < 16 := by
  have := on_b h
  exact cellAt_b (by omega) (by omega) (by omega) (by omega)
theorem cellT_count {L : List (Int × Th)} {p : Pt} (h : On p = true) : (cellT L (ofC p)).length = ((aKeys L).filter fun k => RIn (cellR (cellOf p)) (thOf L k).pt).length := by
  have hb := cellOf_b h
  have e : ofC p = cellOf p := by unfold ofC; rw [if_pos h]
  unfold cellT
  rw [e, if_pos (by unfold isC; rw [decide_eq_true hb.1, decide_eq_true hb.2]; rfl)]
  unfold inT
  rw [srtI_len]
/-- So many things at one place, numbered from 0 on. -/
structure AllAt (L : List (Int × Th)) (p : Pt) (m : Nat) : Prop where
  len : L.length = m
  keys : ∀ k, k ∈ aKeys L ↔ 0 ≤ k ∧ k < m
  pt : ∀ k ∈ aKeys L, (thOf L k).pt = p
theorem AllAt.count {L : List (Int × Th)} {p q : Pt} {m : Nat} (h : AllAt L p m) (hp : On p = true) (hq : On q = true) : ((aKeys L).filter fun k => RIn (cellR (cellOf q)) (thOf L k).pt).length = if cellOf p = cellOf q then m else 0 := by
  have hb := cellOf_b hq
  split
  · rename_i e
    rw [List.filter_eq_self.2 fun k hk => by rw [h.pt k hk]; exact (cell_in hb.1 hb.2 p).2 ⟨hp, e⟩]
    have := h.len
    simpa [aKeys] using this
  · rename_i e
    rw [List.filter_eq_nil_iff.2 fun k hk hr => by rw [h.pt k hk] at hr; exact e ((cell_in hb.1 hb.2 p).1 hr).2]
    rfl
theorem AllAt.add {L : List (Int × Th)} {p : Pt} {m : Nat} (h : AllAt L p m) : AllAt (aSet L (m : Int) (putT (putC p) m)) p (m + 1) := by
  have hn : (m : Int) ∉ aKeys L := fun hk => by have := (h.keys _).1 hk; omega
  refine ⟨?_, fun k => ?_, fun k hk => ?_⟩
  · have := congrArg List.length (aKeys_set_new L (putT (putC p) m) hn)
    have h2 := h.len
    simp only [aKeys, List.length_map, List.length_append, List.length_cons, List.length_nil] at this
    omega
  · rw [aKeys_set_new _ _ hn, List.mem_append, List.mem_singleton, h.keys]
    omega
  · unfold thOf
    by_cases e : k = (m : Int)
    · subst e; rw [aGet_set_same]; rfl
    · rw [aGet_set_ne _ _ e]
      rw [aKeys_set_new _ _ hn, List.mem_append, List.mem_singleton] at hk
      exact h.pt k (hk.resolve_right e)
theorem AllAt.count_add {L : List (Int × Th)} {p q : Pt} {m : Nat} {k : Int} {T : Th} (h : AllAt L p m) (hk : k ∉ aKeys L) (hp : On p = true) (hq : On q = true) (hT : cellOf T.pt ≠ cellOf q) :
    ((aKeys (aSet L k T)).filter fun j => RIn (cellR (cellOf q)) (thOf (aSet L k T) j).pt).length = if cellOf p = cellOf q then m else 0 := by
  rw [← h.count hp hq, aKeys_set_new _ _ hk, List.filter_append, List.length_append]
  have hb := cellOf_b hq
  have e1 : ([k].filter fun j => RIn (cellR (cellOf q)) (thOf (aSet L k T) j).pt) = [] := List.filter_eq_nil_iff.2 fun j hj hr => by
    rw [List.mem_singleton.1 hj] at hr
    unfold thOf at hr
    rw [aGet_set_same] at hr
    exact hT ((cell_in hb.1 hb.2 _).1 hr).2
  rw [e1, List.length_nil, Nat.add_zero]
  congr 1
  refine List.filter_congr fun j hj => ?_
  have hne : j ≠ k := fun e => hk (e ▸ hj)
  unfold thOf
  rw [aGet_set_ne L T hne]
theorem len_old {L : List (Int × Th)} {k : Int} {T : Th} (h : k ∈ aKeys L) : (aSet L k T).length = L.length := by
  have := congrArg List.length (aKeys_set_old L T h)
  simpa [aKeys] using this
theorem aGet_isSome {L : List (Int × Th)} {k : Int} : (aGet L k).isSome = true ↔ k ∈ aKeys L := mem_get.symm
theorem not_some {L : List (Int × Th)} {k : Int} (h : k ∉ aKeys L) : (aGet L k).isSome = false := by
  cases e : (aGet L k).isSome with
  | false => rfl
  | true => exact absurd (aGet_isSome.1 e) h
end Go.Proofs
end
section
/- ActTwice: a thing that is dropped can't be moved, set, dropped; its number may be put again. -/
namespace Go.Proofs
open Go Go.Vw Go.Vw.Ev
set_option linter.unusedVariables false
set_option linter.unusedSimpArgs false

def CTrueA (f : Nat) (cl : Cl) : Prop := ∀ H K, cl f [] H K = K (.s (.bool true)) H
theorem fr_le {O : Pn → Prop} {H0 H H' : AH} (h : Le H0 H) (f : Fr O H H') (hz : ∀ a, O a → ¬ H0.has a) : Le H0 H' :=
  ⟨fun a ha => f.has a (h.has a ha), fun a ha => (f.get a (h.has a ha) fun h' => hz a h' ha).trans (h.get a ha)⟩
end Go.Proofs
end
section
/- Rows of things, as the reference has them. -/
namespace Go.Proofs
open Go Go.Vw Go.Vw.Ev
set_option linter.unusedVariables false
set_option linter.unusedSimpArgs false

theorem Sl.inT {H0 H : AH} {p : AP} {n z : Nat} {ts : List Th} (h : Sl H0 H p n z (thsC ts) 11) (hn : ts.length = n) : InT H p n ts :=
  ⟨hn, fun h0 => by
    rcases h.rep with ⟨h1, _⟩ | ⟨g, rfl, _, hg, hh, _⟩
    · exact absurd h1 h0
    · exact ⟨g, rfl, hh, .inr hg⟩⟩
theorem thC_inj {a b : Th} : cellsEqA (thC a) (thC b) = true ↔ a = b := by
  constructor
  · intro h
    have key : decide (a.id = b.id) = true ∧ decide (a.pt.x = b.pt.x) = true ∧ decide (a.pt.y = b.pt.y) = true ∧ decide (a.f0.n = b.f0.n) = true ∧ decide (a.f0.s = b.f0.s) = true ∧ decide (a.f1.n = b.f1.n) = true ∧ decide (a.f1.s = b.f1.s) = true ∧
        decide (a.f2.n = b.f2.n) = true ∧ decide (a.f2.s = b.f2.s) = true ∧ decide (a.f3.n = b.f3.n) = true ∧ decide (a.f3.s = b.f3.s) = true := by
      simp only [thC, ptC, fdC, List.cons_append, List.nil_append, cellsEqA, cellEqA, iEq_dec, sEq_dec] at h
      generalize decide (a.id = b.id) = b0 at *
      generalize decide (a.pt.x = b.pt.x) = b1 at *
      generalize decide (a.pt.y = b.pt.y) = b2 at *
      generalize decide (a.f0.n = b.f0.n) = b3 at *
      generalize decide (a.f0.s = b.f0.s) = b4 at *
      generalize decide (a.f1.n = b.f1.n) = b5 at *
      generalize decide (a.f1.s = b.f1.s) = b6 at *
      generalize decide (a.f2.n = b.f2.n) = b7 at *
      generalize decide (a.f2.s = b.f2.s) = b8 at *
      generalize decide (a.f3.n = b.f3.n) = b9 at *
      generalize decide (a.f3.s = b.f3.s) = b10 at *
      cases b0 <;> first | exact Bool.noConfusion h | skip
      cases b1 <;> first | exact Bool.noConfusion h | skip
      cases b2 <;> first | exact Bool.noConfusion h | skip
      cases b3 <;> first | exact Bool.noConfusion h | skip
      cases b4 <;> first | exact Bool.noConfusion h | skip
      cases b5 <;> first | exact Bool.noConfusion h | skip
      cases b6 <;> first | exact Bool.noConfusion h | skip
      cases b7 <;> first | exact Bool.noConfusion h | skip
      cases b8 <;> first | exact Bool.noConfusion h | skip
      cases b9 <;> first | exact Bool.noConfusion h | skip
      cases b10 <;> first | exact Bool.noConfusion h | skip
      exact ⟨rfl, rfl, rfl, rfl, rfl, rfl, rfl, rfl, rfl, rfl, rfl⟩
    simp only [decide_eq_true_eq] at key
    obtain ⟨e0, e1, e2, e3, e4, e5, e6, e7, e8, e9, e10⟩ := key
    obtain ⟨ai, ⟨ax, ay⟩, ⟨a0, a1⟩, ⟨a2, a3⟩, ⟨a4, a5⟩, ⟨a6, a7⟩⟩ := a
    obtain ⟨bi, ⟨bx, by_⟩, ⟨b0, b1⟩, ⟨b2, b3⟩, ⟨b4, b5⟩, ⟨b6, b7⟩⟩ := b
    simp only at e0 e1 e2 e3 e4 e5 e6 e7 e8 e9 e10
    subst e0 e1 e2 e3 e4 e5 e6 e7 e8 e9 e10
    rfl
  · rintro rfl
    simp only [thC, ptC, fdC, List.cons_append, List.nil_append, cellsEqA, cellEqA, iEq_dec, sEq_dec, decide_true]
def CSame6 (cl : Cl) : Prop := ∀ H p n c z1 q m d z2 ts us K, InT H p n ts → InT H q m us → n < 100000 → (∀ b, (b = true ↔ ts = us) → K (.s (.bool b)) H = true) → cl i_ref6_SameAll [.s (.slice p n c z1), .s (.slice q m d z2)] H K = true
theorem InT.at {H : AH} {p : AP} {n : Nat} {ts : List Th} (h : InT H p n ts) {i : Nat} (hi : i < n) : ∃ g, p = .at g 0 ∧ H.has g ∧ (H.get g = some (.fix (thsC ts)) ∨ H.get g = some (.row (thsC ts))) ∧ i * 11 + 11 ≤ (thsC ts).length ∧
    ((thsC ts).drop (i * 11)).take 11 = thC (ts[i]'(by rw [h.1]; exact hi)) ∧ (thsC ts)[i * 11]? = some (.int .i64 (ts[i]'(by rw [h.1]; exact hi)).id) := by
  obtain ⟨g, h1, h2, h3⟩ := h.2 (by omega)
  have hl : i < ts.length := by rw [h.1]; exact hi
  have ha := thsC_at ts i hl
  refine ⟨g, h1, h2, h3, by rw [thsC_len]; omega, ha, ?_⟩
  have := congrArg (·[0]?) ha
  rw [List.getElem?_take_of_lt (by decide), List.getElem?_drop, Nat.add_zero] at this
  rw [this]; rfl
theorem B_ref6_SameAll_ {lf : Nat} {cl : Cl} (hlf : 100000 ≤ lf) {H : AH} {p q : AP} {n m zz zy : Nat} {c d : ACap} {ts us : List Th} {K : AV → AH → Bool} (hp : InT H p n ts) (hq : InT H q m us) (hn : n < 100000) (hk : ∀ b, (b = true ↔ ts = us) → K (.s (.bool b)) H = true) :
    B_ref6_SameAll lf cl p n c zz q m d zy H K = true := by
  unfold B_ref6_SameAll
  rw [fB_eq, iEq_dec]
  refine ifA_w (fun h => hk false ⟨fun h => (by cases h), fun e => ?_⟩) (fun h => ?_)
  · have : n = m := by rw [← hp.1, ← hq.1, e]
    subst this
    rw [decide_eq_true rfl] at h
    cases h
  have hnm : n = m := by
    by_cases e : (Int.ofNat n) = Int.ofNat m
    · exact Int.ofNat.inj e
    · rw [decide_eq_false e] at h; cases h
  subst hnm
  refine loopX_w (fun x Hx => Hx = H ∧ x.1 = (p, n, c, zz) ∧ x.2.1 = (q, n, d, zy) ∧ ∃ i : Nat, x.2.2 = (i : Int) ∧ i ≤ n ∧ ts.take i = us.take i) (fun x => n - x.2.2.toNat) ⟨rfl, rfl, rfl, 0, rfl, by omega, rfl⟩ (by simp; omega) ?_
  rintro self ⟨x1, x2, x3⟩ Hx ⟨e0, e1, e2, i, e3, hi, ht⟩ ih
  simp only at e1 e2 e3
  subst e0 e1 e2 e3
  simp only [pR_, fB_eq, iLt_dec]
  have hlt := hp.1
  have hlu := hq.1
  refine ifA_w (fun hx => ?_) (fun hx => ?_)
  · have hx : i < n := by have := of_decide_eq_true hx; simp only [Int.ofNat_eq_natCast] at this; omega
    obtain ⟨g1, rfl, _, r1, l1, a1, _⟩ := hp.at hx
    obtain ⟨g2, rfl, _, r2, l2, a2, _⟩ := hq.at hx
    simp only [nilK_at, fN_eq, Nat.add_eq, Nat.mul_eq, Nat.zero_add]
    refine idxK_w (by omega) (by omega) (rowK_wo r1 (ldG_we (ys := thC (ts[i]'(by omega))) (by rw [Int.toNat_natCast]; exact l1) (by decide) (by rw [Int.toNat_natCast]; exact a1) ?_))
    refine idxK_w (by omega) (by omega) (rowK_wo r2 (ldG_we (ys := thC (us[i]'(by omega))) (by rw [Int.toNat_natCast]; exact l2) (by decide) (by rw [Int.toNat_natCast]; exact a2) (okK_w rfl ?_)))
    refine ifA_w (fun h => hk false ⟨fun h => (by cases h), fun e => ?_⟩) (fun h => ?_)
    · subst e
      rw [thC_inj.2 rfl] at h; cases h
    · have he : ts[i]'(by omega) = us[i]'(by omega) := thC_inj.1 (by cases h' : cellsEqA (thC (ts[i]'(by omega))) (thC (us[i]'(by omega))) with
        | true => rfl
        | false => rw [h'] at h; cases h)
      rw [iAdd_]
      refine w64_w (by simp only [Int.ofNat_eq_natCast]; omega) (by simp only [Int.ofNat_eq_natCast]; omega) (ih _ _ ⟨rfl, rfl, rfl, i + 1, by simp, by omega, ?_⟩ (by simp; omega))
      rw [List.take_succ_eq_append_getElem (by omega), List.take_succ_eq_append_getElem (by omega), ht, he]
  · have hx : i = n := by have := of_decide_eq_false hx; simp only [Int.ofNat_eq_natCast] at this; omega
    rw [hx, List.take_of_length_le (by omega), List.take_of_length_le (by omega)] at ht
    exact hk true ⟨fun _ => ht, fun _ => rfl⟩
def CAt6 (cl : Cl) : Prop := ∀ H p n c z ts id K, InT H p n ts → n < 100000 → (∀ r : Int, ((0 ≤ r ∧ ∃ (i : Nat) (hi : i < ts.length), r = (i : Int) ∧ ts[i].id = id) ∨ (r < 0 ∧ ∀ t ∈ ts, t.id ≠ id)) → K (.s (.int .i64 r)) H = true) → cl i_ref6_At [.s (.slice p n c z), .s (.int .i64 id)] H K = true
theorem B_ref6_At_ {lf : Nat} {cl : Cl} (hlf : 100000 ≤ lf) {H : AH} {p : AP} {n zz : Nat} {c : ACap} {ts : List Th} {id : Int} {K : AV → AH → Bool} (hp : InT H p n ts) (hn : n < 100000)
    (hk : ∀ r : Int, ((0 ≤ r ∧ ∃ (i : Nat) (hi : i < ts.length), r = (i : Int) ∧ ts[i].id = id) ∨ (r < 0 ∧ ∀ t ∈ ts, t.id ≠ id)) → K (.s (.int .i64 r)) H = true) : B_ref6_At lf cl p n c zz id H K = true := by
  unfold B_ref6_At
  have hlt := hp.1
  refine loopX_w (fun x Hx => Hx = H ∧ x.1 = (p, n, c, zz) ∧ x.2.1 = id ∧ ∃ i : Nat, x.2.2 = (i : Int) ∧ i ≤ n ∧ ∀ t ∈ ts.take i, t.id ≠ id) (fun x => n - x.2.2.toNat) ⟨rfl, rfl, rfl, 0, rfl, by omega, fun t h => (by simp at h)⟩ (by simp; omega) ?_
  rintro self ⟨x1, x2, x3⟩ Hx ⟨e0, e1, e2, i, e3, hi, ht⟩ ih
  simp only at e1 e2 e3
  subst e0 e1 e2 e3
  simp only [pR_, fB_eq, iLt_dec]
  refine ifA_w (fun hx => ?_) (fun hx => ?_)
  · have hx : i < n := by have := of_decide_eq_true hx; simp only [Int.ofNat_eq_natCast] at this; omega
    obtain ⟨g1, rfl, _, r1, l1, a1, i1⟩ := hp.at hx
    simp only [nilK_at, fN_eq, Nat.add_eq, Nat.mul_eq, Nat.zero_add, Nat.add_zero]
    refine idxK_w (by omega) (by omega) (rowK_wo r1 (ldI_w (by rw [Int.toNat_natCast]; exact i1) ?_))
    rw [iEq_dec]
    refine ifA_w (fun h => hk _ (.inl ⟨by omega, i, by omega, rfl, of_decide_eq_true h⟩)) (fun h => ?_)
    rw [iAdd_]
    refine w64_w (by simp only [Int.ofNat_eq_natCast]; omega) (by simp only [Int.ofNat_eq_natCast]; omega) (ih _ _ ⟨rfl, rfl, rfl, i + 1, by simp, by omega, fun t h' => ?_⟩ (by simp; omega))
    rw [List.take_succ_eq_append_getElem (by omega), List.mem_append, List.mem_singleton] at h'
    rcases h' with h' | rfl
    · exact ht t h'
    · exact of_decide_eq_false h
  · have hx : i = n := by have := of_decide_eq_false hx; simp only [Int.ofNat_eq_natCast] at this; omega
    rw [hx, List.take_of_length_le (by omega)] at ht
    exact hk _ (.inr ⟨by decide, ht⟩)
def notId (id : Int) (t : Th) : Bool := decide (t.id ≠ id)
def CWithoutS (cl : Cl) : Prop := ∀ H p n c z ts id K, InT H p n ts → n < 10000 → (∀ H' p' c' z', Le H H' → Sl H H' p' (ts.filter (notId id)).length z' (thsC (ts.filter (notId id))) 11 → K (.s (.slice p' (ts.filter (notId id)).length c' z')) H' = true) → cl i_ref6_Without [.s (.slice p n c z), .s (.int .i64 id)] H K = true
def CWithout (cl : Cl) : Prop := ∀ H p n c z ts id K, InT H p n ts → n < 10000 → (∀ H' p' c' z', Le H H' → InT H' p' (ts.filter (notId id)).length (ts.filter (notId id)) → K (.s (.slice p' (ts.filter (notId id)).length c' z')) H' = true) → cl i_ref6_Without [.s (.slice p n c z), .s (.int .i64 id)] H K = true
theorem W_ref6_WithoutS {lf : Nat} {cl : Cl} (hlf : 100000 ≤ lf) {H : AH} {p : AP} {n zz : Nat} {c : ACap} {ts : List Th} {id : Int} {K : AV → AH → Bool} (hp : InT H p n ts) (hn : n < 10000)
    (hk : ∀ H' p' c' z', Le H H' → Sl H H' p' (ts.filter (notId id)).length z' (thsC (ts.filter (notId id))) 11 → K (.s (.slice p' (ts.filter (notId id)).length c' z')) H' = true) : B_ref6_Without lf cl p n c zz id H K = true := by
  unfold B_ref6_Without
  have hlt := hp.1
  refine loopX_w (fun x Hx => x.1 = (p, n, c, zz) ∧ x.2.1 = id ∧ Le H Hx ∧ ∃ i : Nat, x.2.2.2 = (i : Int) ∧ i ≤ n ∧ ∃ p1 c1 z1, x.2.2.1 = (p1, ((ts.take i).filter (notId id)).length, c1, z1) ∧ Sl H Hx p1 ((ts.take i).filter (notId id)).length z1 (thsC ((ts.take i).filter (notId id))) 11) (fun x => n - x.2.2.2.toNat)
    ⟨rfl, rfl, Le.refl _, 0, rfl, by omega, .nil, _, _, rfl, Sl.nil⟩ (by simp; omega) ?_
  rintro self ⟨x1, x2, x3, x4⟩ Hx ⟨e1, e2, hL, i, e4, hi, p1, c1, z1, e3, sl⟩ ih
  simp only at e1 e2 e3 e4
  subst e1 e2 e3 e4
  simp only [pR_, fB_eq, iLt_dec]
  refine ifA_w (fun hx => ?_) (fun hx => ?_)
  · have hx : i < n := by have := of_decide_eq_true hx; simp only [Int.ofNat_eq_natCast] at this; omega
    obtain ⟨g1, rfl, _, r1, l1, a1, i1⟩ := (hp.le hL).at hx
    simp only [nilK_at, fN_eq, Nat.add_eq, Nat.mul_eq, Nat.zero_add, Nat.add_zero]
    refine idxK_w (by omega) (by omega) (rowK_wo r1 (ldI_w (by rw [Int.toNat_natCast]; exact i1) ?_))
    rw [iEq_dec]
    have tk : (ts.take (i + 1)).filter (notId x2) = (ts.take i).filter (notId x2) ++ (if notId x2 (ts[i]'(by omega)) = true then [ts[i]'(by omega)] else []) := by
      rw [List.take_succ_eq_append_getElem (by omega), List.filter_append, List.filter_cons, List.filter_nil]
    have lb10 : ((ts.take i).filter (notId x2)).length ≤ i := Nat.le_trans (List.length_filter_le _ _) (by simp; omega)
    refine ifA_w (fun h => ?_) (fun h => ?_)
    · have hne : notId x2 (ts[i]'(by omega)) = true := by
        unfold notId
        by_cases e : (ts[i]'(by omega)).id = x2
        · rw [decide_eq_true e] at h; cases h
        · exact decide_eq_true e
      rw [if_pos hne] at tk
      refine idxK_w (by omega) (by omega) (rowK_wo r1 (ldG_we (ys := thC (ts[i]'(by omega))) (by rw [Int.toNat_natCast]; exact l1) (by decide) (by rw [Int.toNat_natCast]; exact a1) (okK_w rfl (fL_w ?_))))
      rw [ap_eq, List.append_nil]
      refine okK_w rfl (newK_w ?_)
      refine elK_w (ys := thC (ts[i]'(by omega))) (get_new _ _) (by rw [thC_len]; decide) rfl ?_
      refine app_w (sl.le (Le.new _ _)) (hL.newr _) (m := 1) rfl (by decide) (by omega) (by omega) fun p2 c2 z2 H2 hL2 sl2 _ => ?_
      rw [iAdd_]
      refine w64_w (by simp only [Int.ofNat_eq_natCast]; omega) (by simp only [Int.ofNat_eq_natCast]; omega) (ih _ _ ⟨rfl, rfl, hL2, i + 1, by simp, by omega, p2, c2, z2, ?_, ?_⟩ (by simp; omega))
      · rw [tk]; simp
      · rw [tk, thsC, List.flatMap_append, List.length_append]
        simpa [thsC] using sl2
    · have hne : ¬ notId x2 (ts[i]'(by omega)) = true := by
        unfold notId
        by_cases e : (ts[i]'(by omega)).id = x2
        · simp [e]
        · rw [decide_eq_false e] at h; cases h
      rw [if_neg hne, List.append_nil] at tk
      rw [iAdd_]
      exact w64_w (by simp only [Int.ofNat_eq_natCast]; omega) (by simp only [Int.ofNat_eq_natCast]; omega) (ih _ _ ⟨rfl, rfl, hL, i + 1, by simp, by omega, p1, c1, z1, by rw [tk], by rw [tk]; exact sl⟩ (by simp; omega))
  · have hx : i = n := by have := of_decide_eq_false hx; simp only [Int.ofNat_eq_natCast] at this; omega
    rw [hx, List.take_of_length_le (by omega)] at sl ⊢
    exact hk _ _ _ _ hL sl
theorem B_ref6_Without_ {lf : Nat} {cl : Cl} (hlf : 100000 ≤ lf) {H : AH} {p : AP} {n zz : Nat} {c : ACap} {ts : List Th} {id : Int} {K : AV → AH → Bool} (hp : InT H p n ts) (hn : n < 10000)
    (hk : ∀ H' p' c' z', Le H H' → InT H' p' (ts.filter (notId id)).length (ts.filter (notId id)) → K (.s (.slice p' (ts.filter (notId id)).length c' z')) H' = true) : B_ref6_Without lf cl p n c zz id H K = true :=
  W_ref6_WithoutS hlf hp hn fun H' p' c' z' h sl => hk _ _ _ _ h (Sl.inT sl rfl)
end Go.Proofs
end
section
/- The reference's rows of things: what a thing must be, with one, without one, those in a rectangle; and rows that rise. -/
namespace Go.Proofs
open Go Go.Vw Go.Vw.Ev
set_option linter.unusedVariables false
set_option linter.unusedSimpArgs false

/-! What a thing must be. -/
def CIsF6 (cl : Cl) : Prop := ∀ f H K, (∀ H', Le H H' → K (.s (.bool (IsF f))) H' = true) → cl i_ref6_IsField [.agg (fdC f)] H K = true
theorem B_ref6_IsField_ {lf : Nat} {cl : Cl} {f : Fd} {H : AH} {K : AV → AH → Bool} (hk : ∀ H', Le H H' → K (.s (.bool (IsF f))) H' = true) : B_ref6_IsField lf cl (fdC f) H K = true := by
  unfold B_ref6_IsField
  refine new_w fun g H1 h1 hg ng gg => ?_
  have hs : ∀ K : List Nat → Bool, K f.s = true → rowK H1 g (fun cs => ldStr cs 1 K) = true := fun K h => rowK_w gg (ldStr_w (p := f.s) rfl h)
  refine rowK_w gg (ldI_w (n := f.n) rfl ?_)
  have k1 := hk H1 h1
  simp only [fB_eq, fN_eq, iEq_dec, iLe_dec, sEq_dec, ln_eq] at *
  have e12 : decide ((Int.ofNat f.s.length) ≤ Int.ofNat 12) = decide (f.s.length ≤ 12) := by congr 1; simp only [Int.ofNat_eq_natCast]; exact propext (by omega)
  unfold IsF at k1
  refine ifA_w (fun h => ?_) (fun h => ?_)
  · replace h : decide (f.n = 0) = true := h
    refine hs _ ?_
    rw [h, Bool.true_or, Bool.true_and] at k1
    rw [e12]; exact k1
  · replace h : decide (f.n = 0) = false := h
    refine hs _ ?_
    rw [h, Bool.false_or] at k1
    refine ifA_w (fun h2 => hs _ ?_) (fun h2 => ?_)
    · rw [h2, Bool.true_and] at k1
      rw [e12]; exact k1
    · rw [h2, Bool.false_and] at k1
      exact k1
theorem thC_fd6 (t : Th) : ∀ k : Nat, k < 4 → ((thC t).drop (3 + k * 2)).take 2 = fdC (t.fs k) := lt4 rfl rfl rfl rfl
def okT (t : Th) : Nat → Bool
  | 0 => decide (0 ≤ t.id) && (decide (t.id ≤ 1000000) && On t.pt)
  | i + 1 => okT t i && IsF (t.fs i)
theorem okT_all (t : Th) : okT t 4 = IsTh t := by
  unfold IsTh
  show (((((decide (0 ≤ t.id) && (decide (t.id ≤ 1000000) && On t.pt)) && IsF t.f0) && IsF t.f1) && IsF t.f2) && IsF t.f3) = _
  cases decide (0 ≤ t.id) <;> cases decide (t.id ≤ 1000000) <;> cases On t.pt <;> cases IsF t.f0 <;> cases IsF t.f1 <;> cases IsF t.f2 <;> cases IsF t.f3 <;> rfl
/-! Those in a rectangle. -/
theorem Sl.base {H0 H1 H : AH} {p : AP} {n z : Nat} {cs : List AS} {sz : Nat} (h : Sl H1 H p n z cs sz) (k : Le H0 H1) : Sl H0 H p n z cs sz :=
  ⟨h.len, h.rep.imp id fun ⟨g, h1, h2, h3, h4, h5⟩ => ⟨g, h1, h2, h3, h4, fun h => h5 (k.has _ h)⟩⟩
def inP (r : Rc) (t : Th) : Bool := RIn r t.pt
def CSeen (cl : Cl) : Prop := ∀ H p n c z ts r K, InT H p n ts → n < 10000 → (∀ H' p' c' z', Le H H' → Sl H H' p' (ts.filter (inP r)).length z' (thsC (ts.filter (inP r))) 11 → K (.s (.slice p' (ts.filter (inP r)).length c' z')) H' = true) → cl i_ref6_Seen [.s (.slice p n c z), .agg (rcC r)] H K = true
theorem InT.pt {H : AH} {p : AP} {n : Nat} {ts : List Th} (h : InT H p n ts) {i : Nat} (hi : i < n) : ((thsC ts).drop (i * 11 + 1)).take 2 = ptC (ts[i]'(by rw [h.1]; exact hi)).pt := by
  have ha := thsC_at ts i (by rw [h.1]; exact hi)
  have := congrArg (fun l => (l.drop 1).take 2) ha
  simp only [List.drop_take, List.drop_drop, List.take_take] at this
  rw [show i * 11 + 1 = i * 11 + 1 from rfl]
  exact this
theorem B_ref6_Seen_ {lf : Nat} {cl : Cl} (hlf : 100000 ≤ lf) (hin : CRcPtB i_ref3_In RIn cl) {H : AH} {p : AP} {n zz : Nat} {c : ACap} {ts : List Th} {r : Rc} {K : AV → AH → Bool} (hp : InT H p n ts) (hn : n < 10000)
    (hk : ∀ H' p' c' z', Le H H' → Sl H H' p' (ts.filter (inP r)).length z' (thsC (ts.filter (inP r))) 11 → K (.s (.slice p' (ts.filter (inP r)).length c' z')) H' = true) : B_ref6_Seen lf cl p n c zz (rcC r) H K = true := by
  unfold B_ref6_Seen
  have hlt := hp.1
  refine new_w fun gr H1 h1 hgr ngr ggr => ?_
  replace hp := hp.le h1
  refine loopX_w (fun x Hx => x.1 = (p, n, c, zz) ∧ x.2.1 = .at gr 0 ∧ Le H1 Hx ∧ ∃ i : Nat, x.2.2.2 = (i : Int) ∧ i ≤ n ∧ ∃ p1 c1 z1, x.2.2.1 = (p1, ((ts.take i).filter (inP r)).length, c1, z1) ∧ Sl H1 Hx p1 ((ts.take i).filter (inP r)).length z1 (thsC ((ts.take i).filter (inP r))) 11) (fun x => n - x.2.2.2.toNat)
    ⟨rfl, rfl, Le.refl _, 0, rfl, by omega, .nil, _, _, rfl, Sl.nil⟩ (by simp; omega) ?_
  rintro self ⟨x1, x2, x3, x4⟩ Hx ⟨e1, e2, hL, i, e4, hi, p1, c1, z1, e3, sl⟩ ih
  simp only at e1 e2 e3 e4
  subst e1 e2 e3 e4
  simp only [pR_, fB_eq, iLt_dec]
  refine ifA_w (fun hx => ?_) (fun hx => ?_)
  · have hx : i < n := by have := of_decide_eq_true hx; simp only [Int.ofNat_eq_natCast] at this; omega
    have hpt := hp.pt hx
    obtain ⟨g1, rfl, hh1, r1, l1, a1, i1⟩ := hp.at hx
    have r1x : ∀ {Hy}, Le H1 Hy → Hy.get g1 = some (.fix (thsC ts)) ∨ Hy.get g1 = some (.row (thsC ts)) := fun k => r1.imp (fun e => (k.get _ hh1).trans e) (fun e => (k.get _ hh1).trans e)
    simp only [nilK_at, fN_eq, Nat.add_eq, Nat.mul_eq, Nat.zero_add, Nat.add_zero]
    refine rowK_w ((hL.get _ hgr).trans ggr) (ldG_we (ys := rcC r) (Nat.le_refl 4) (by decide) rfl ?_)
    refine idxK_w (by omega) (by omega) (rowK_wo (r1x hL) (ldG_we (ys := ptC (ts[i]'(by omega)).pt) (by rw [Int.toNat_natCast]; omega) (by decide) (by rw [Int.toNat_natCast]; exact hpt) ?_))
    refine hin _ _ _ _ fun H2 h2 => arB_w ?_
    have hL2 := hL.trans h2
    have tk : (ts.take (i + 1)).filter (inP r) = (ts.take i).filter (inP r) ++ (if inP r (ts[i]'(by omega)) = true then [ts[i]'(by omega)] else []) := by
      rw [List.take_succ_eq_append_getElem (by omega), List.filter_append, List.filter_cons, List.filter_nil]
    have lb10 : ((ts.take i).filter (inP r)).length ≤ i := Nat.le_trans (List.length_filter_le _ _) (by simp; omega)
    refine ifA_w (fun h => ?_) (fun h => ?_)
    · have hne : inP r (ts[i]'(by omega)) = true := h
      rw [if_pos hne] at tk
      refine idxK_w (by omega) (by omega) (rowK_wo (r1x hL2) (ldG_we (ys := thC (ts[i]'(by omega))) (by rw [Int.toNat_natCast]; exact l1) (by decide) (by rw [Int.toNat_natCast]; exact a1) (okK_w rfl (fL_w ?_))))
      rw [ap_eq, List.append_nil]
      refine okK_w rfl (newK_w ?_)
      refine elK_w (ys := thC (ts[i]'(by omega))) (get_new _ _) (by rw [thC_len]; decide) rfl ?_
      refine app_w ((sl.le h2).le (Le.new _ _)) (hL2.newr _) (m := 1) rfl (by decide) (by omega) (by omega) fun p2 c2 z2 H3 hL3 sl3 l23 => ?_
      rw [iAdd_]
      refine w64_w (by simp only [Int.ofNat_eq_natCast]; omega) (by simp only [Int.ofNat_eq_natCast]; omega) (ih _ _ ⟨rfl, rfl, hL3, i + 1, by simp, by omega, p2, c2, z2, ?_, ?_⟩ (by simp; omega))
      · rw [tk]; simp
      · rw [tk, thsC, List.flatMap_append, List.length_append]
        simpa [thsC] using sl3
    · have hne : ¬ inP r (ts[i]'(by omega)) = true := by unfold inP; rw [h]; simp
      rw [if_neg hne, List.append_nil] at tk
      rw [iAdd_]
      exact w64_w (by simp only [Int.ofNat_eq_natCast]; omega) (by simp only [Int.ofNat_eq_natCast]; omega) (ih _ _ ⟨rfl, rfl, hL2, i + 1, by simp, by omega, p1, c1, z1, by rw [tk], by rw [tk]; exact sl.le h2⟩ (by simp; omega))
  · have hx : i = n := by have := of_decide_eq_false hx; simp only [Int.ofNat_eq_natCast] at this; omega
    rw [hx, List.take_of_length_le (by omega)] at sl ⊢
    exact hk _ _ _ _ (h1.trans hL) (Sl.base sl h1)
/-! With one. -/
def withF (t : Th) : Bool → List Th → List Th
  | d, [] => if d = true then [] else [t]
  | d, x :: r => (if (!d && decide (t.id ≤ x.id)) = true then [t] else []) ++ ((if x.id = t.id then [] else [x]) ++ withF t (d || decide (t.id ≤ x.id)) r)
def CWith (cl : Cl) : Prop := ∀ H p n c z ts t K, InT H p n ts → n < 10000 → (∀ H' p' c' z', Le H H' → Sl H H' p' (withF t false ts).length z' (thsC (withF t false ts)) 11 → K (.s (.slice p' (withF t false ts).length c' z')) H' = true) → cl i_ref6_With [.s (.slice p n c z), .agg (thC t)] H K = true
theorem apT_w {H0 H : AH} {p : AP} {z : Nat} {ts : List Th} {t : Th} {c : ACap} {K : AP → Nat → ACap → Nat → AH → Bool} (hs : Sl H0 H p ts.length z (thsC ts) 11) (hle : Le H0 H) (hb : ts.length ≤ 20000)
    (hk : ∀ p' c' z' H', Le H0 H' → Sl H0 H' p' (ts ++ [t]).length z' (thsC (ts ++ [t])) 11 → K p' (ts ++ [t]).length c' z' H' = true) :
    okK (Nat.beq (ln (thC t)) 11) (fL (ap (α := AS) (thC t) []) fun cs => okK (Nat.beq (ln cs) (1 * 11)) (newK H (.row cs) fun g h => elK h (.at g 0) 1 11 fun ys => appA h p ts.length z 11 120 ys 1 c K)) = true := by
  refine okK_w rfl (fL_w ?_)
  rw [ap_eq, List.append_nil]
  refine okK_w rfl (newK_w ?_)
  refine elK_w (ys := thC t) (get_new _ _) (by rw [thC_len]; decide) rfl ?_
  refine app_w (hs.le (Le.new _ _)) (hle.newr _) (m := 1) rfl (by decide) (by omega) (by omega) fun p2 c2 z2 H3 hL3 sl3 l23 => ?_
  have := hk p2 c2 z2 H3 hL3
  rw [List.length_append, thsC, List.flatMap_append] at this
  exact this (by simpa [thsC] using sl3)
theorem B_ref6_With_ {lf : Nat} {cl : Cl} (hlf : 100000 ≤ lf) {H : AH} {p : AP} {n zz : Nat} {c : ACap} {ts : List Th} {t : Th} {K : AV → AH → Bool} (hp : InT H p n ts) (hn : n < 10000)
    (hk : ∀ H' p' c' z', Le H H' → Sl H H' p' (withF t false ts).length z' (thsC (withF t false ts)) 11 → K (.s (.slice p' (withF t false ts).length c' z')) H' = true) : B_ref6_With lf cl p n c zz (thC t) H K = true := by
  unfold B_ref6_With
  have hlt := hp.1
  generalize hW : withF t false ts = w at hk
  refine new_w fun gr H1 h1 hgr ngr ggr => ?_
  replace hp := hp.le h1
  refine loopX_w (fun x Hx => x.1 = (p, n, c, zz) ∧ x.2.1 = .at gr 0 ∧ Le H1 Hx ∧ ∃ i : Nat, x.2.2.2.2 = (i : Int) ∧ i ≤ n ∧ ∃ (o : List Th) (p1 : AP) (c1 : ACap) (z1 : Nat), x.2.2.1 = (p1, o.length, c1, z1) ∧ Sl H1 Hx p1 o.length z1 (thsC o) 11 ∧ o.length ≤ 2 * i ∧ o ++ withF t x.2.2.2.1 (ts.drop i) = w) (fun x => n - x.2.2.2.2.toNat)
    ⟨rfl, rfl, Le.refl _, 0, rfl, by omega, [], .nil, _, _, rfl, Sl.nil, by simp, by simpa using hW⟩ (by simp; omega) ?_
  rintro self ⟨x1, x2, x3, d, x5⟩ Hx ⟨e1, e2, hL, i, e4, hi, o, p1, c1, z1, e3, sl, ho, hw⟩ ih
  simp only at e1 e2 e3 e4 hw
  subst e1 e2 e3 e4
  simp only [pR_, fB_eq, iLt_dec]
  have gx : ∀ {Hy}, Le H1 Hy → Hy.get gr = some (.row (thC t)) := fun k => (k.get _ hgr).trans ggr
  refine ifA_w (fun hx => ?_) (fun hx => ?_)
  · have hx : i < n := by have := of_decide_eq_true hx; simp only [Int.ofNat_eq_natCast] at this; omega
    have hxl : i < ts.length := by omega
    obtain ⟨g1, rfl, hh1, r1, l1, a1, i1⟩ := hp.at hx
    have r1x : ∀ {Hy}, Le H1 Hy → Hy.get g1 = some (.fix (thsC ts)) ∨ Hy.get g1 = some (.row (thsC ts)) := fun k => r1.imp (fun e => (k.get _ hh1).trans e) (fun e => (k.get _ hh1).trans e)
    rw [List.drop_eq_getElem_cons hxl] at hw
    generalize ts[i]'hxl = ti at *
    unfold withF at hw
    refine joinX_w (fun x Hy => Le H1 Hy ∧ ∃ (d' : Bool) (o' : List Th) (p2 : AP) (c2 : ACap) (z2 : Nat), x = ((.at g1 0, n, c, zz), .at gr 0, (p2, o'.length, c2, z2), d', (i : Int)) ∧ Sl H1 Hy p2 o'.length z2 (thsC o') 11 ∧ d' = (d || decide (t.id ≤ ti.id)) ∧ o'.length ≤ 2 * i + 1 ∧ o' = o ++ (if (!d && decide (t.id ≤ ti.id)) = true then [t] else [])) ?_ ?_
    · rintro x Hy ⟨hLy, d', o', p2, c2, z2, rfl, sl', ed, hl', eo⟩
      rw [← List.append_assoc, ← eo, ← ed] at hw
      simp only [pR_, nilK_at, fN_eq, Nat.add_eq, Nat.mul_eq, Nat.zero_add, Nat.add_zero]
      refine idxK_w (by omega) (by omega) (rowK_wo (r1x hLy) (ldI_w (by rw [Int.toNat_natCast]; exact i1) ?_))
      refine rowK_w (gx hLy) (ldI_w (n := t.id) rfl ?_)
      simp only [fB_eq, iEq_dec]
      refine ifA_w (fun h => ?_) (fun h => ?_)
      · have hne : ti.id ≠ t.id := by simpa using h
        rw [if_neg hne] at hw
        refine idxK_w (by omega) (by omega) (rowK_wo (r1x hLy) (ldG_we (ys := thC ti) (by rw [Int.toNat_natCast]; exact l1) (by decide) (by rw [Int.toNat_natCast]; exact a1) ?_))
        refine apT_w sl' hLy (by omega) fun p3 c3 z3 H3 hL3 sl3 => ?_
        rw [iAdd_]
        exact w64_w (by simp only [Int.ofNat_eq_natCast]; omega) (by simp only [Int.ofNat_eq_natCast]; omega) (ih _ _ ⟨rfl, rfl, hL3, i + 1, by simp, by omega, o' ++ [ti], p3, c3, z3, rfl, sl3, by simp; omega, by rw [List.append_assoc]; exact hw⟩ (by simp; omega))
      · have he : ti.id = t.id := by simpa using h
        rw [if_pos he, List.nil_append] at hw
        rw [iAdd_]
        exact w64_w (by simp only [Int.ofNat_eq_natCast]; omega) (by simp only [Int.ofNat_eq_natCast]; omega) (ih _ _ ⟨rfl, rfl, hLy, i + 1, by simp, by omega, o', p2, c2, z2, rfl, sl', by omega, hw⟩ (by simp; omega))
    · intro J hJ
      refine joinX_w (fun x Hy => Hy = Hx ∧ x = ((.at g1 0, n, c, zz), .at gr 0, (p1, o.length, c1, z1), d, (i : Int), (!d && decide (t.id ≤ ti.id)))) ?_ ?_
      · rintro x Hy ⟨rfl, rfl⟩
        simp only [pR_]
        refine ifA_w (fun h => ?_) (fun h => ?_)
        · simp only [nilK_at]
          refine rowK_w (gx hL) (ldG_we (ys := thC t) (by rw [thC_len]; decide) (by decide) (thC_all _) ?_)
          refine apT_w sl hL (by omega) fun p3 c3 z3 H3 hL3 sl3 => ?_
          refine hJ _ _ ⟨hL3, true, o ++ [t], p3, c3, z3, rfl, sl3, ?_, by simp; omega, by rw [if_pos h]⟩
          rw [Bool.and_eq_true] at h
          rw [h.2, Bool.or_true]
        · refine hJ _ _ ⟨hL, d, o, p1, c1, z1, rfl, sl, ?_, by omega, by rw [h]; simp⟩
          cases d with
          | true => rfl
          | false => simpa using h.symm
      · intro J2 hJ2
        refine ifA_w (fun h => ?_) (fun h => hJ2 _ _ ⟨rfl, by rw [h, Bool.false_and]⟩)
        refine rowK_w (gx hL) (ldI_w (n := t.id) rfl ?_)
        simp only [nilK_at, fN_eq, Nat.add_eq, Nat.mul_eq, Nat.zero_add, Nat.add_zero]
        refine idxK_w (by omega) (by omega) (rowK_wo (r1x hL) (ldI_w (by rw [Int.toNat_natCast]; exact i1) ?_))
        refine hJ2 _ _ ⟨rfl, ?_⟩
        rw [h, Bool.true_and, iLe_dec]
  · have hx : i = n := by have := of_decide_eq_false hx; simp only [Int.ofNat_eq_natCast] at this; omega
    rw [List.drop_of_length_le (by omega)] at hw
    unfold withF at hw
    refine ifA_w (fun h => ?_) (fun h => ?_)
    · have hd : d = false := by simpa using h
      subst hd
      simp only [nilK_at]
      refine rowK_w (gx hL) (ldG_we (ys := thC t) (by rw [thC_len]; decide) (by decide) (thC_all _) ?_)
      refine apT_w sl hL (by omega) fun p3 c3 z3 H3 hL3 sl3 => ?_
      rw [if_neg (by decide)] at hw
      have := hk H3 p3 c3 z3 (h1.trans hL3)
      rw [← hw] at this
      exact this (Sl.base sl3 h1)
    · have hd : d = true := by simpa using h
      subst hd
      rw [if_pos rfl, List.append_nil] at hw
      have := hk Hx p1 c1 z1 (h1.trans hL)
      rw [← hw] at this
      exact this (Sl.base sl h1)
/-! Rows that rise. -/
def Up (ts : List Th) : Prop := ts.Pairwise fun a b => a.id < b.id
theorem Up.ext : ∀ {ts us : List Th}, Up ts → Up us → (∀ t, t ∈ ts ↔ t ∈ us) → ts = us
  | [], [], _, _, _ => rfl
  | [], u :: us, _, _, h => absurd ((h u).2 (by simp)) (by simp)
  | t :: ts, [], _, _, h => absurd ((h t).1 (by simp)) (by simp)
  | t :: ts, u :: us, ht, hu, h => by
    have ht' := List.pairwise_cons.1 ht
    have hu' := List.pairwise_cons.1 hu
    have e : t = u := by
      rcases List.mem_cons.1 ((h t).1 (by simp)) with e | m1
      · exact e
      · rcases List.mem_cons.1 ((h u).2 (by simp)) with e | m2
        · exact e.symm
        · exact absurd (hu'.1 _ m1) (by have := ht'.1 _ m2; omega)
    subst e
    congr 1
    refine Up.ext ht'.2 hu'.2 fun x => ?_
    have hx := h x
    simp only [List.mem_cons] at hx
    constructor
    · intro m
      rcases hx.1 (.inr m) with e | m'
      · subst e; exact absurd (ht'.1 _ m) (by omega)
      · exact m'
    · intro m
      rcases hx.2 (.inr m) with e | m'
      · subst e; exact absurd (hu'.1 _ m) (by omega)
      · exact m'
theorem withF_mem (t : Th) : ∀ (ts : List Th) (d : Bool) (x : Th), x ∈ withF t d ts ↔ (x ∈ ts ∧ x.id ≠ t.id) ∨ (d = false ∧ x = t)
  | [], d, x => by unfold withF; cases d <;> simp
  | y :: r, d, x => by
    unfold withF
    simp only [List.mem_append, withF_mem t r]
    by_cases h1 : y.id = t.id
    · rw [if_pos h1, decide_eq_true (by omega : t.id ≤ y.id)]
      cases d
      · simp only [Bool.not_false, Bool.and_true, if_true, List.mem_singleton, Bool.or_true, Bool.true_eq_false, false_and, or_false, List.not_mem_nil, false_or, List.mem_cons, true_and]
        constructor
        · rintro (h | h)
          · exact .inr h
          · exact .inl ⟨.inr h.1, h.2⟩
        · rintro (⟨h | h, h2⟩ | h)
          · subst h; exact absurd h1 h2
          · exact .inr ⟨h, h2⟩
          · exact .inl h
      · simp only [Bool.not_true, Bool.false_and, Bool.false_eq_true, if_false, Bool.or_true, Bool.true_eq_false, false_and, or_false, List.not_mem_nil, false_or, List.mem_cons]
        constructor
        · rintro h; exact ⟨.inr h.1, h.2⟩
        · rintro ⟨h | h, h2⟩
          · subst h; exact absurd h1 h2
          · exact ⟨h, h2⟩
    · rw [if_neg h1]
      by_cases h2 : t.id ≤ y.id
      · rw [decide_eq_true h2]
        cases d
        · simp only [Bool.not_false, Bool.and_true, if_true, List.mem_singleton, Bool.or_true, Bool.true_eq_false, false_and, or_false, List.not_mem_nil, List.mem_cons, true_and]
          constructor
          · rintro (h | h | h)
            · exact .inr h
            · subst h; exact .inl ⟨.inl rfl, h1⟩
            · exact .inl ⟨.inr h.1, h.2⟩
          · rintro (⟨h | h, h3⟩ | h)
            · exact .inr (.inl h)
            · exact .inr (.inr ⟨h, h3⟩)
            · exact .inl h
        · simp only [Bool.not_true, Bool.false_and, Bool.false_eq_true, if_false, Bool.or_true, Bool.true_eq_false, false_and, or_false, List.not_mem_nil, false_or, List.mem_cons, List.mem_singleton]
          constructor
          · rintro (h | h)
            · subst h; exact ⟨.inl rfl, h1⟩
            · exact ⟨.inr h.1, h.2⟩
          · rintro ⟨h | h, h3⟩
            · exact .inl h
            · exact .inr ⟨h, h3⟩
      · rw [decide_eq_false h2]
        simp only [Bool.and_false, Bool.false_eq_true, if_false, Bool.or_false, List.not_mem_nil, false_or, or_false, List.mem_cons, List.mem_singleton]
        constructor
        · rintro (h | h | h)
          · subst h; exact .inl ⟨.inl rfl, h1⟩
          · exact .inl ⟨.inr h.1, h.2⟩
          · exact .inr h
        · rintro (⟨h | h, h3⟩ | h)
          · exact .inl h
          · exact .inr (.inl ⟨h, h3⟩)
          · exact .inr (.inr h)
theorem withF_up (t : Th) : ∀ (ts : List Th) (d : Bool), Up ts → (d = true → ∀ x ∈ ts, t.id < x.id) → Up (withF t d ts)
  | [], d, _, _ => by unfold withF; split <;> simp [Up]
  | y :: r, d, h, hd => by
    have h' := List.pairwise_cons.1 h
    unfold withF
    have ih := withF_up t r (d || decide (t.id ≤ y.id)) h'.2 fun e x hx => by
      rcases Bool.or_eq_true _ _ ▸ e with e | e
      · exact hd e x (List.mem_cons_of_mem _ hx)
      · have := of_decide_eq_true e; have := h'.1 x hx; omega
    have mid : Up ((if y.id = t.id then [] else [y]) ++ withF t (d || decide (t.id ≤ y.id)) r) := by
      split
      · exact ih
      · rename_i hne
        rw [List.singleton_append]
        refine List.pairwise_cons.2 ⟨fun x hx => ?_, ih⟩
        rcases (withF_mem t r _ x).1 hx with ⟨h1, h2⟩ | ⟨h1, h2⟩
        · exact h'.1 x h1
        · subst h2
          have := (Bool.or_eq_false_iff.1 h1).2
          have := of_decide_eq_false this; omega
    split
    · rename_i hc
      have hc' : d = false ∧ t.id ≤ y.id := by simpa using hc
      rw [List.singleton_append]
      refine List.pairwise_cons.2 ⟨fun x hx => ?_, mid⟩
      rcases List.mem_append.1 hx with hx | hx
      · split at hx
        · cases hx
        · rename_i hne
          rw [List.mem_singleton] at hx; subst hx; omega
      · rcases (withF_mem t r _ x).1 hx with ⟨h1, h2⟩ | ⟨h1, h2⟩
        · have := h'.1 x h1; omega
        · rw [decide_eq_true hc'.2, Bool.or_true] at h1; cases h1
    · exact mid
theorem withF_len (t : Th) : ∀ (ts : List Th) (d : Bool), (withF t d ts).length ≤ ts.length + (if d = true then 0 else 1)
  | [], d => by unfold withF; cases d <;> simp
  | y :: r, d => by
    have := withF_len t r (d || decide (t.id ≤ y.id))
    unfold withF
    simp only [List.length_append, List.length_cons]
    cases d <;> by_cases h : t.id ≤ y.id <;> by_cases h2 : y.id = t.id <;> simp [h, h2] at this ⊢ <;> omega
/-- The row of a table: rising, and just what it has. -/
def RowOf (L : List (Int × Th)) (ts : List Th) : Prop := Up ts ∧ ∀ t, t ∈ ts ↔ aGet L t.id = some t
theorem RowOf.ext {L : List (Int × Th)} {ts us : List Th} (h : RowOf L ts) (k : RowOf L us) : ts = us := Up.ext h.1 k.1 fun t => (h.2 t).trans (k.2 t).symm
theorem RowOf.congr {L M : List (Int × Th)} {ts : List Th} (h : RowOf L ts) (k : ∀ i, aGet M i = aGet L i) : RowOf M ts := ⟨h.1, fun t => by rw [k]; exact h.2 t⟩
def IdOk (L : List (Int × Th)) : Prop := ∀ k t, aGet L k = some t → t.id = k
theorem RowOf.nil : RowOf [] [] := ⟨List.Pairwise.nil, fun t => by simp [aGet]⟩
theorem RowOf.set {L : List (Int × Th)} {ts : List Th} (h : RowOf L ts) (t : Th) : RowOf (aSet L t.id t) (withF t false ts) := by
  refine ⟨withF_up t ts false h.1 (fun e => by cases e), fun x => ?_⟩
  rw [withF_mem, h.2]
  by_cases e : x.id = t.id
  · rw [e, aGet_set_same]
    constructor
    · rintro (⟨_, h⟩ | ⟨_, h⟩)
      · exact absurd rfl h
      · rw [h]
    · intro h; exact .inr ⟨rfl, (Option.some.inj h).symm⟩
  · rw [aGet_set_ne _ _ e]
    constructor
    · rintro (⟨h, _⟩ | ⟨_, h⟩)
      · exact h
      · subst h; exact absurd rfl e
    · intro h; exact .inl ⟨h, e⟩
theorem RowOf.del {L : List (Int × Th)} {ts : List Th} (h : RowOf L ts) (id : Int) : RowOf (aDel L id) (ts.filter (notId id)) := by
  refine ⟨h.1.filter _, fun x => ?_⟩
  rw [List.mem_filter, h.2]
  unfold notId
  by_cases e : x.id = id
  · rw [e, aGet_del_same]; simp
  · rw [aGet_del_ne _ e, decide_eq_true e]; simp
theorem aGet_none_del {L : List (Int × Th)} {id : Int} (h : aGet L id = none) (k : Int) : aGet (aDel L id) k = aGet L k := by
  by_cases e : k = id
  · rw [e, aGet_del_same, h]
  · exact aGet_del_ne _ e
theorem RowOf.mem {L : List (Int × Th)} {ts : List Th} (h : RowOf L ts) (hid : IdOk L) (id : Int) : (aGet L id).isSome = true ↔ ∃ t ∈ ts, t.id = id := by
  constructor
  · intro hs
    obtain ⟨t, e⟩ := Option.isSome_iff_exists.1 hs
    have := hid _ _ e
    exact ⟨t, (h.2 t).2 (by rw [this]; exact e), this⟩
  · rintro ⟨t, hm, rfl⟩
    rw [(h.2 t).1 hm]; rfl
theorem up_of_keys {L : List (Int × Th)} (hid : ∀ k ∈ aKeys L, (thOf L k).id = k) : ∀ {ks : List Int}, ks.Pairwise (· < ·) → (∀ k ∈ ks, k ∈ aKeys L) → Up (ks.map (thOf L)) := by
  intro ks hp hm
  unfold Up
  rw [List.pairwise_map]
  refine List.Pairwise.imp_of_mem (fun {a b} ha hb h => ?_) hp
  rw [hid a (hm a ha), hid b (hm b hb)]; exact h
theorem thOf_get {L : List (Int × Th)} {t : Th} {k : Int} (h : aGet L k = some t) : thOf L k = t := by unfold thOf; rw [h]; rfl
theorem aGet_thOf {L : List (Int × Th)} {k : Int} (h : k ∈ aKeys L) : aGet L k = some (thOf L k) := by
  obtain ⟨t, e⟩ := Option.isSome_iff_exists.1 (mem_get.1 h)
  rw [e, thOf_get e]
theorem sorted_lt {l : List Int} (hn : l.Nodup) : (srtI l).Pairwise (· < ·) := by
  have h1 := srtI_sorted l
  have h2 : (srtI l).Nodup := (srtI_perm l).nodup_iff.2 hn
  exact (h1.and h2).imp fun h => by obtain ⟨h1, h2⟩ := h; omega
/-- Those of a table whose keys are chosen. -/
theorem sel_row {L : List (Int × Th)} {ts : List Th} (h : RowOf L ts) (hn : (aKeys L).Nodup) (hid : IdOk L) (f : Th → Bool) : (srtI ((aKeys L).filter fun k => f (thOf L k))).map (thOf L) = ts.filter f := by
  have hid' : ∀ k ∈ aKeys L, (thOf L k).id = k := fun k hk => hid _ _ (aGet_thOf hk)
  refine Up.ext (up_of_keys hid' (sorted_lt (hn.filter _)) fun k hk => (List.mem_filter.1 ((srtI_perm _).mem_iff.1 hk)).1) (h.1.filter _) fun t => ?_
  rw [List.mem_map, List.mem_filter, h.2]
  constructor
  · rintro ⟨k, hk, rfl⟩
    have hk := List.mem_filter.1 ((srtI_perm _).mem_iff.1 hk)
    rw [hid' k hk.1]
    exact ⟨aGet_thOf hk.1, hk.2⟩
  · rintro ⟨h1, h2⟩
    refine ⟨t.id, (srtI_perm _).mem_iff.2 (List.mem_filter.2 ⟨mem_get.2 (by rw [h1]; rfl), ?_⟩), thOf_get h1⟩
    rw [thOf_get h1]; exact h2
theorem all_row {L : List (Int × Th)} {ts : List Th} (h : RowOf L ts) (hn : (aKeys L).Nodup) (hid : IdOk L) : (allT L).map (thOf L) = ts := by
  have := sel_row h hn hid fun _ => true
  rw [List.filter_eq_self.2 fun _ _ => rfl, List.filter_eq_self.2 fun _ _ => rfl] at this
  exact this
theorem in_row {L : List (Int × Th)} {ts : List Th} (h : RowOf L ts) (hn : (aKeys L).Nodup) (hid : IdOk L) (r : Rc) : (inT L r).map (thOf L) = ts.filter (inP r) := sel_row h hn hid (inP r)
theorem row_len {L : List (Int × Th)} {ts : List Th} (h : RowOf L ts) (hn : (aKeys L).Nodup) (hid : IdOk L) : ts.length = L.length := by
  rw [← all_row h hn hid, List.length_map, allT_len]
theorem row_of_keys {L : List (Int × Th)} (hn : (aKeys L).Nodup) (hid : IdOk L) : RowOf L ((allT L).map (thOf L)) := by
  have hid' : ∀ k ∈ aKeys L, (thOf L k).id = k := fun k hk => hid _ _ (aGet_thOf hk)
  refine ⟨up_of_keys hid' (sorted_lt hn) fun k hk => (srtI_perm _).mem_iff.1 hk, fun t => ?_⟩
  rw [List.mem_map]
  constructor
  · rintro ⟨k, hk, rfl⟩
    have hk := (srtI_perm _).mem_iff.1 hk
    rw [hid' k hk]; exact aGet_thOf hk
  · intro h; exact ⟨t.id, (srtI_perm _).mem_iff.2 (mem_get.2 (by rw [h]; rfl)), thOf_get h⟩
theorem TT.ids {H : AH} {g : Pn} {L : List (Int × Th)} {O : Pn → Prop} (h : TT H g L O) : (aKeys L).Nodup ∧ IdOk L := by
  obtain ⟨m, q, Lq, Oq, tb, rfl⟩ := h
  exact ⟨tb.nod, tb.ok⟩
theorem Sl.len2 {H0 H : AH} {p : AP} {n z : Nat} {ts : List Th} (h : Sl H0 H p n z (thsC ts) 11) : ts.length = n := by have := h.len; rw [thsC_len] at this; omega
theorem Sl.own {H0 H : AH} {p : AP} {n z : Nat} {cs : List AS} (h : Sl H0 H p n z cs 11) : (∀ a, ownP p a → ¬ H0.has a) ∧ ∀ a, ownP p a → H.has a := by
  rcases h.rep with ⟨_, rfl⟩ | ⟨g, rfl, _, _, hh, hn⟩
  · exact ⟨fun a ⟨o, e⟩ => (by cases e), fun a ⟨o, e⟩ => (by cases e)⟩
  · exact ⟨fun a ⟨o, e⟩ => (by cases e; exact hn), fun a ⟨o, e⟩ => (by cases e; exact hh)⟩
theorem InT.fr {F : Pn → Prop} {H H' : AH} {p : AP} {n : Nat} {ts : List Th} (h : InT H p n ts) (k : Fr F H H') (hf : ∀ a, ownP p a → ¬ F a) : InT H' p n ts :=
  ⟨h.1, fun hn => (h.2 hn).imp fun g hg => by
    obtain ⟨rfl, h1, h2⟩ := hg
    have e := k.get g h1 (hf g ⟨0, rfl⟩)
    exact ⟨rfl, k.has g h1, h2.imp e.trans e.trans⟩⟩
end Go.Proofs
end
section
/- The reference's commands: what one must be. -/
namespace Go.Proofs
open Go Go.Vw Go.Vw.Ev
set_option linter.unusedVariables false
set_option linter.unusedSimpArgs false

def CWithin (cl : Cl) : Prop := ∀ n lo hi H K, K (.s (.bool (decide (lo ≤ n) && decide (n ≤ hi)))) H = true → cl i_ref10_within [.s (.int .i64 n), .s (.int .i64 lo), .s (.int .i64 hi)] H K = true
theorem B_ref10_within_ {lf : Nat} {cl : Cl} {n lo hi : Int} {H : AH} {K : AV → AH → Bool} (hk : K (.s (.bool (decide (lo ≤ n) && decide (n ≤ hi)))) H = true) : B_ref10_within lf cl n lo hi H K = true := by
  unfold B_ref10_within
  simp only [fB_eq, iLe_dec]
  rw [ifA_and]
  exact hk
def pt10 (p : Pt) : Bool := nearB p.x && nearB p.y
theorem B_ref10_point_ {lf : Nat} {cl : Cl} (hw : CWithin cl) {p : Pt} {H : AH} {K : AV → AH → Bool} (hk : ∀ H', Le H H' → K (.s (.bool (pt10 p))) H' = true) : B_ref10_point lf cl (ptC p) H K = true := by
  unfold B_ref10_point
  refine new_w fun g H1 h1 hg ng gg => ?_
  have k := hk H1 h1
  refine rowK_w gg (ldI_w (n := p.x) rfl (hw _ _ _ _ _ (arB_w ?_)))
  refine ifA_w (fun (a : nearB p.x = true) => ?_) (fun (a : nearB p.x = false) => ?_)
  · refine rowK_w gg (ldI_w (n := p.y) rfl (hw _ _ _ _ _ (arB_w ?_)))
    unfold pt10 at k
    rw [a, Bool.true_and] at k
    exact k
  · unfold pt10 at k
    rw [a, Bool.false_and] at k
    exact k
def rc10 (r : Rc) : Bool := pt10 ⟨r.x0, r.y0⟩ && pt10 ⟨r.x1, r.y1⟩
theorem B_ref10_rect_ {lf : Nat} {cl : Cl} (hp : CPtB i_ref10_point pt10 cl) {r : Rc} {H : AH} {K : AV → AH → Bool} (hk : ∀ H', Le H H' → K (.s (.bool (rc10 r))) H' = true) : B_ref10_rect lf cl (rcC r) H K = true := by
  unfold B_ref10_rect
  refine new_w fun g H1 h1 hg ng gg => ?_
  refine rowK_w gg (ldI_w (n := r.x0) rfl (rowK_w gg (ldI_w (n := r.y0) rfl ?_)))
  refine hp ⟨r.x0, r.y0⟩ _ _ fun H2 h2 => arB_w ?_
  have gg2 := (h2.get _ hg).trans gg
  refine ifA_w (fun a => ?_) (fun a => ?_)
  · refine rowK_w gg2 (ldI_w (n := r.x1) rfl (rowK_w gg2 (ldI_w (n := r.y1) rfl ?_)))
    refine hp ⟨r.x1, r.y1⟩ _ _ fun H3 h3 => arB_w ?_
    have k := hk H3 (h1.trans (h2.trans h3))
    unfold rc10 at k
    rw [a, Bool.true_and] at k
    exact k
  · have k := hk H2 (h1.trans h2)
    unfold rc10 at k
    rw [a, Bool.false_and] at k
    exact k
def CShape (cl : Cl) : Prop := ∀ c H K, (∀ H', Le H H' → K (.agg (cmC (coreC c))) H' = true) → cl i_ref10_shape [.agg (cmC c)] H K = true
theorem B_ref10_shape_ {lf : Nat} {cl : Cl} {c : Cm} {H : AH} {K : AV → AH → Bool} (hk : ∀ H', Le H H' → K (.agg (cmC (coreC c))) H' = true) : B_ref10_shape lf cl (cmC c) H K = true := B_cmd_core_ (lf := lf) (cl := cl) hk
def inB (lo hi n : Int) : Bool := decide (lo ≤ n) && decide (n ≤ hi)
noncomputable def shB (c : Cm) : Bool := cellsEqA (cmC c) (cmC (coreC c))
noncomputable def isC0 (c : Cm) : Bool := inB 1 8 c.kind && (inB 0 3 c.client && (inB 0 1000000 c.session && (shB c && (pt10 c.pt && (rc10 c.r && (inB 0 1000000 c.id && (inB (-1) 100 c.which && (inB (-1) 100 c.to_ && IsF c.v))))))))
noncomputable def okC (c : Cm) : Nat → Bool
  | 0 => isC0 c
  | i + 1 => okC c i && IsF (c.fs i)
theorem okC_all (c : Cm) : okC c 4 = IsCm c := by
  show ((((isC0 c && IsF c.f0) && IsF c.f1) && IsF c.f2) && IsF c.f3) = _
  rw [Bool.eq_iff_iff]
  unfold isC0 inB pt10 rc10 pt10 IsCm fldB kindB whoB whatB placeB shB
  simp only [List.all_cons, List.all_nil, Bool.and_eq_true, decide_eq_true_eq, Bool.and_true]
  constructor
  · rintro ⟨⟨⟨⟨⟨⟨a1, a2⟩, ⟨a3, a4⟩, ⟨a5, a6⟩, a7, ⟨a8, a9⟩, ⟨⟨b1, b2⟩, b3, b4⟩, ⟨b5, b6⟩, ⟨b7, b8⟩, ⟨b9, c1⟩, c2⟩, f0⟩, f1⟩, f2⟩, f3⟩
    exact ⟨⟨f0, f1, f2, f3⟩, ⟨a1, a2, a7⟩, ⟨a3, by omega, a5, a6⟩, ⟨b5, b6, b7, b8, b9, c1, c2⟩, a8, a9, b1, b2, b3, b4⟩
  · rintro ⟨⟨f0, f1, f2, f3⟩, ⟨a1, a2, a7⟩, ⟨a3, a4, a5, a6⟩, ⟨b5, b6, b7, b8, b9, c1, c2⟩, a8, a9, b1, b2, b3, b4⟩
    exact ⟨⟨⟨⟨⟨⟨a1, a2⟩, ⟨a3, by omega⟩, ⟨a5, a6⟩, a7, ⟨a8, a9⟩, ⟨⟨b1, b2⟩, b3, b4⟩, ⟨b5, b6⟩, ⟨b7, b8⟩, ⟨b9, c1⟩, c2⟩, f0⟩, f1⟩, f2⟩, f3⟩
theorem cmC_fd (c : Cm) : ∀ k : Nat, k < 4 → ((cmC c).drop (6 + k * 2)).take 2 = fdC (c.fs k) := lt4 rfl rfl rfl rfl
def CIs10 (cl : Cl) : Prop := ∀ c H K, (∀ H', Le H H' → K (.s (.bool (IsCm c))) H' = true) → cl i_ref10_Is [.agg (cmC c)] H K = true
theorem B_ref10_Is_ {lf : Nat} {cl : Cl} (hlf : 10 ≤ lf) (hw : CWithin cl) (hs : CShape cl) (hp : CPtB i_ref10_point pt10 cl) (hr : CRcB i_ref10_rect rc10 cl) (hf : CIsF6 cl) {c : Cm} {H : AH} {K : AV → AH → Bool}
    (hk : ∀ H', Le H H' → K (.s (.bool (IsCm c))) H' = true) : B_ref10_Is lf cl (cmC c) H K = true := by
  unfold B_ref10_Is
  refine new_w fun g H1 h1 hg ng gg => ?_
  refine joinX_w (fun x Hx => Le H1 Hx ∧ x = (.at g 0, isC0 c)) ?_ ?_
  · rintro x H2 ⟨hL, rfl⟩
    simp only [pR_]
    refine loopX_w (fun x Hx => Le H1 Hx ∧ ∃ i : Nat, x = (.at g 0, okC c i, (i : Int)) ∧ i ≤ 4) (fun x => 4 - x.2.2.toNat) ⟨hL, 0, rfl, by omega⟩ (by simp; omega) ?_
    rintro self x H3 ⟨hL3, i, rfl, hi⟩ ih
    simp only [pR_, fB_eq, iLt_dec]
    refine ifA_w (fun hx => ?_) (fun hx => ?_)
    · have hx : i < 4 := by have h : (i : Int) < 4 := of_decide_eq_true hx; omega
      refine ifA_w (fun hb => ?_) (fun hb => ?_)
      · simp only [nilK_at, fN_eq, Nat.add_eq, Nat.zero_add]
        refine idxK_w (by omega) (by omega) ?_
        simp only [Int.toNat_natCast, Nat.mul_eq]
        refine rowK_w ((hL3.get _ hg).trans gg) (ldG_we (by rw [cmC_len]; omega) (by decide) (cmC_fd c i hx) (hf _ _ _ fun H4 h4 => arB_w ?_))
        rw [iAdd_]
        exact w64_w (by simp only [Int.ofNat_eq_natCast]; omega) (by simp only [Int.ofNat_eq_natCast]; omega) (ih _ _ ⟨hL3.trans h4, i + 1, by rw [show okC c (i + 1) = (okC c i && IsF (c.fs i)) from rfl, hb, Bool.true_and]; rfl, by omega⟩ (by simp; omega))
      · rw [iAdd_]
        exact w64_w (by simp only [Int.ofNat_eq_natCast]; omega) (by simp only [Int.ofNat_eq_natCast]; omega) (ih _ _ ⟨hL3, i + 1, by rw [show okC c (i + 1) = (okC c i && IsF (c.fs i)) from rfl, hb, Bool.false_and]; rfl, by omega⟩ (by simp; omega))
    · have hx : i = 4 := by have h : ¬ (i : Int) < 4 := of_decide_eq_false hx; omega
      subst hx
      rw [okC_all]
      exact hk _ (h1.trans hL3)
  · intro J hJ
    have k : ∀ b Hx, Le H1 Hx → b = isC0 c → J (.at g 0, b) Hx = true := fun b Hx hL e => hJ (.at g 0, b) Hx ⟨hL, by rw [e]⟩
    have gx : ∀ {Hx}, Le H1 Hx → Hx.get g = some (.row (cmC c)) := fun k => (k.get _ hg).trans gg
    refine rowK_w gg (ldI_w (n := c.kind) rfl (hw _ _ _ _ _ (arB_w ?_)))
    refine ifA_w (fun (a1 : inB 1 8 c.kind = true) => ?_) (fun (a1 : inB 1 8 c.kind = false) => ?_)
    case refine_2 =>
      have z : false = isC0 c := by unfold isC0; rw [a1]; rfl
      exact okK_w (k _ _ (Le.refl _) z) (okK_w (k _ _ (Le.refl _) z) (k _ _ (Le.refl _) z))
    refine rowK_w gg (ldI_w (n := c.client) rfl (hw _ _ _ _ _ (arB_w ?_)))
    refine ifA_w (fun (a2 : inB 0 3 c.client = true) => ?_) (fun (a2 : inB 0 3 c.client = false) => ?_)
    case refine_2 =>
      have z : false = isC0 c := by unfold isC0; rw [a1, a2]; rfl
      exact okK_w (k _ _ (Le.refl _) z) (okK_w (k _ _ (Le.refl _) z) (k _ _ (Le.refl _) z))
    refine rowK_w gg (ldI_w (n := c.session) rfl (hw _ _ _ _ _ (arB_w ?_)))
    refine ifA_w (fun (a3 : inB 0 1000000 c.session = true) => ?_) (fun (a3 : inB 0 1000000 c.session = false) => ?_)
    case refine_2 =>
      have z : false = isC0 c := by unfold isC0; rw [a1, a2, a3]; rfl
      exact okK_w (k _ _ (Le.refl _) z) (okK_w (k _ _ (Le.refl _) z) (k _ _ (Le.refl _) z))
    have all : ∀ {Hx : AH} {K : List AS → Bool}, Le H1 Hx → K (cmC c) = true → rowK Hx g (fun cs => ldG cs 0 22 K) = true := fun hL h => rowK_w (gx hL) (ldG_we (ys := cmC c) (Nat.le_refl 22) (lb rfl) rfl h)
    refine okK_w (all (Le.refl _) (all (Le.refl _) ?_)) (all (Le.refl _) (okK_w (all (Le.refl _) ?_) ?_))
    all_goals
      refine hs _ _ _ fun H2 h2 => ?_
      rw [asG_]
      try refine all h2 ?_
      refine okK_w rfl ?_
      simp only [fB_eq]
      refine ifA_w (fun (a4 : shB c = true) => ?_) (fun (a4 : shB c = false) => k _ _ h2 (by unfold isC0; rw [a1, a2, a3, a4]; rfl))
      refine rowK_w (gx h2) (ldG_we (ys := ptC c.pt) (lb rfl) (lb rfl) rfl (hp _ _ _ fun H3 h3 => arB_w ?_))
      have h13 := h2.trans h3
      refine ifA_w (fun (a5 : pt10 c.pt = true) => ?_) (fun (a5 : pt10 c.pt = false) => k _ _ h13 (by unfold isC0; rw [a1, a2, a3, a4, a5]; rfl))
      refine rowK_w (gx h13) (ldG_we (ys := rcC c.r) (lb rfl) (lb rfl) rfl (hr _ _ _ fun H4 h4 => arB_w ?_))
      have h14 := h13.trans h4
      refine ifA_w (fun (a6 : rc10 c.r = true) => ?_) (fun (a6 : rc10 c.r = false) => k _ _ h14 (by unfold isC0; rw [a1, a2, a3, a4, a5, a6]; rfl))
      refine rowK_w (gx h14) (ldI_w (n := c.id) rfl (hw _ _ _ _ _ (arB_w ?_)))
      refine ifA_w (fun (a7 : inB 0 1000000 c.id = true) => ?_) (fun (a7 : inB 0 1000000 c.id = false) => k _ _ h14 (by unfold isC0; rw [a1, a2, a3, a4, a5, a6, a7]; rfl))
      refine rowK_w (gx h14) (ldI_w (n := c.which) rfl (hw _ _ _ _ _ (arB_w ?_)))
      refine ifA_w (fun (a8 : inB (-1) 100 c.which = true) => ?_) (fun (a8 : inB (-1) 100 c.which = false) => k _ _ h14 (by unfold isC0; rw [a1, a2, a3, a4, a5, a6, a7, a8]; rfl))
      refine rowK_w (gx h14) (ldI_w (n := c.to_) rfl (hw _ _ _ _ _ (arB_w ?_)))
      refine ifA_w (fun (a9 : inB (-1) 100 c.to_ = true) => ?_) (fun (a9 : inB (-1) 100 c.to_ = false) => k _ _ h14 (by unfold isC0; rw [a1, a2, a3, a4, a5, a6, a7, a8, a9]; rfl))
      refine rowK_w (gx h14) (ldG_we (ys := fdC c.v) (lb rfl) (lb rfl) rfl (hf _ _ _ fun H5 h5 => arB_w (k _ _ (h14.trans h5) ?_)))
      unfold isC0
      rw [a1, a2, a3, a4, a5, a6, a7, a8, a9]
      rfl
end Go.Proofs
end
section
/- The reference's cells: the cell of a point. -/
namespace Go.Proofs
open Go Go.Vw Go.Vw.Ev
set_option linter.unusedVariables false
set_option linter.unusedSimpArgs false

def CWeave3 (cl : Cl) : Prop := ∀ x y H K, 0 ≤ x → x < 4 → 0 ≤ y → y < 4 → K (.s (.int .u32 (cellAt x y))) H = true → cl i_ref3_Weave [.s (.int .u16 x), .s (.int .u16 y)] H K = true
theorem weave3_00 (m : Nat) (cl : Cl) (H : AH) (K : AV → AH → Bool) : B_ref3_Weave (m + 17) cl (Int.ofNat 0) (Int.ofNat 0) H K = K (.s (.int .u32 (cellAt (Int.ofNat 0) (Int.ofNat 0)))) H := by kernel_rfl
theorem weave3_01 (m : Nat) (cl : Cl) (H : AH) (K : AV → AH → Bool) : B_ref3_Weave (m + 17) cl (Int.ofNat 0) (Int.ofNat 1) H K = K (.s (.int .u32 (cellAt (Int.ofNat 0) (Int.ofNat 1)))) H := by kernel_rfl
theorem weave3_02 (m : Nat) (cl : Cl) (H : AH) (K : AV → AH → Bool) : B_ref3_Weave (m + 17) cl (Int.ofNat 0) (Int.ofNat 2) H K = K (.s (.int .u32 (cellAt (Int.ofNat 0) (Int.ofNat 2)))) H := by kernel_rfl
theorem weave3_03 (m : Nat) (cl : Cl) (H : AH) (K : AV → AH → Bool) : B_ref3_Weave (m + 17) cl (Int.ofNat 0) (Int.ofNat 3) H K = K (.s (.int .u32 (cellAt (Int.ofNat 0) (Int.ofNat 3)))) H := by kernel_rfl
theorem weave3_10 (m : Nat) (cl : Cl) (H : AH) (K : AV → AH → Bool) : B_ref3_Weave (m + 17) cl (Int.ofNat 1) (Int.ofNat 0) H K = K (.s (.int .u32 (cellAt (Int.ofNat 1) (Int.ofNat 0)))) H := by kernel_rfl
theorem weave3_11 (m : Nat) (cl : Cl) (H : AH) (K : AV → AH → Bool) : B_ref3_Weave (m + 17) cl (Int.ofNat 1) (Int.ofNat 1) H K = K (.s (.int .u32 (cellAt (Int.ofNat 1) (Int.ofNat 1)))) H := by kernel_rfl
theorem weave3_12 (m : Nat) (cl : Cl) (H : AH) (K : AV → AH → Bool) : B_ref3_Weave (m + 17) cl (Int.ofNat 1) (Int.ofNat 2) H K = K (.s (.int .u32 (cellAt (Int.ofNat 1) (Int.ofNat 2)))) H := by kernel_rfl
theorem weave3_13 (m : Nat) (cl : Cl) (H : AH) (K : AV → AH → Bool) : B_ref3_Weave (m + 17) cl (Int.ofNat 1) (Int.ofNat 3) H K = K (.s (.int .u32 (cellAt (Int.ofNat 1) (Int.ofNat 3)))) H := by kernel_rfl
theorem weave3_20 (m : Nat) (cl : Cl) (H : AH) (K : AV → AH → Bool) : B_ref3_Weave (m + 17) cl (Int.ofNat 2) (Int.ofNat 0) H K = K (.s (.int .u32 (cellAt (Int.ofNat 2) (Int.ofNat 0)))) H := by kernel_rfl
theorem weave3_21 (m : Nat) (cl : Cl) (H : AH) (K : AV → AH → Bool) : B_ref3_Weave (m + 17) cl (Int.ofNat 2) (Int.ofNat 1) H K = K (.s (.int .u32 (cellAt (Int.ofNat 2) (Int.ofNat 1)))) H := by kernel_rfl
theorem weave3_22 (m : Nat) (cl : Cl) (H : AH) (K : AV → AH → Bool) : B_ref3_Weave (m + 17) cl (Int.ofNat 2) (Int.ofNat 2) H K = K (.s (.int .u32 (cellAt (Int.ofNat 2) (Int.ofNat 2)))) H := by kernel_rfl
theorem weave3_23 (m : Nat) (cl : Cl) (H : AH) (K : AV → AH → Bool) : B_ref3_Weave (m + 17) cl (Int.ofNat 2) (Int.ofNat 3) H K = K (.s (.int .u32 (cellAt (Int.ofNat 2) (Int.ofNat 3)))) H := by kernel_rfl
theorem weave3_30 (m : Nat) (cl : Cl) (H : AH) (K : AV → AH → Bool) : B_ref3_Weave (m + 17) cl (Int.ofNat 3) (Int.ofNat 0) H K = K (.s (.int .u32 (cellAt (Int.ofNat 3) (Int.ofNat 0)))) H := by kernel_rfl
theorem weave3_31 (m : Nat) (cl : Cl) (H : AH) (K : AV → AH → Bool) : B_ref3_Weave (m + 17) cl (Int.ofNat 3) (Int.ofNat 1) H K = K (.s (.int .u32 (cellAt (Int.ofNat 3) (Int.ofNat 1)))) H := by kernel_rfl
theorem weave3_32 (m : Nat) (cl : Cl) (H : AH) (K : AV → AH → Bool) : B_ref3_Weave (m + 17) cl (Int.ofNat 3) (Int.ofNat 2) H K = K (.s (.int .u32 (cellAt (Int.ofNat 3) (Int.ofNat 2)))) H := by kernel_rfl
theorem weave3_33 (m : Nat) (cl : Cl) (H : AH) (K : AV → AH → Bool) : B_ref3_Weave (m + 17) cl (Int.ofNat 3) (Int.ofNat 3) H K = K (.s (.int .u32 (cellAt (Int.ofNat 3) (Int.ofNat 3)))) H := by kernel_rfl
theorem B_ref3_Weave_ {lf : Nat} {cl : Cl} (hlf : 100 ≤ lf) {x y : Int} {H : AH} {K : AV → AH → Bool} (h0 : 0 ≤ x) (h1 : x < 4) (h2 : 0 ≤ y) (h3 : y < 4) (hk : K (.s (.int .u32 (cellAt x y))) H = true) : B_ref3_Weave lf cl x y H K = true := by
  obtain ⟨m, rfl⟩ : ∃ m, lf = m + 17 := ⟨lf - 17, by omega⟩
  obtain ⟨i, rfl⟩ := Int.eq_ofNat_of_zero_le h0
  obtain ⟨j, rfl⟩ := Int.eq_ofNat_of_zero_le h2
  rcases (by omega : i = 0 ∨ i = 1 ∨ i = 2 ∨ i = 3) with rfl | rfl | rfl | rfl
  · rcases (by omega : j = 0 ∨ j = 1 ∨ j = 2 ∨ j = 3) with rfl | rfl | rfl | rfl
    · exact (weave3_00 m cl H K).trans hk
    · exact (weave3_01 m cl H K).trans hk
    · exact (weave3_02 m cl H K).trans hk
    · exact (weave3_03 m cl H K).trans hk
  · rcases (by omega : j = 0 ∨ j = 1 ∨ j = 2 ∨ j = 3) with rfl | rfl | rfl | rfl
    · exact (weave3_10 m cl H K).trans hk
    · exact (weave3_11 m cl H K).trans hk
    · exact (weave3_12 m cl H K).trans hk
    · exact (weave3_13 m cl H K).trans hk
  · rcases (by omega : j = 0 ∨ j = 1 ∨ j = 2 ∨ j = 3) with rfl | rfl | rfl | rfl
    · exact (weave3_20 m cl H K).trans hk
    · exact (weave3_21 m cl H K).trans hk
    · exact (weave3_22 m cl H K).trans hk
    · exact (weave3_23 m cl H K).trans hk
  · rcases (by omega : j = 0 ∨ j = 1 ∨ j = 2 ∨ j = 3) with rfl | rfl | rfl | rfl
    · exact (weave3_30 m cl H K).trans hk
    · exact (weave3_31 m cl H K).trans hk
    · exact (weave3_32 m cl H K).trans hk
    · exact (weave3_33 m cl H K).trans hk
def CCell3 (cl : Cl) : Prop := ∀ p H K, (∀ H', Le H H' → K (.tup [.s (.int .i64 (ofC p)), .s (.int .i64 (ofE p))]) H' = true) → cl i_ref3_Cell [.agg (ptC p)] H K = true
theorem wrap16 {x : Int} (h0 : 0 ≤ x) (h1 : x < 4) : IntKind.wrap .u16 x = x := lt16 (P := fun c => IntKind.wrap .u16 c = c) (by decide) x h0 (by omega)
theorem B_ref3_Cell_ {lf : Nat} {cl : Cl} (hon : CPtB i_ref3_On On cl) (hw : CWeave3 cl) {p : Pt} {H : AH} {K : AV → AH → Bool} (hk : ∀ H', Le H H' → K (.tup [.s (.int .i64 (ofC p)), .s (.int .i64 (ofE p))]) H' = true) : B_ref3_Cell lf cl (ptC p) H K = true := by
  unfold B_ref3_Cell
  refine new_w fun g H1 hL1 h1 n1 g1 => ?_
  refine rowK_w g1 (ldG_we (ys := ptC p) (by simp [ptC]) (by decide) rfl (hon _ _ _ fun H2 h2 => arB_w ?_))
  rw [fB_eq]
  have g2 := (h2.get _ h1).trans g1
  refine ifA_w (fun hc => ?_) (fun hc => ?_)
  · have hc : On p = false := by simpa using hc
    have := hk H2 (hL1.trans h2)
    unfold ofC ofE at this
    rw [hc] at this
    exact this
  · have hc : On p = true := by simpa using hc
    have hb : 0 ≤ p.x ∧ p.x < 64 ∧ 0 ≤ p.y ∧ p.y < 64 := by unfold On at hc; simpa only [Bool.and_eq_true, decide_eq_true_eq] using hc
    refine rowK_w g2 (ldI_w (n := p.x) rfl ?_)
    rw [show Int.tdiv p.x (Int.ofNat 16) = p.x / 16 from Int.tdiv_eq_ediv_of_nonneg hb.1]
    refine w64_w (by omega) (by omega) ?_
    rw [wrapK_eq, wrap16 (by omega) (by omega)]
    refine rowK_w g2 (ldI_w (n := p.y) rfl ?_)
    rw [show Int.tdiv p.y (Int.ofNat 16) = p.y / 16 from Int.tdiv_eq_ediv_of_nonneg hb.2.2.1]
    refine w64_w (by omega) (by omega) ?_
    rw [wrapK_eq, wrap16 (by omega) (by omega)]
    have hcb := cellAt_b (x := p.x / 16) (y := p.y / 16) (by omega) (by omega) (by omega) (by omega)
    refine hw _ _ _ _ (by omega) (by omega) (by omega) (by omega) (arI_w (w64_w (by omega) (by omega) ?_))
    have := hk H2 (hL1.trans h2)
    unfold ofC ofE at this
    rw [hc] at this
    exact this
end Go.Proofs
end
section
/- The reference's commands: whether one may be done, what it does. -/
namespace Go.Proofs
open Go Go.Vw Go.Vw.Ev
set_option linter.unusedVariables false
set_option linter.unusedSimpArgs false

/-- A row and its table. -/
structure RT (L : List (Int × Th)) (ts : List Th) : Prop where
  rof : RowOf L ts
  nod : (aKeys L).Nodup
  ids : IdOk L
  on : ∀ t ∈ ts, On t.pt = true
theorem RT.len {L : List (Int × Th)} {ts : List Th} (h : RT L ts) : ts.length = L.length := row_len h.rof h.nod h.ids
theorem cell_oneR (p : Pt) (h : On p = true) : 0 ≤ cellOf p ∧ cellOf p < 16 := by
  have : 0 ≤ p.x ∧ p.x < 64 ∧ 0 ≤ p.y ∧ p.y < 64 := by unfold On at h; simpa only [Bool.and_eq_true, decide_eq_true_eq] using h
  exact cellAt_b (by omega) (by omega) (by omega) (by omega)
theorem ofC_in {p : Pt} (h : On p = true) (q : Pt) (hq : On q = true) : inP (cellR (ofC q)) ⟨0, p, fd0, fd0, fd0, fd0⟩ = decide (ofC p = ofC q) := by
  unfold inP
  have eq : ofC q = cellOf q := by unfold ofC; rw [if_pos hq]
  have ep : ofC p = cellOf p := by unfold ofC; rw [if_pos h]
  have hb := cell_oneR q hq
  have := cell_in hb.1 hb.2 p
  rw [eq, ep]
  rw [Bool.eq_iff_iff, decide_eq_true_eq]
  exact this.trans ⟨fun h => h.2, fun e => ⟨h, e⟩⟩
def inCell (ts : List Th) (c : Int) : Nat := (ts.filter fun t => decide (ofC t.pt = c)).length
theorem inCell_full {L : List (Int × Th)} {ts : List Th} (h : RT L ts) {q : Pt} (hq : On q = true) : fullT L q = decide (8 ≤ inCell ts (ofC q)) := by
  unfold fullT
  congr 2
  have hc : isC (ofC q) = true := by
    have := cell_oneR q hq
    unfold ofC isC
    rw [if_pos hq, decide_eq_true this.1, decide_eq_true this.2]; rfl
  have : (cellT L (ofC q)).length = ((cellT L (ofC q)).map (thOf L)).length := by rw [List.length_map]
  rw [this]
  unfold cellT
  rw [if_pos hc, in_row h.rof h.nod h.ids]
  unfold inCell
  congr 1
  refine List.filter_congr fun t ht => ?_
  exact ofC_in (h.on t ht) q hq
def CInCell (cl : Cl) : Prop := ∀ H p n c z ts k K, InT H p n ts → n < 10000 → (∀ H', Le H H' → K (.s (.int .i64 (inCell ts k : Nat))) H' = true) → cl i_ref11_InCell [.s (.slice p n c z), .s (.int .i64 k)] H K = true
theorem B_ref11_InCell_ {lf : Nat} {cl : Cl} (hlf : 100000 ≤ lf) (hcell : CCell3 cl) {H : AH} {p : AP} {n zz : Nat} {c : ACap} {ts : List Th} {k : Int} {K : AV → AH → Bool} (hp : InT H p n ts) (hn : n < 10000)
    (hk : ∀ H', Le H H' → K (.s (.int .i64 (inCell ts k : Nat))) H' = true) : B_ref11_InCell lf cl p n c zz k H K = true := by
  unfold B_ref11_InCell
  have hlt := hp.1
  refine loopX_w (fun x Hx => Le H Hx ∧ ∃ i : Nat, x = ((p, n, c, zz), k, ((inCell (ts.take i) k : Nat) : Int), (i : Int)) ∧ i ≤ n) (fun x => n - x.2.2.2.toNat) ⟨Le.refl _, 0, rfl, by omega⟩ (by simp; omega) ?_
  rintro self x Hx ⟨hL, i, rfl, hi⟩ ih
  simp only [pR_, fB_eq, iLt_dec]
  refine ifA_w (fun hx => ?_) (fun hx => ?_)
  · have hx : i < n := by have := of_decide_eq_true hx; simp only [Int.ofNat_eq_natCast] at this; omega
    have hpt := hp.pt hx
    obtain ⟨g1, rfl, hh1, r1, l1, a1, i1⟩ := hp.at hx
    have r1x := r1.imp (fun e => (hL.get _ hh1).trans e) (fun e => (hL.get _ hh1).trans e)
    simp only [nilK_at, fN_eq, Nat.add_eq, Nat.mul_eq, Nat.zero_add, Nat.add_zero]
    refine idxK_w (by omega) (by omega) (rowK_wo r1x (ldG_we (ys := ptC (ts[i]'(by omega)).pt) (by rw [Int.toNat_natCast]; omega) (by decide) (by rw [Int.toNat_natCast]; exact hpt) ?_))
    refine hcell _ _ _ fun H2 h2 => ?_
    rw [tup2_]
    refine arI_w (arI_w ?_)
    have le : inCell (ts.take i) k ≤ i := Nat.le_trans (List.length_filter_le _ _) (by simp; omega)
    have tk : inCell (ts.take (i + 1)) k = inCell (ts.take i) k + (if ofC (ts[i]'(by omega)).pt = k then 1 else 0) := by
      unfold inCell
      rw [List.take_succ_eq_append_getElem (by omega), List.filter_append, List.length_append, List.filter_cons, List.filter_nil]
      congr 1
      by_cases e : ofC (ts[i]'(by omega)).pt = k
      · rw [if_pos e, if_pos (decide_eq_true e)]; rfl
      · rw [if_neg e, if_neg (by rw [decide_eq_false e]; decide)]; rfl
    simp only [iEq_dec, iAdd_]
    refine ifA_w (fun h => ?_) (fun h => ?_)
    · rw [if_pos (of_decide_eq_true h)] at tk
      exact w64_w (by simp only [Int.ofNat_eq_natCast]; omega) (by simp only [Int.ofNat_eq_natCast]; omega) (w64_w (by simp only [Int.ofNat_eq_natCast]; omega) (by simp only [Int.ofNat_eq_natCast]; omega) (ih _ _ ⟨hL.trans h2, i + 1, by rw [tk]; simp, by omega⟩ (by simp; omega)))
    · rw [if_neg (of_decide_eq_false h)] at tk
      exact w64_w (by simp only [Int.ofNat_eq_natCast]; omega) (by simp only [Int.ofNat_eq_natCast]; omega) (ih _ _ ⟨hL.trans h2, i + 1, by rw [tk]; simp, by omega⟩ (by simp; omega))
  · have hx : i = n := by have := of_decide_eq_false hx; simp only [Int.ofNat_eq_natCast] at this; omega
    rw [show ts.take i = ts from List.take_of_length_le (by omega)]
    exact hk _ hL
/-- What the reference's test tells. -/
noncomputable def chkL (L : List (Int × Th)) (c : Cm) (fr : Bool) : Int :=
  if IsCm c = false ∨ 4 < c.kind then 11 else
  if c.kind = 1 then (if ofE c.pt ≠ 0 then 14 else if 200 ≤ L.length then 16 else if fr = false ∧ fullT L c.pt = true then 16 else 0) else
  if (aGet L c.id).isSome = false then 15 else
  if c.kind = 2 ∧ ofE c.pt ≠ 0 then 14 else
  if c.kind = 3 ∧ (c.which < 0 ∨ 4 ≤ c.which) then 18 else
  if c.kind = 2 ∧ fr = false ∧ awayB (thOf L c.id).pt c.pt = true ∧ fullT L c.pt = true then 16 else 0
def CChk (cl : Cl) : Prop := ∀ H p n c z ts L cm fr K, InT H p n ts → RT L ts → n < 9000 → (∀ H', Le H H' → K (.s (.int .i64 (chkL L cm fr))) H' = true) → cl i_ref11_Check [.s (.slice p n c z), .agg (cmC cm), .s (.bool fr)] H K = true
theorem ofE_14 {p : Pt} (h : ofE p ≠ 0) : On p = false := by
  unfold ofE at h
  split at h
  · exact absurd rfl h
  · rename_i h2; simpa using h2
theorem B_ref11_Check_ {lf : Nat} {cl : Cl} (his : CIs10 cl) (hcell : CCell3 cl) (hinc : CInCell cl) (hat : CAt6 cl) {H : AH} {p : AP} {n zz : Nat} {ca : ACap} {ts : List Th} {L : List (Int × Th)} {c : Cm} {fr : Bool} {K : AV → AH → Bool} (hp : InT H p n ts) (rt : RT L ts) (hn : n < 9000)
    (hk : ∀ H', Le H H' → K (.s (.int .i64 (chkL L c fr))) H' = true) : B_ref11_Check lf cl p n ca zz (cmC c) fr H K = true := by
  unfold B_ref11_Check
  have hlen := rt.len
  have hpn := hp.1
  refine new_w fun g H1 h1 hg ng gg => ?_
  refine rowK_w gg (ldG_we (ys := cmC c) (Nat.le_refl 22) (lb rfl) rfl (his _ _ _ fun H2 h2 => arB_w ?_))
  have h02 := h1.trans h2
  have gx2 := (h2.get _ hg).trans gg
  have hg2 := h2.has _ hg
  clear h1 h2 gg hg ng
  simp only [fB_eq, iLt_dec, iEq_dec, iLe_dec]
  have hd : ∀ {Hx : AH} {e : Int}, Le H Hx → chkL L c fr = e → K (.s (.int .i64 e)) Hx = true := fun hL e => by have := hk _ hL; rw [e] at this; exact this
  refine ifA_w (fun a0 => hd h02 ?_) (fun a0 => ?_)
  · unfold chkL; rw [if_pos (.inl (by simpa using a0))]; rfl
  have b0 : IsCm c = true := by simpa using a0
  refine rowK_w gx2 (ldI_w (n := c.kind) rfl ?_)
  refine ifA_w (fun a1 => hd h02 ?_) (fun a1 => ?_)
  · unfold chkL; rw [if_pos (.inr (of_decide_eq_true a1))]; rfl
  have b1 : ¬ 4 < c.kind := of_decide_eq_false a1
  have n1 : ¬ (IsCm c = false ∨ 4 < c.kind) := by rintro (h | h); · rw [b0] at h; cases h
                                                  · exact b1 h
  refine rowK_w gx2 (ldG_we (ys := ptC c.pt) (lb rfl) (lb rfl) rfl (hcell _ _ _ fun H3 h3 => ?_))
  rw [tup2_]
  refine arI_w (arI_w ?_)
  have gx3 := (h3.get _ hg2).trans gx2
  have h03 := h02.trans h3
  have hg3 := h3.has _ hg2
  refine rowK_w gx3 (ldI_w (n := c.kind) rfl ?_)
  refine ifA_w (fun a2 => ?_) (fun a2 => ?_)
  · have k1 : c.kind = 1 := of_decide_eq_true a2
    refine ifA_w (fun a3 => hd h03 ?_) (fun a3 => ?_)
    · have : ofE c.pt ≠ 0 := by simpa using a3
      unfold chkL; rw [if_neg n1, if_pos k1, if_pos this]; rfl
    have e0 : ¬ ofE c.pt ≠ 0 := by simpa using a3
    have on := ofE_on e0
    refine ifA_w (fun a4 => hd h03 ?_) (fun a4 => ?_)
    · have : 200 ≤ L.length := by have := of_decide_eq_true a4; simp only [Int.ofNat_eq_natCast] at this; omega
      unfold chkL; rw [if_neg n1, if_pos k1, if_neg e0, if_pos this]; rfl
    have n4 : ¬ 200 ≤ L.length := by have := of_decide_eq_false a4; simp only [Int.ofNat_eq_natCast] at this; omega
    refine ifA_w (fun a5 => ?_) (fun a5 => hd h03 ?_)
    · have f0 : fr = false := by simpa using a5
      refine hinc H3 p n ca zz ts _ _ (hp.le h03) (by omega) fun H4 h4 => arI_w ?_
      have ef := inCell_full rt on
      refine ifA_w (fun a6 => hd (h03.trans h4) ?_) (fun a6 => hd (h03.trans h4) ?_)
      · have : fullT L c.pt = true := by rw [ef]; exact decide_eq_true (by have := of_decide_eq_true a6; simp only [Int.ofNat_eq_natCast] at this; omega)
        unfold chkL; rw [if_neg n1, if_pos k1, if_neg e0, if_neg n4, if_pos ⟨f0, this⟩]; rfl
      · have : ¬ (fr = false ∧ fullT L c.pt = true) := fun h => by
          rw [ef] at h
          have := of_decide_eq_true h.2
          have := of_decide_eq_false a6
          simp only [Int.ofNat_eq_natCast] at this; omega
        unfold chkL; rw [if_neg n1, if_pos k1, if_neg e0, if_neg n4, if_neg this]; rfl
    · have : ¬ (fr = false ∧ fullT L c.pt = true) := fun h => by rw [h.1] at a5; cases a5
      unfold chkL; rw [if_neg n1, if_pos k1, if_neg e0, if_neg n4, if_neg this]; rfl
  have k1 : ¬ c.kind = 1 := of_decide_eq_false a2
  refine rowK_w gx3 (ldI_w (n := c.id) rfl ?_)
  refine hat H3 p n ca zz ts c.id _ (hp.le h03) (by omega) fun r hr => arI_w ?_
  have hmem := rt.rof.mem rt.ids c.id
  -- the end: moved into a cell that is full
  refine joinX_w (fun x Hx => Hx = H3 ∧ ∃ (i : Nat) (hi : i < ts.length), ts[i].id = c.id ∧ x = ((p, n, ca, zz), fr, .at g 0, ofC c.pt, (i : Int)) ∧ ¬ (c.kind = 2 ∧ ofE c.pt ≠ 0) ∧ ¬ (c.kind = 3 ∧ (c.which < 0 ∨ 4 ≤ c.which))) ?_ ?_
  · rintro x Hx ⟨rfl, i, hi, he, rfl, m1, m2⟩
    have there : ¬ (aGet L c.id).isSome = false := by rw [hmem.2 ⟨_, List.getElem_mem hi, he⟩]; decide
    have hth : thOf L c.id = ts[i] := thOf_get (by rw [← he]; exact (rt.rof.2 _).1 (List.getElem_mem hi))
    simp only [pR_, nilK_at, fN_eq, Nat.add_eq, Nat.add_zero, Nat.zero_add, Nat.mul_eq]
    have nope : ∀ {Hx : AH}, Le H Hx → ¬ (c.kind = 2 ∧ fr = false ∧ awayB (thOf L c.id).pt c.pt = true ∧ fullT L c.pt = true) → K (.s (.int .i64 (Int.ofNat 0))) Hx = true := fun hL h => hd hL (by
      unfold chkL; rw [if_neg n1, if_neg k1, if_neg there, if_neg m1, if_neg m2, if_neg h]; rfl)
    refine rowK_w gx3 (ldI_w (n := c.kind) rfl ?_)
    refine ifA_w (fun a3 => ?_) (fun a3 => nope h03 fun h => (of_decide_eq_false a3) h.1)
    have k2 : c.kind = 2 := of_decide_eq_true a3
    have e0 : ¬ ofE c.pt ≠ 0 := fun h => m1 ⟨k2, h⟩
    have on := ofE_on e0
    have hin : i < n := by omega
    have hpt := (hp.le h03).pt hin
    obtain ⟨g1, rfl, hh1, r1, l1, a1', i1⟩ := (hp.le h03).at hin
    simp only [nilK_at, Nat.zero_add]
    refine idxK_w (by omega) (by omega) (rowK_wo r1 (ldG_we (ys := ptC ts[i].pt) (by rw [Int.toNat_natCast]; omega) (by decide) (by rw [Int.toNat_natCast]; exact hpt) ?_))
    refine hcell _ _ _ fun H4 h4 => ?_
    rw [tup2_]
    refine arI_w (arI_w ?_)
    have h04 := h03.trans h4
    refine ifA_w (fun a4 => ?_) (fun a4 => nope h04 fun h => by rw [h.2.1] at a4; cases a4)
    have f0 : fr = false := by simpa using a4
    have eaw : awayB (thOf L c.id).pt c.pt = !decide (ofC ts[i].pt = ofC c.pt) := by unfold awayB; rw [hth]
    refine ifA_w (fun a5 => ?_) (fun a5 => nope h04 fun h => by rw [eaw, a5] at h; exact absurd h.2.2.1 (by decide))
    refine hinc H4 _ n ca zz ts _ _ (hp.le h04) (by omega) fun H5 h5 => arI_w ?_
    have h05 := h04.trans h5
    have ef := inCell_full rt on
    refine ifA_w (fun a6 => hd h05 ?_) (fun a6 => nope h05 fun h => ?_)
    · have : fullT L c.pt = true := by rw [ef]; exact decide_eq_true (by have := of_decide_eq_true a6; simp only [Int.ofNat_eq_natCast] at this; omega)
      unfold chkL; rw [if_neg n1, if_neg k1, if_neg there, if_neg m1, if_neg m2, if_pos ⟨k2, f0, by rw [eaw]; exact a5, this⟩]; rfl
    · have h := h.2.2.2
      rw [ef] at h
      have := of_decide_eq_true h
      have := of_decide_eq_false a6
      simp only [Int.ofNat_eq_natCast] at this; omega
  · intro J hJ
    refine ifA_w (fun a3 => ?_) (fun a3 => ?_)
    · have : (aGet L c.id).isSome = false := by
        cases e : (aGet L c.id).isSome with
        | false => rfl
        | true =>
          obtain ⟨t, hm, ht⟩ := hmem.1 e
          rcases hr with ⟨h0, _⟩ | ⟨_, hno⟩
          · have := of_decide_eq_true a3; simp only [Int.ofNat_eq_natCast] at this; omega
          · exact absurd ht (hno t hm)
      exact hd h03 (by unfold chkL; rw [if_neg n1, if_neg k1, if_pos this]; rfl)
    · rcases hr with ⟨h0, i, hi, e, he⟩ | ⟨h0, _⟩
      case inr => exact absurd h0 (by have := of_decide_eq_false a3; simp only [Int.ofNat_eq_natCast] at this; omega)
      subst e
      have there : ¬ (aGet L c.id).isSome = false := by rw [hmem.2 ⟨_, List.getElem_mem hi, he⟩]; decide
      refine joinX_w (fun x Hx => Hx = H3 ∧ x = ((p, n, ca, zz), fr, .at g 0, ofC c.pt, (i : Int), decide (c.kind = 2 ∧ ofE c.pt ≠ 0))) ?_ ?_
      · rintro x Hx ⟨rfl, rfl⟩
        simp only [pR_, nilK_at, fN_eq, Nat.add_eq, Nat.add_zero, Nat.zero_add]
        refine ifA_w (fun a4 => hd h03 (by unfold chkL; rw [if_neg n1, if_neg k1, if_neg there, if_pos (of_decide_eq_true a4)]; rfl)) (fun a4 => ?_)
        have m1 := of_decide_eq_false a4
        refine rowK_w gx3 (ldI_w (n := c.kind) rfl ?_)
        refine ifA_w (fun a5 => ?_) (fun a5 => hJ _ _ ⟨rfl, i, hi, he, rfl, m1, fun h => (of_decide_eq_false a5) h.1⟩)
        have k3 : c.kind = 3 := of_decide_eq_true a5
        refine rowK_w gx3 (ldI_w (n := c.which) rfl ?_)
        refine ifA_w (fun a6 => hd h03 (by unfold chkL; rw [if_neg n1, if_neg k1, if_neg there, if_neg m1, if_pos ⟨k3, .inl (of_decide_eq_true a6)⟩]; rfl)) (fun a6 => ?_)
        refine rowK_w gx3 (ldI_w (n := c.which) rfl ?_)
        refine ifA_w (fun a7 => hd h03 (by unfold chkL; rw [if_neg n1, if_neg k1, if_neg there, if_neg m1, if_pos ⟨k3, .inr (of_decide_eq_true a7)⟩]; rfl)) (fun a7 => hJ _ _ ⟨rfl, i, hi, he, rfl, m1, fun h => h.2.elim (of_decide_eq_false a6) (of_decide_eq_false a7)⟩)
      · intro J2 hJ2
        refine rowK_w gx3 (ldI_w (n := c.kind) rfl ?_)
        refine ifA_w (fun a4 => hJ2 _ _ ⟨rfl, ?_⟩) (fun a4 => hJ2 _ _ ⟨rfl, ?_⟩)
        · have k2 : c.kind = 2 := of_decide_eq_true a4
          congr 5
          by_cases e : ofE c.pt = 0
          · rw [show decide (ofE c.pt = Int.ofNat 0) = true from decide_eq_true e, decide_eq_false (fun h => h.2 e)]; rfl
          · rw [show decide (ofE c.pt = Int.ofNat 0) = false from decide_eq_false e, decide_eq_true ⟨k2, e⟩]; rfl
        · rw [decide_eq_false (fun h => (of_decide_eq_false a4) h.1)]
end Go.Proofs
end
section
/- The reference's commands: the doing. -/
namespace Go.Proofs
open Go Go.Vw Go.Vw.Ev
set_option linter.unusedVariables false
set_option linter.unusedSimpArgs false

def CDone11 (cl : Cl) : Prop := ∀ H p n c z ts L cm id K, InT H p n ts → RT L ts → n < 9000 → Pre L cm → (cm.kind = 1 → canPut L id = true) →
  (∀ H' p' c' z' us, Le H H' → Sl H H' p' us.length z' (thsC us) 11 → RowOf (doneL L cm id) us → us.length ≤ n + 1 → K (.s (.slice p' us.length c' z')) H' = true) → cl i_ref11_Done [.s (.slice p n c z), .agg (cmC cm), .s (.int .i64 id)] H K = true
theorem B_ref11_Done_ {lf : Nat} {cl : Cl} (hwith : CWith cl) (hwo : CWithoutS cl) (hat : CAt6 cl) {H : AH} {p : AP} {n zz : Nat} {ca : ACap} {ts : List Th} {L : List (Int × Th)} {c : Cm} {id : Int} {K : AV → AH → Bool} (hp : InT H p n ts) (rt : RT L ts) (hn : n < 9000) (pre : Pre L c) (hcan : c.kind = 1 → canPut L id = true)
    (hk : ∀ H' p' c' z' us, Le H H' → Sl H H' p' us.length z' (thsC us) 11 → RowOf (doneL L c id) us → us.length ≤ n + 1 → K (.s (.slice p' us.length c' z')) H' = true) : B_ref11_Done lf cl p n ca zz (cmC c) id H K = true := by
  unfold B_ref11_Done
  have hpn := hp.1
  have wl : ∀ t : Th, (withF t false ts).length ≤ n + 1 := fun t => by have := withF_len t ts false; simp at this; omega
  refine new_w fun g H1 h1 hg ng gg => ?_
  refine rowK_w gg (ldI_w (n := c.kind) rfl ?_)
  rw [fB_eq, iEq_dec]
  refine ifA_w (fun e1 => ?_) (fun e1 => ?_)
  · have k1 : c.kind = 1 := of_decide_eq_true e1
    refine rowK_w gg (ldG_we (ys := ptC c.pt) (lb rfl) (lb rfl) rfl (rowK_w gg (ldG_we (ys := fsC c) (lb rfl) (lb rfl) rfl (okK_w rfl (okK_w rfl (fL_w ?_))))))
    rw [ap_eq, ap_eq, List.append_nil]
    refine hwith H1 p n ca zz ts (putT c id) _ (hp.le h1) (by omega) fun H2 p' c' z' h2 sl => ?_
    rw [asSl_]
    refine hk _ _ _ _ _ (h1.trans h2) (Sl.base sl h1) ?_ (wl _)
    unfold doneL
    rw [if_pos k1, if_pos (hcan k1)]
    exact rt.rof.set (putT c id)
  have k1 : ¬ c.kind = 1 := of_decide_eq_false e1
  refine rowK_w gg (ldI_w (n := c.id) rfl ?_)
  refine hat H1 p n ca zz ts c.id _ (hp.le h1) (by omega) fun r hr => arI_w ?_
  have hmem := rt.rof.mem rt.ids c.id
  have there := pre.there k1
  rcases hr with ⟨h0, i, hi, e, he⟩ | ⟨h0, hno⟩
  case inr =>
    obtain ⟨t, hm, ht⟩ := hmem.1 there
    exact absurd ht (hno t hm)
  subst e
  have hth : thOf L c.id = ts[i] := thOf_get (by rw [← he]; exact (rt.rof.2 _).1 (List.getElem_mem hi))
  have hin : i < n := by omega
  obtain ⟨g1, rfl, hh1, r1, l1, a1', i1⟩ := (hp.le h1).at hin
  simp only [nilK_at, fN_eq, Nat.add_eq, Nat.mul_eq, Nat.zero_add, Nat.add_zero]
  refine idxK_w (by omega) (by omega) (rowK_wo r1 (ldG_we (ys := thC ts[i]) (by rw [Int.toNat_natCast]; exact l1) (by decide) (by rw [Int.toNat_natCast]; exact a1') ?_))
  refine tmp_w rfl rfl fun gx H2 h2 hgx ngx ggx => ?_
  have h02 := h1.trans h2
  have gg2 := (h2.get _ hg).trans gg
  have nHx : ¬ H.has gx := fun h => ngx (h1.has _ h)
  have nax : g ≠ gx := fun e => ngx (e ▸ hg)
  refine joinX_w (fun x Hx => x = ((.at g1 0, n, ca, zz), .at gx 0) ∧ Le H Hx ∧ ∃ t : Th, Hx.get gx = some (.row (thC t)) ∧ t.id = c.id ∧ doneL L c id = aSet L c.id t) ?_ ?_
  · rintro x Hx ⟨rfl, hL, t, gt, ht, hd⟩
    simp only [pR_, nilK_at]
    refine rowK_w gt (ldG_we (ys := thC t) (by rw [thC_len]; decide) (by decide) (thC_all _) ?_)
    refine hwith Hx _ n ca zz ts t _ (hp.le hL) (by omega) fun H3 p' c' z' h3 sl => ?_
    rw [asSl_]
    refine hk _ _ _ _ _ (hL.trans h3) (Sl.base sl hL) ?_ (wl _)
    rw [hd, ← ht]
    exact rt.rof.set t
  · intro J hJ
    refine rowK_w gg2 (ldI_w (n := c.kind) rfl ?_)
    rw [fB_eq, iEq_dec]
    refine ifA_w (fun e2 => ?_) (fun e2 => ?_)
    · have k2 : c.kind = 2 := of_decide_eq_true e2
      refine rowK_w gg2 (ldG_we (ys := ptC c.pt) (lb rfl) (lb rfl) rfl ?_)
      refine stoN_we (ds := thC { ts[i] with pt := c.pt }) ggx rfl (by rw [thC_len]; decide) rfl ?_
      exact hJ _ _ ⟨rfl, h02.put nHx _, _, get_put _ _ _, he, by unfold doneL; rw [if_neg k1, if_pos k2, hth]⟩
    have k2 : ¬ c.kind = 2 := of_decide_eq_false e2
    rw [fB_eq, iEq_dec]
    refine ifA_w (fun e3 => ?_) (fun e3 => ?_)
    · have k3 : c.kind = 3 := of_decide_eq_true e3
      obtain ⟨w0, w1⟩ := pre.set k3
      refine rowK_w gg2 (ldI_w (n := c.which) rfl (rowK_w gg2 (ldG_we (ys := fdC c.v) (lb rfl) (lb rfl) rfl (idxK_w w0 (by omega) ?_))))
      obtain ⟨w, hw⟩ := Int.eq_ofNat_of_zero_le w0
      have hc := setF_C ts[i] c.v w (by omega)
      refine stoN_we (ds := thC (setF ts[i] c.which c.v)) ggx rfl (by rw [thC_len, hw]; simp only [Int.toNat_natCast]; omega) (by rw [hw]; exact hc) ?_
      obtain ⟨s1, s2⟩ := setF_id ts[i] c.which c.v
      exact hJ _ _ ⟨rfl, h02.put nHx _, _, get_put _ _ _, by rw [s1]; exact he, by unfold doneL; rw [if_neg k1, if_neg k2, if_pos k3, hth]⟩
    have k3 : ¬ c.kind = 3 := of_decide_eq_false e3
    refine rowK_w gg2 (ldI_w (n := c.id) rfl ?_)
    refine hwo H2 _ n ca zz ts c.id _ (hp.le h02) (by omega) fun H3 p' c' z' h3 sl => ?_
    rw [asSl_]
    refine hk _ _ _ _ _ (h02.trans h3) (Sl.base sl h02) ?_ (by have := List.length_filter_le (notId c.id) ts; omega)
    unfold doneL
    rw [if_neg k1, if_neg k2, if_neg k3]
    exact rt.rof.del c.id
/-- What the reference's doing tells. -/
noncomputable def rE (L : List (Int × Th)) (c : Cm) (id : Int) (fr : Bool) : Int := if chkL L c fr = 0 then (if c.kind = 1 ∧ canPut L id = false then 11 else 0) else chkL L c fr
noncomputable def rN (L : List (Int × Th)) (c : Cm) (id : Int) (fr : Bool) : Int := if rE L c id fr = 0 then (if c.kind = 1 then id else c.id) else 0
noncomputable def rL (L : List (Int × Th)) (c : Cm) (id : Int) (fr : Bool) : List (Int × Th) := if rE L c id fr = 0 then doneL L c id else L
theorem ofE_0 {p : Pt} (h : ¬ ofE p ≠ 0) : On p = true := ofE_on h
theorem pre_chk {L : List (Int × Th)} {c : Cm} {fr : Bool} (h : chkL L c fr = 0) (hk : 1 ≤ c.kind) : Pre L c := by
  unfold chkL at h
  by_cases n1 : IsCm c = false ∨ 4 < c.kind
  · rw [if_pos n1] at h; exact absurd h (by decide)
  rw [if_neg n1] at h
  have k4 : c.kind ≤ 4 := by have : ¬ 4 < c.kind := fun h => n1 (.inr h); omega
  by_cases k1 : c.kind = 1
  · rw [if_pos k1] at h
    by_cases e : ofE c.pt ≠ 0
    · rw [if_pos e] at h; exact absurd h (by decide)
    · exact ⟨fun _ => ofE_on e, fun h => absurd k1 h, fun h => by omega, fun h => by omega, hk, k4⟩
  rw [if_neg k1] at h
  by_cases a : (aGet L c.id).isSome = false
  · rw [if_pos a] at h; exact absurd h (by decide)
  rw [if_neg a] at h
  by_cases m1 : c.kind = 2 ∧ ofE c.pt ≠ 0
  · rw [if_pos m1] at h; exact absurd h (by decide)
  rw [if_neg m1] at h
  by_cases m2 : c.kind = 3 ∧ (c.which < 0 ∨ 4 ≤ c.which)
  · rw [if_pos m2] at h; exact absurd h (by decide)
  exact ⟨fun h => absurd h k1, fun _ => (by cases e : (aGet L c.id).isSome with
    | true => rfl
    | false => exact absurd e a), fun k2 => ofE_on fun h => m1 ⟨k2, h⟩, fun k3 => ⟨by have : ¬ c.which < 0 := fun h => m2 ⟨k3, .inl h⟩; omega, by have : ¬ 4 ≤ c.which := fun h => m2 ⟨k3, .inr h⟩; omega⟩, hk, k4⟩
theorem isCm_kind {c : Cm} (h : IsCm c = true) : 1 ≤ c.kind := by
  unfold IsCm kindB at h
  simp only [Bool.and_eq_true, decide_eq_true_eq] at h
  exact h.2.1.1
theorem chk_kind {L : List (Int × Th)} {c : Cm} {fr : Bool} (h : chkL L c fr = 0) : 1 ≤ c.kind := by
  unfold chkL at h
  by_cases n1 : IsCm c = false ∨ 4 < c.kind
  · rw [if_pos n1] at h; exact absurd h (by decide)
  · exact isCm_kind (by
      cases e : IsCm c with
      | true => rfl
      | false => exact absurd (.inl e) n1)
def CDo11 (cl : Cl) : Prop := ∀ H p n c z ts L cm id fr K, InT H p n ts → (∀ a, ownP p a → H.has a) → RT L ts → n < 9000 →
  (∀ H' p' n' c' z' us, Le H H' → InT H' p' n' us → (∀ a, ownP p' a → H'.has a) → (∀ a, ownP p' a → ownP p a ∨ ¬ H.has a) → RowOf (rL L cm id fr) us → us.length ≤ n + 1 → K (.tup [.s (.slice p' n' c' z'), .s (.int .i64 (rN L cm id fr)), .s (.int .i64 (rE L cm id fr))]) H' = true) →
  cl i_ref11_Do [.s (.slice p n c z), .agg (cmC cm), .s (.int .i64 id), .s (.bool fr)] H K = true
theorem B_ref11_Do_ {lf : Nat} {cl : Cl} (hchk : CChk cl) (hat : CAt6 cl) (hdone : CDone11 cl) {H : AH} {p : AP} {n zz : Nat} {ca : ACap} {ts : List Th} {L : List (Int × Th)} {c : Cm} {id : Int} {fr : Bool} {K : AV → AH → Bool} (hp : InT H p n ts) (hown : ∀ a, ownP p a → H.has a) (rt : RT L ts) (hn : n < 9000)
    (hk : ∀ H' p' n' c' z' us, Le H H' → InT H' p' n' us → (∀ a, ownP p' a → H'.has a) → (∀ a, ownP p' a → ownP p a ∨ ¬ H.has a) → RowOf (rL L c id fr) us → us.length ≤ n + 1 → K (.tup [.s (.slice p' n' c' z'), .s (.int .i64 (rN L c id fr)), .s (.int .i64 (rE L c id fr))]) H' = true) : B_ref11_Do lf cl p n ca zz (cmC c) id fr H K = true := by
  unfold B_ref11_Do
  have hpn := hp.1
  refine new_w fun g H1 h1 hg ng gg => ?_
  refine rowK_w gg (ldG_we (ys := cmC c) (Nat.le_refl 22) (lb rfl) rfl (hchk H1 p n ca zz ts L c fr _ (hp.le h1) rt hn fun H2 h2 => arI_w ?_))
  have h02 := h1.trans h2
  have gg2 := (h2.get _ hg).trans gg
  have hg2 := h2.has _ hg
  refine joinX_w (fun x Hx => Hx = H2 ∧ x = ((p, n, ca, zz), id, .at g 0, rE L c id fr)) ?_ ?_
  · rintro x Hx ⟨rfl, rfl⟩
    simp only [pR_, fB_eq, iEq_dec]
    refine ifA_w (fun a => ?_) (fun a => ?_)
    · have ne : rE L c id fr ≠ 0 := by simpa using a
      have := hk Hx p n ca zz ts h02 (hp.le h02) (fun a ha => h02.has _ (hown a ha)) (fun a ha => .inl ha) (by unfold rL; rw [if_neg ne]; exact rt.rof) (by omega)
      unfold rN at this
      rw [if_neg ne] at this
      exact this
    · have e0 : rE L c id fr = 0 := by simpa using a
      have c0 : chkL L c fr = 0 := by
        unfold rE at e0
        split at e0
        · assumption
        · exact e0
      have pre := pre_chk c0 (chk_kind c0)
      have can : c.kind = 1 → canPut L id = true := fun k1 => by
        unfold rE at e0
        rw [if_pos c0] at e0
        cases h : canPut L id with
        | true => rfl
        | false => rw [if_pos ⟨k1, h⟩] at e0; cases e0
      have go : ∀ {K' : AV → AH → Bool}, (∀ H' p' c' z' us, Le Hx H' → Sl Hx H' p' us.length z' (thsC us) 11 → RowOf (doneL L c id) us → us.length ≤ n + 1 → K' (.s (.slice p' us.length c' z')) H' = true) → cl i_ref11_Done [.s (.slice p n ca zz), .agg (cmC c), .s (.int .i64 id)] Hx K' = true :=
        fun h => hdone Hx p n ca zz ts L c id _ (hp.le h02) rt hn pre can h
      have fin : ∀ H' p' c' z' us, Le Hx H' → Sl Hx H' p' us.length z' (thsC us) 11 → RowOf (doneL L c id) us → us.length ≤ n + 1 → K (.tup [.s (.slice p' us.length c' z'), .s (.int .i64 (rN L c id fr)), .s (.int .i64 (rE L c id fr))]) H' = true := fun H' p' c' z' us h' sl ro lo =>
        hk H' p' _ c' z' us (h02.trans h') (Sl.inT sl rfl) (fun a ha => (Sl.own sl).2 a ha) (fun a ha => .inr fun h => (Sl.own sl).1 a ha (h02.has _ h)) (by unfold rL; rw [if_pos e0]; exact ro) lo
      rw [e0] at fin
      simp only [nilK_at, fN_eq, Nat.add_eq, Nat.add_zero, Nat.zero_add]
      refine rowK_w gg2 (ldI_w (n := c.kind) rfl ?_)
      refine ifA_w (fun e1 => ?_) (fun e1 => ?_)
      · have k1 : c.kind = 1 := of_decide_eq_true e1
        refine rowK_w gg2 (ldG_we (ys := cmC c) (Nat.le_refl 22) (lb rfl) rfl (go fun H' p' c' z' us h' sl ro lo => ?_))
        rw [asSl_]
        have := fin H' p' c' z' us h' sl ro lo
        unfold rN at this
        rw [if_pos e0, if_pos k1] at this
        exact this
      · have k1 : ¬ c.kind = 1 := of_decide_eq_false e1
        refine rowK_w gg2 (ldG_we (ys := cmC c) (Nat.le_refl 22) (lb rfl) rfl (getK_w gg2 (rowK_w gg2 (ldI_w (n := c.id) rfl (go fun H' p' c' z' us h' sl ro lo => ?_)))))
        rw [asSl_]
        have := fin H' p' c' z' us h' sl ro lo
        unfold rN at this
        rw [if_pos e0, if_neg k1] at this
        exact okK_w (kSame_row ((h'.get _ hg2).trans gg2) (leafy_cm c) rfl) this
  · intro J hJ
    have hmem := rt.rof.mem rt.ids id
    rw [fB_eq, iEq_dec]
    refine ifA_w (fun a => ?_) (fun a => hJ _ _ ⟨rfl, by unfold rE; rw [if_neg (show ¬ chkL L c fr = 0 from of_decide_eq_false a)]⟩)
    have c0 : chkL L c fr = 0 := of_decide_eq_true a
    refine rowK_w gg2 (ldI_w (n := c.kind) rfl ?_)
    rw [fB_eq, iEq_dec]
    refine ifA_w (fun e1 => ?_) (fun e1 => hJ _ _ ⟨rfl, by unfold rE; rw [if_pos c0, if_neg fun h => (of_decide_eq_false e1) h.1, c0]⟩)
    have k1 : c.kind = 1 := of_decide_eq_true e1
    have no : canPut L id = false → rE L c id fr = 11 := fun h => by unfold rE; rw [if_pos c0, if_pos ⟨k1, h⟩]
    rw [fB_eq, iLt_dec]
    refine ifA_w (fun e3 => hJ _ _ ⟨rfl, by rw [no (by unfold canPut; rw [decide_eq_false (show ¬ 0 ≤ id from by have h : id < 0 := of_decide_eq_true e3; omega)]; simp)]; rfl⟩) (fun e3 => ?_)
    rw [fB_eq, iLt_dec]
    refine ifA_w (fun e4 => hJ _ _ ⟨rfl, by rw [no (by unfold canPut; rw [decide_eq_false (show ¬ id ≤ 1000000 from by have h : 1000000 < id := of_decide_eq_true e4; omega)]; simp)]; rfl⟩) (fun e4 => ?_)
    have b0 : 0 ≤ id := by have h : ¬ id < 0 := of_decide_eq_false e3; omega
    have b1 : id ≤ 1000000 := by have h : ¬ 1000000 < id := of_decide_eq_false e4; omega
    refine hat H2 p n ca zz ts id _ (hp.le h02) (by omega) fun r hr => arI_w ?_
    rw [fB_eq, iLe_dec]
    refine ifA_w (fun e5 => hJ _ _ ⟨rfl, ?_⟩) (fun e5 => hJ _ _ ⟨rfl, ?_⟩)
    · rcases hr with ⟨h0, i, hi, e, he⟩ | ⟨h0, _⟩
      · have hs : (aGet L id).isSome = true := hmem.2 ⟨_, List.getElem_mem hi, he⟩
        rw [no (by unfold canPut; rw [hs]; rfl)]; rfl
      · exact absurd (of_decide_eq_true e5) (by simp only [Int.ofNat_eq_natCast]; omega)
    · have hs : (aGet L id).isSome = false := by
        cases e : (aGet L id).isSome with
        | false => rfl
        | true =>
          obtain ⟨t, hm, ht⟩ := hmem.1 e
          rcases hr with ⟨h0, _⟩ | ⟨_, hno⟩
          · exact absurd h0 (by have := of_decide_eq_false e5; simp only [Int.ofNat_eq_natCast] at this; omega)
          · exact absurd ht (hno t hm)
      have hc : canPut L id = true := by unfold canPut; rw [hs, decide_eq_true b0, decide_eq_true b1]; rfl
      unfold rE
      rw [if_pos c0, if_neg fun h => by rw [hc] at h; exact absurd h.2 (by decide), c0]
end Go.Proofs
end
section
/- ActDoes: what was done is so; nobody else is changed; what was refused changed nothing. -/
namespace Go.Proofs
open Go Go.Vw Go.Vw.Ev
set_option linter.unusedVariables false
set_option linter.unusedSimpArgs false

/-! Few. -/
def CFewF11 (cl : Cl) : Prop := ∀ f H K, (∀ H' b, Le H H' → K (.s (.bool b)) H' = true) → cl i_law11_fewField [.agg (fdC f)] H K = true
theorem B_law11_fewField_ {lf : Nat} {cl : Cl} {f : Fd} {H : AH} {K : AV → AH → Bool} (hk : ∀ H' b, Le H H' → K (.s (.bool b)) H' = true) : B_law11_fewField lf cl (fdC f) H K = true := by
  unfold B_law11_fewField
  refine new_w fun g H1 h1 hg ng gg => ?_
  refine rowK_w gg (ldStr_w (p := f.s) rfl (fN_w ?_))
  rw [fB_eq]
  exact hk _ _ h1
def CFewT11 (cl : Cl) : Prop := ∀ t H K, (∀ H' b, Le H H' → K (.s (.bool b)) H' = true) → cl i_law11_fewThing [.agg (thC t)] H K = true
theorem thC_fdA (t : Th) : ∀ k : Nat, k < 4 → ((thC t).drop (3 + k * 2)).take 2 = fdC (t.fs k) := lt4 rfl rfl rfl rfl
theorem B_law11_fewThing_ {lf : Nat} {cl : Cl} (hlf : 10 ≤ lf) (hf : CFewF11 cl) {t : Th} {H : AH} {K : AV → AH → Bool} (hk : ∀ H' b, Le H H' → K (.s (.bool b)) H' = true) : B_law11_fewThing lf cl (thC t) H K = true := by
  unfold B_law11_fewThing
  refine new_w fun g H1 h1 hg ng gg => ?_
  refine loopX_w (fun x Hx => x.1 = .at g 0 ∧ Le H1 Hx ∧ ∃ i : Nat, x.2 = (i : Int) ∧ i ≤ 4) (fun x => 4 - x.2.toNat) ⟨rfl, Le.refl _, 0, rfl, by omega⟩ (by simp; omega) ?_
  rintro self ⟨x1, x2⟩ H2 ⟨e1, hL, i, e2, hi⟩ ih
  simp only at e1 e2
  subst e1 e2
  simp only [pR_, fB_eq, iLt_dec]
  refine ifA_w (fun hx => ?_) (fun hx => hk _ _ (h1.trans hL))
  have hx : i < 4 := by have h : (i : Int) < 4 := of_decide_eq_true hx; omega
  simp only [nilK_at, fN_eq, Nat.add_eq, Nat.zero_add]
  refine idxK_w (by omega) (by omega) ?_
  simp only [Int.toNat_natCast, Nat.mul_eq]
  refine rowK_w ((hL.get _ hg).trans gg) (ldG_we (by rw [thC_len]; omega) (by decide) (thC_fdA t i hx) (hf _ _ _ fun H3 b h3 => arB_w ?_))
  refine ifA_w (fun _ => hk _ _ (h1.trans (hL.trans h3))) (fun _ => ?_)
  rw [iAdd_]
  exact w64_w (by simp only [Int.ofNat_eq_natCast]; omega) (by simp only [Int.ofNat_eq_natCast]; omega) (ih _ _ ⟨rfl, hL.trans h3, i + 1, by simp, by omega⟩ (by simp; omega))
def CFewTs11 (lf : Nat) (cl : Cl) : Prop := ∀ H p n c ts K, InT H p n ts → n < lf → n ≤ 9223372036854775807 → (∀ H' b, Le H H' → (b = true → n ≤ 30) → K (.s (.bool b)) H' = true) → cl i_law11_fewThings [.s (.slice p n c 11)] H K = true
theorem B_law11_fewThings_ {lf : Nat} {cl : Cl} (hf : CFewT11 cl) {H : AH} {p : AP} {n : Nat} {c : ACap} {ts : List Th} {K : AV → AH → Bool} (hI : InT H p n ts) (hn : n < lf) (hmax : n ≤ 9223372036854775807) (hk : ∀ H' b, Le H H' → (b = true → n ≤ 30) → K (.s (.bool b)) H' = true) : B_law11_fewThings lf cl p n c 11 H K = true := by
  unfold B_law11_fewThings
  refine loopX_w (fun x Hx => x.1 = (p, n, c, 11) ∧ Le H Hx ∧ ∃ i : Nat, x.2 = (i : Int) ∧ i ≤ n) (fun x => n - x.2.toNat) ⟨rfl, Le.refl _, 0, rfl, by omega⟩ (by simp; omega) ?_
  rintro self ⟨x1, x2⟩ H2 ⟨e1, hL, i, e2, hi⟩ ih
  simp only at e1 e2
  subst e1 e2
  simp only [pR_, fB_eq, iLt_dec, iLe_dec]
  refine ifA_w (fun hx => ?_) (fun hx => hk _ _ hL fun h => by have := of_decide_eq_true h; simp only [Int.ofNat_eq_natCast] at this; omega)
  have hx : i < n := by have := of_decide_eq_true hx; simp only [Int.ofNat_eq_natCast] at this; omega
  refine (hI.le hL).read hx (hf _ _ _ fun H3 b h3 => arB_w ?_)
  refine ifA_w (fun _ => hk _ _ (hL.trans h3) fun h => (by cases h)) (fun _ => ?_)
  rw [iAdd_]
  exact w64_w (by simp only [Int.ofNat_eq_natCast]; omega) (by simp only [Int.ofNat_eq_natCast]; omega) (ih _ _ ⟨rfl, hL.trans h3, i + 1, by simp, by omega⟩ (by simp; omega))
def CFewC11 (cl : Cl) : Prop := ∀ c H K, (∀ H' b, Le H H' → K (.s (.bool b)) H' = true) → cl i_law11_fewCmd [.agg (cmC c)] H K = true
theorem cmC_str (c : Cm) : ∀ k : Nat, k < 4 → (cmC c)[6 + k * 2 + 1]? = some (.str (c.fs k).s) := lt4 rfl rfl rfl rfl
theorem B_law11_fewCmd_ {lf : Nat} {cl : Cl} (hlf : 10 ≤ lf) {c : Cm} {H : AH} {K : AV → AH → Bool} (hk : ∀ H' b, Le H H' → K (.s (.bool b)) H' = true) : B_law11_fewCmd lf cl (cmC c) H K = true := by
  unfold B_law11_fewCmd
  refine new_w fun g H1 h1 hg ng gg => ?_
  refine loopX_w (fun x Hx => x.1 = .at g 0 ∧ Hx = H1 ∧ ∃ i : Nat, x.2 = (i : Int) ∧ i ≤ 4) (fun x => 4 - x.2.toNat) ⟨rfl, rfl, 0, rfl, by omega⟩ (by simp; omega) ?_
  rintro self ⟨x1, x2⟩ H2 ⟨e1, rfl, i, e2, hi⟩ ih
  simp only at e1 e2
  subst e1 e2
  simp only [pR_, fB_eq, iLt_dec]
  refine ifA_w (fun hx => ?_) (fun hx => ?_)
  · have hx : i < 4 := by have h : (i : Int) < 4 := of_decide_eq_true hx; omega
    simp only [nilK_at, fN_eq, Nat.add_eq, Nat.zero_add]
    refine idxK_w (by omega) (by omega) ?_
    simp only [Int.toNat_natCast, Nat.mul_eq]
    refine rowK_w gg (ldStr_w (cmC_str c i hx) ?_)
    refine ifA_w (fun _ => hk _ _ h1) (fun _ => ?_)
    rw [iAdd_]
    exact w64_w (by simp only [Int.ofNat_eq_natCast]; omega) (by simp only [Int.ofNat_eq_natCast]; omega) (ih _ _ ⟨rfl, rfl, i + 1, by simp, by omega⟩ (by simp; omega))
  · simp only [nilK_at, fN_eq, Nat.add_eq, Nat.zero_add]
    exact rowK_w gg (ldStr_w (p := c.v.s) rfl (hk _ _ h1))
/-! What the table has, as a row. -/
noncomputable def view (L : List (Int × Th)) : List Th := (allT L).map (thOf L)
theorem putAll_lenA : ∀ (ts : List Th) (L : List (Int × Th)), (ts.foldl tputL L).length ≤ L.length + ts.length
  | [], L => by simp
  | t :: r, L => by
    have h := putAll_lenA r (tputL L t)
    have h2 : (tputL L t).length ≤ L.length + 1 := by
      unfold tputL
      split
      · have : ∀ (L : List (Int × Th)) (k : Int) (v : Th), (aSet L k v).length ≤ L.length + 1 := fun L => by
          induction L with
          | nil => intro k v; simp [aSet]
          | cons x r ih => intro k v; unfold aSet; split
                           · simp
                           · have := ih k v; simp only [List.length_cons]; omega
        exact this _ _ _
      · omega
    simp only [List.foldl_cons, List.length_cons]
    omega
theorem aSet_len (L : List (Int × Th)) (k : Int) (v : Th) : (aSet L k v).length ≤ L.length + 1 := by
  induction L with
  | nil => simp [aSet]
  | cons x r ih => unfold aSet; split
                   · simp
                   · simp only [List.length_cons]; omega
theorem aDel_len (L : List (Int × Th)) (k : Int) : (aDel L k).length ≤ L.length := by
  induction L with
  | nil => simp [aDel]
  | cons x r ih => unfold aDel; split
                   · simp only [List.length_cons]; omega
                   · simp only [List.length_cons]; omega
theorem TT.atA {H : AH} {g : Pn} {L : List (Int × Th)} {O : Pn → Prop} (h : TT H g L O) : (aKeys L).Nodup ∧ ∀ k ∈ aKeys L, (thOf L k).id = k := by
  have hn : (aKeys L).Nodup := by obtain ⟨m, q, Lq, Oq, tb, rfl⟩ := h; exact tb.nod
  exact ⟨hn, fun k hk => (h.at (mem_get.1 hk)).1⟩
theorem filter_srtI (p : Int → Bool) (l : List Int) : (srtI l).filter p = srtI (l.filter p) := by
  refine List.Perm.eq_of_pairwise (le := fun a b => a ≤ b) (fun a b _ _ h1 h2 => Int.le_antisymm h1 h2) ((srtI_sorted l).filter p) (srtI_sorted _) (((srtI_perm l).filter p).trans (srtI_perm _).symm)
theorem view_not {L : List (Int × Th)} (h : ∀ k ∈ aKeys L, (thOf L k).id = k) (id : Int) : (view L).filter (notId id) = (srtI ((aKeys L).filter fun k => decide (k ≠ id))).map (thOf L) := by
  unfold view allT
  rw [← filter_srtI, List.filter_map]
  congr 1
  refine List.filter_congr fun k hk => ?_
  show notId id (thOf L k) = _
  unfold notId
  rw [h k ((srtI_perm _).mem_iff.1 hk)]
/-- Nobody else is changed. -/
theorem view_same {L L' : List (Int × Th)} {id : Int} (h : ∀ k ∈ aKeys L, (thOf L k).id = k) (h' : ∀ k ∈ aKeys L', (thOf L' k).id = k) (hn : (aKeys L).Nodup) (hn' : (aKeys L').Nodup) (hg : ∀ k, k ≠ id → aGet L' k = aGet L k) : (view L).filter (notId id) = (view L').filter (notId id) := by
  rw [view_not h, view_not h']
  have hp : ((aKeys L).filter fun k => decide (k ≠ id)).Perm ((aKeys L').filter fun k => decide (k ≠ id)) := by
    refine (List.perm_ext_iff_of_nodup (hn.filter _) (hn'.filter _)).2 fun k => ?_
    simp only [List.mem_filter, decide_eq_true_eq]
    constructor
    · rintro ⟨h1, h2⟩; exact ⟨mem_get.2 (by rw [hg k h2]; exact mem_get.1 h1), h2⟩
    · rintro ⟨h1, h2⟩; exact ⟨mem_get.2 (by rw [← hg k h2]; exact mem_get.1 h1), h2⟩
  rw [srtI_perm_eq hp]
  refine List.map_congr_left fun k hk => ?_
  have hk := (List.mem_filter.1 ((srtI_perm _).mem_iff.1 hk)).2
  simp only [decide_eq_true_eq] at hk
  unfold thOf
  rw [hg k hk]
theorem view_id {L : List (Int × Th)} (h : ∀ k ∈ aKeys L, (thOf L k).id = k) {t : Th} (ht : t ∈ view L) : t.id ∈ aKeys L ∧ t = thOf L t.id := by
  obtain ⟨k, hk, rfl⟩ := List.mem_map.1 ht
  have hk := (srtI_perm _).mem_iff.1 hk
  rw [h k hk]
  exact ⟨hk, rfl⟩
theorem view_mem {L : List (Int × Th)} {k : Int} (hk : k ∈ aKeys L) : thOf L k ∈ view L := List.mem_map.2 ⟨k, (srtI_perm _).mem_iff.2 hk, rfl⟩
theorem Sl.keepT {O : Pn → Prop} {H0 H H' : AH} {p : AP} {n z : Nat} {ts : List Th} (h : Sl H0 H p n z (thsC ts) 11) (hn : ts.length = n) (ho : ∀ a, O a → H0.has a) (f : Fr O H H') : InT H' p n ts :=
  ⟨hn, fun h0 => by
    rcases h.rep with ⟨h1, _⟩ | ⟨g, rfl, _, hg, hh, hn⟩
    · exact absurd h1 h0
    · exact ⟨g, rfl, f.has _ hh, .inr ((f.get _ hh fun h' => hn (ho _ h')).trans hg)⟩⟩
theorem sub_take {l : List AS} {a o m : Nat} (h : o + m ≤ 11) : (l.drop (a + o)).take m = (((l.drop a).take 11).drop o).take m := by
  rw [List.drop_take, List.take_take, List.drop_drop, Nat.min_eq_left (by omega)]
theorem thOf_set (L : List (Int × Th)) (k : Int) (v : Th) : thOf (aSet L k v) k = v := by unfold thOf; rw [aGet_set_same]; rfl
def fs8 (t : Th) : List AS := fdC t.f0 ++ (fdC t.f1 ++ (fdC t.f2 ++ fdC t.f3))
theorem same_8 (t : Th) : cellsEqA (fs8 t) (fs8 t) = true := by
  simp only [fs8, fdC, List.cons_append, List.nil_append, cellsEqA, cellEqA, iEq_dec, sEq_dec, decide_true]
theorem same_2 (p : Pt) : cellsEqA (ptC p) (ptC p) = true := by simp only [ptC, cellsEqA, cellEqA, iEq_dec, decide_true]
theorem same_f (f : Fd) : cellsEqA (fdC f) (fdC f) = true := by simp only [fdC, cellsEqA, cellEqA, iEq_dec, sEq_dec, decide_true]
theorem setF_fd (t : Th) (v : Fd) : ∀ m : Nat, m < 4 → ((thC (setF t (m : Nat) v)).drop (3 + m * 2)).take 2 = fdC v := lt4 rfl rfl rfl rfl
end Go.Proofs
end
section
/- ActTells: the walk. -/
namespace Go.Proofs
open Go Go.Vw Go.Vw.Ev
set_option linter.unusedVariables false
set_option linter.unusedSimpArgs false

theorem ofE_144 {p : Pt} (h : ofE p ≠ 0) : ofE p = 14 := by
  unfold ofE at *
  split at h
  · exact absurd rfl h
  · rename_i hp; rw [if_neg hp]
theorem chk_act (L : List (Int × Th)) (c : Cm) : chkL L c false = checkE L c := by
  have h14 := @ofE_144 c.pt
  unfold chkL checkE
  grind
theorem rE_act (L : List (Int × Th)) (c : Cm) (id : Int) : rE L c id false = doE L c id := by
  unfold rE doE doneB
  rw [chk_act]
  grind
theorem done_can {L : List (Int × Th)} {c : Cm} {id : Int} (h : doE L c id = 0) (k1 : c.kind = 1) : canPut L id = true := by
  unfold doE at h
  split at h
  · rename_i hne; exact absurd h hne
  · split at h
    · rename_i hb; unfold doneB at hb; rw [if_pos k1] at hb; exact hb
    · cases h
theorem rN_act (L : List (Int × Th)) (c : Cm) (id : Int) : rN L c id false = doN L c id := by
  unfold rN doN
  rw [rE_act]
  by_cases h : doE L c id = 0
  · rw [if_pos h, if_pos h]
    unfold doneN
    by_cases k1 : c.kind = 1
    · rw [if_pos k1, if_pos k1, if_pos (done_can h k1)]
    · rw [if_neg k1, if_neg k1]
  · rw [if_neg h, if_neg h]
theorem rL_act (L : List (Int × Th)) (c : Cm) (id : Int) : rL L c id false = doL L c id := by
  unfold rL doL
  rw [rE_act]
theorem TT.rt {H : AH} {g : Pn} {L : List (Int × Th)} {O : Pn → Prop} (h : TT H g L O) {ts : List Th} (r : RowOf L ts) : RT L ts := by
  obtain ⟨nod, ids⟩ := TT.ids h
  refine ⟨r, nod, ids, fun t ht => ?_⟩
  have e := (r.2 t).1 ht
  have := (TT.at h (k := t.id) (by rw [e]; rfl)).2.1
  rw [thOf_get e] at this
  exact this
theorem B_law11_ActTells_ {lf : Nat} {cl : Cl} (hkn : CTrueA i_law11_known cl) (hfew : CFewTs11 lf cl) (hfewC : CFewC11 cl) (hof : CTOf cl) (hall : CTAll cl) (hcheck : CCheck cl) (hdo : CDo cl) (hrdo : CDo11 cl) (hrchk : CChk cl) (hsame : CSame6 cl)
    {H : AH} {p : AP} {n : Nat} {cc : ACap} {ts : List Th} {c : Cm} {id : Int} (hI : InT H p n ts) (hn : n < lf) (hmax : n ≤ 9223372036854775807) : B_law11_ActTells lf cl p n cc 11 (cmC c) id H isT = true := by
  unfold B_law11_ActTells
  refine new_w fun ga H1 h1 ha1 na ga1 => ?_
  rw [hkn]
  refine arB_w (fBf_w' rfl ?_)
  refine hfew _ _ _ _ _ _ (hI.le h1) hn hmax fun H2 b h2 hb => arB_w ?_
  rw [fB_eq]
  refine ifA_w (fun _ => rfl) (fun hb' => ?_)
  have h30 : n ≤ 30 := hb (by simpa using hb')
  refine rowK_w ((h2.get _ ha1).trans ga1) (ldG_we (ys := cmC c) (lb rfl) (lb rfl) rfl (hfewC _ _ _ fun H3 b2 h3 => arB_w ?_))
  rw [fB_eq]
  refine ifA_w (fun _ => rfl) (fun _ => ?_)
  have hL13 := h2.trans h3
  refine hof _ _ _ _ _ _ (hI.le (h1.trans hL13)) (by omega) fun H4 g O h4 tt hz => ?_
  rw [asP_]
  have hL30 : (putAll ts).length ≤ 30 := by have := putAll_lenA ts []; rw [hI.1] at this; simp only [List.length_nil, putAll] at *; omega
  generalize putAll ts = L at *
  obtain ⟨nod, ids⟩ := TT.ids tt
  have hl14 := hL13.trans h4
  have K4 : Keep H4 O ga (.row (cmC c)) := ⟨hl14.has _ ha1, (hl14.get _ ha1).trans ga1, fun h => hz _ h (hL13.has _ ha1)⟩
  refine hall H4 g L O _ tt (by omega) fun H5 p5 c5 z5 h5 sl5 => ?_
  rw [asSl_]
  have K5 := K4.le h5
  have rof := row_of_keys nod ids
  have rt := TT.rt tt rof
  have row5 : InT H5 p5 (allT L).length ((allT L).map (thOf L)) := Sl.inT sl5 (List.length_map _)
  have own5 := Sl.own sl5
  refine rowK_w K5.get (ldG_we (ys := cmC c) (lb rfl) (lb rfl) rfl ?_)
  refine hcheck H5 g L O c _ (tt.le h5) (by omega) fun H6 h6 => arI_w ?_
  have h46 := h5.trans h6
  refine hall H6 g L O _ (tt.le h46) (by omega) fun H7 p7 c7 z7 h7 sl7 => ?_
  rw [asSl_]
  have h57 := h6.trans h7
  have h47 := h5.trans h57
  have row7 : InT H7 p7 (allT L).length ((allT L).map (thOf L)) := Sl.inT sl7 (List.length_map _)
  have own7 := Sl.own sl7
  have K7 := K5.le h57
  refine rowK_w K7.get (ldG_we (ys := cmC c) (lb rfl) (lb rfl) rfl ?_)
  refine hdo H7 g L O c id _ (tt.le h47) (by omega) fun H8 O8 f8 t8 o8 => ?_
  rw [tup2_]
  refine arI_w (arI_w ?_)
  have K8 := K7.step f8 o8
  have no5 : ∀ a, ownP p5 a → ¬ O a := fun a ha h => own5.1 a ha (tt.has a h)
  have no7 : ∀ a, ownP p7 a → ¬ O a := fun a ha h => own7.1 a ha (h46.has _ (tt.has a h))
  have row58 := (row5.le h57).fr f8 no5
  have row78 := row7.fr f8 no7
  have hlenA := allT_len L
  refine rowK_w K8.get (ldG_we (ys := cmC c) (lb rfl) (lb rfl) rfl ?_)
  refine hrdo H8 p5 _ c5 z5 _ L c id false _ row58 (fun a ha => f8.has _ (h57.has _ (own5.2 a ha))) rt (by omega) fun H9 p9 n9 c9 z9 us h9 row9 own9 _ ro9 lu => ?_
  rw [tup3_, asSl_]
  refine arI_w (arI_w ?_)
  have K9 := K8.le h9
  refine rowK_w K9.get (ldG_we (ys := cmC c) (lb rfl) (lb rfl) rfl ?_)
  refine hrchk H9 p5 _ c5 z5 _ L c false _ (row58.le h9) rt (by omega) fun Ha ha => arI_w ?_
  simp only [fB_eq, iEq_dec]
  rw [chk_act, decide_eq_true rfl]
  refine ifA_w (fun _ => ?_) (fun h => by cases h)
  have h8a := h9.trans ha
  refine hsame _ _ _ _ _ _ _ _ _ _ _ _ (row78.le h8a) (row58.le h8a) (by omega) fun b hb => arB_w ?_
  obtain rfl : b = true := hb.2 rfl
  refine ifA_w (fun _ => ?_) (fun h => by cases h)
  rw [rN_act, decide_eq_true rfl]
  refine ifA_w (fun _ => ?_) (fun h => by cases h)
  rw [rE_act, decide_eq_true rfl]
  refine ifA_w (fun _ => ?_) (fun h => by cases h)
  rw [rL_act] at ro9
  have ta := t8.le h8a
  obtain ⟨nod8, ids8⟩ := TT.ids ta
  have lu2 := row_len ro9 nod8 ids8
  refine hall Ha g _ O8 _ ta (by omega) fun Hb pb cb zb hb slb => ?_
  rw [asSl_]
  refine hsame _ _ _ _ _ _ _ _ _ _ _ _ (Sl.inT slb (List.length_map _)) (row9.le (ha.trans hb)) (by rw [allT_len]; omega) fun b hb => arB_w ?_
  obtain rfl : b = true := hb.2 (all_row ro9 nod8 ids8)
  rfl
end Go.Proofs
end
