/- TableCells: all things together are those of all cells, each once. -/
import Derived.Test.YtplfaoobmdgiaaaDTab3
import Derived.Test.YtplfaoobmdgiaaaDD
import Derived.Test.YtplfaoobmdgiaaaBR
namespace Go.Proofs
open Go Go.Vw Go.Vw.Ev
set_option linter.unusedVariables false
set_option linter.unusedSimpArgs false

theorem fBf_w {b x y : Bool} (h : b = false) (hk : y = true) : fB b (fun b' => ifA b' x y) = true := by subst h; exact hk
def CFewF (cl : Cl) : Prop := ∀ f H K, (∀ H' b, Le H H' → K (.s (.bool b)) H' = true) → cl i_law9_fewField [.agg (fdC f)] H K = true
theorem B_law9_fewField_ {lf : Nat} {cl : Cl} {f : Fd} {H : AH} {K : AV → AH → Bool} (hk : ∀ H' b, Le H H' → K (.s (.bool b)) H' = true) : B_law9_fewField lf cl (fdC f) H K = true := by
  unfold B_law9_fewField
  refine new_w fun g H1 h1 hg ng gg => ?_
  refine rowK_w gg (ldStr_w (p := f.s) rfl (fN_w ?_))
  rw [fB_eq]
  exact hk _ _ h1
def CFewT (cl : Cl) : Prop := ∀ t H K, (∀ H' b, Le H H' → K (.s (.bool b)) H' = true) → cl i_law9_fewThing [.agg (thC t)] H K = true
theorem thC_fd (t : Th) : ∀ k : Nat, k < 4 → ((thC t).drop (3 + k * 2)).take 2 = fdC (t.fs k) := lt4 rfl rfl rfl rfl
theorem B_law9_fewThing_ {lf : Nat} {cl : Cl} (hlf : 10 ≤ lf) (hf : CFewF cl) {t : Th} {H : AH} {K : AV → AH → Bool} (hk : ∀ H' b, Le H H' → K (.s (.bool b)) H' = true) : B_law9_fewThing lf cl (thC t) H K = true := by
  unfold B_law9_fewThing
  refine new_w fun g H1 h1 hg ng gg => ?_
  refine loopX_w (fun x Hx => x.1 = .at g 0 ∧ Le H1 Hx ∧ ∃ i : Nat, x.2 = (i : Int) ∧ i ≤ 4) (fun x => 4 - x.2.toNat) ⟨rfl, Le.refl _, 0, rfl, by omega⟩ (by simp; omega) ?_
  rintro self ⟨x1, x2⟩ H2 ⟨e1, hL, i, e2, hi⟩ ih
  simp only at e1 e2
  subst e1 e2
  simp only [pR_, fB_eq, iLt_dec]
  refine ifA_w (fun hx => ?_) (fun hx => hk _ _ (h1.trans hL))
  have hx : i < 4 := by have h : (i : Int) < 4 := of_decide_eq_true hx; omega
  simp only [nilK_at, fN_eq, Nat.add_eq, Nat.zero_add]
  refine idxK_w (by omega) (by omega) ?_
  simp only [Int.toNat_natCast, Nat.mul_eq]
  refine rowK_w ((hL.get _ hg).trans gg) (ldG_we (by rw [thC_len]; omega) (by decide) (thC_fd t i hx) (hf _ _ _ fun H3 b h3 => arB_w ?_))
  refine ifA_w (fun _ => hk _ _ (h1.trans (hL.trans h3))) (fun _ => ?_)
  rw [iAdd_]
  exact w64_w (by simp only [Int.ofNat_eq_natCast]; omega) (by simp only [Int.ofNat_eq_natCast]; omega) (ih _ _ ⟨rfl, hL.trans h3, i + 1, by simp, by omega⟩ (by simp; omega))
/-- Few things, or not: whatever it tells, no more than thirty if they are few. -/
theorem B_law9_fewThings_ {lf : Nat} {cl : Cl} (hf : CFewT cl) {H : AH} {p : AP} {n : Nat} {c : ACap} {ts : List Th} {K : AV → AH → Bool} (hI : InT H p n ts) (hn : n < lf) (hmax : n ≤ 9223372036854775807) (hk : ∀ H' b, Le H H' → (b = true → n ≤ 30) → K (.s (.bool b)) H' = true) : B_law9_fewThings lf cl p n c 11 H K = true := by
  unfold B_law9_fewThings
  refine loopX_w (fun x Hx => x.1 = (p, n, c, 11) ∧ Le H Hx ∧ ∃ i : Nat, x.2 = (i : Int) ∧ i ≤ n) (fun x => n - x.2.toNat) ⟨rfl, Le.refl _, 0, rfl, by omega⟩ (by simp; omega) ?_
  rintro self ⟨x1, x2⟩ H2 ⟨e1, hL, i, e2, hi⟩ ih
  simp only at e1 e2
  subst e1 e2
  simp only [pR_, fB_eq, iLt_dec, iLe_dec]
  refine ifA_w (fun hx => ?_) (fun hx => hk _ _ hL fun h => by have := of_decide_eq_true h; simp only [Int.ofNat_eq_natCast] at this; omega)
  have hx : i < n := by have := of_decide_eq_true hx; simp only [Int.ofNat_eq_natCast] at this; omega
  refine (hI.le hL).read hx (hf _ _ _ fun H3 b h3 => arB_w ?_)
  refine ifA_w (fun _ => hk _ _ (hL.trans h3) fun h => (by cases h)) (fun _ => ?_)
  rw [iAdd_]
  exact w64_w (by simp only [Int.ofNat_eq_natCast]; omega) (by simp only [Int.ofNat_eq_natCast]; omega) (ih _ _ ⟨rfl, hL.trans h3, i + 1, by simp, by omega⟩ (by simp; omega))
def CFewTs (lf : Nat) (cl : Cl) : Prop := ∀ H p n c ts K, InT H p n ts → n < lf → n ≤ 9223372036854775807 → (∀ H' b, Le H H' → (b = true → n ≤ 30) → K (.s (.bool b)) H' = true) → cl i_law9_fewThings [.s (.slice p n c 11)] H K = true
theorem putAll_len : ∀ (ts : List Th) (L : List (Int × Th)), (ts.foldl tputL L).length ≤ L.length + ts.length
  | [], L => by simp
  | t :: r, L => by
    have h := putAll_len r (tputL L t)
    have h2 : (tputL L t).length ≤ L.length + 1 := by
      unfold tputL
      split
      · have : ∀ (L : List (Int × Th)) (k : Int) (v : Th), (aSet L k v).length ≤ L.length + 1 := fun L => by
          induction L with
          | nil => intro k v; simp [aSet]
          | cons x r ih => intro k v; unfold aSet; split
                           · simp
                           · have := ih k v; simp only [List.length_cons]; omega
        exact this _ _ _
      · omega
    simp only [List.foldl_cons, List.length_cons]
    omega
theorem TR.onT {H : AH} {g : Pn} {L : List (Int × Pt)} {O : Pn → Prop} (h : TR H g L O) : ∀ k ∈ aKeys L, On (posOf L k) = true := by
  obtain ⟨m, q, t, _⟩ := h
  exact fun k hk => on_sq.2 (t.inv.mem k (t.perm.mem_iff.2 hk))
theorem TT.atK {H : AH} {g : Pn} {L : List (Int × Th)} {O : Pn → Prop} (h : TT H g L O) : (aKeys L).Nodup ∧ ∀ k ∈ aKeys L, (aGet L k).isSome = true ∧ (thOf L k).id = k ∧ On (thOf L k).pt = true := by
  obtain ⟨m, q, Lq, Oq, tb, rfl⟩ := h
  refine ⟨tb.nod, fun k hk => ?_⟩
  have hs := mem_get.1 hk
  obtain ⟨t, ht⟩ := Option.isSome_iff_exists.1 hs
  have h1 := TR.onT tb.tr k ((tb.mem k).2 hk)
  have e : posOf Lq k = t.pt := by unfold posOf; rw [tb.pos, ht]; rfl
  refine ⟨hs, ?_⟩
  unfold thOf
  rw [ht]
  exact ⟨tb.ok k t ht, by show On t.pt = true; rw [← e]; exact h1⟩
/-- How many there are in the cells below one. -/
noncomputable def cum (L : List (Int × Th)) : Nat → Nat
  | 0 => 0
  | j + 1 => cum L j + (cellT L ((j : Int) - 1)).length
theorem cell_one (p : Pt) (h : On p = true) : 0 ≤ cellOf p ∧ cellOf p < 16 := by
  have : 0 ≤ p.x ∧ p.x < 64 ∧ 0 ≤ p.y ∧ p.y < 64 := by unfold On at h; simpa only [Bool.and_eq_true, decide_eq_true_eq] using h
  exact cellAt_b (by omega) (by omega) (by omega) (by omega)
theorem cum_keys {L : List (Int × Th)} (h : ∀ k ∈ aKeys L, On (thOf L k).pt = true) : ∀ j : Nat, j ≤ 17 → cum L j = ((aKeys L).filter fun k => decide (cellOf (thOf L k).pt < (j : Int) - 1)).length
  | 0, _ => by
    rw [List.filter_eq_nil_iff.2 fun k hk hr => by have := cell_one _ (h k hk); have := of_decide_eq_true hr; omega]
    rfl
  | j + 1, hj => by
    have ih := cum_keys h j (by omega)
    unfold cum
    rw [ih]
    have key : ∀ l : List Int, (∀ k ∈ l, On (thOf L k).pt = true) → (l.filter fun k => decide (cellOf (thOf L k).pt < (j : Int) - 1)).length + (l.filter fun k => decide (cellOf (thOf L k).pt = (j : Int) - 1)).length = (l.filter fun k => decide (cellOf (thOf L k).pt < ((j + 1 : Nat) : Int) - 1)).length := by
      intro l
      induction l with
      | nil => intro _; rfl
      | cons k r ih2 =>
        intro hl
        have := ih2 fun k hk => hl k (List.mem_cons_of_mem _ hk)
        simp only [List.filter_cons]
        by_cases h1 : cellOf (thOf L k).pt < (j : Int) - 1
        · rw [decide_eq_true h1, decide_eq_false (by omega), decide_eq_true (by omega)]
          simp only [if_true, List.length_cons, Bool.false_eq_true, if_false]; omega
        · by_cases h2 : cellOf (thOf L k).pt = (j : Int) - 1
          · rw [decide_eq_false h1, decide_eq_true h2, decide_eq_true (by omega)]
            simp only [if_true, List.length_cons, Bool.false_eq_true, if_false]; omega
          · rw [decide_eq_false h1, decide_eq_false h2, decide_eq_false (by omega)]
            simp only [Bool.false_eq_true, if_false]; omega
    rw [← key _ h]
    congr 1
    unfold cellT
    by_cases hc : isC ((j : Int) - 1) = true
    · rw [if_pos hc]
      have hb : 0 ≤ (j : Int) - 1 ∧ (j : Int) - 1 < 16 := by unfold isC at hc; simpa using hc
      unfold inT
      rw [srtI_len]
      congr 1
      refine List.filter_congr fun k hk => ?_
      have := cell_in hb.1 hb.2 (thOf L k).pt
      rw [h k hk] at this
      cases hr : RIn (cellR ((j : Int) - 1)) (thOf L k).pt with
      | true => rw [decide_eq_true (this.1 hr).2]
      | false => rw [decide_eq_false fun e => by rw [this.2 ⟨rfl, e⟩] at hr; cases hr]
    · rw [if_neg hc]
      rw [List.filter_eq_nil_iff.2 fun k hk hr => ?_]
      have := cell_one _ (h k hk)
      have e := of_decide_eq_true hr
      exact hc (by unfold isC; rw [decide_eq_true (by omega : 0 ≤ (j : Int) - 1), decide_eq_true (by omega : (j : Int) - 1 < 16)]; rfl)
theorem cum_all {L : List (Int × Th)} (h : ∀ k ∈ aKeys L, On (thOf L k).pt = true) : cum L 18 = L.length := by
  have e : cum L 18 = cum L 17 + (cellT L 16).length := rfl
  rw [e, cum_keys h 17 (by omega), List.filter_eq_self.2 fun k hk => ?_]
  · have : cellT L 16 = [] := by unfold cellT; rw [if_neg (by decide)]
    rw [this]; simp [aKeys]
  · have := cell_one _ (h k hk)
    exact decide_eq_true (by omega)
theorem cells_strict {L : List (Int × Th)} {c : Int} (hn : (aKeys L).Nodup) {i j : Nat} (hj : j < (cellT L c).length) (h : i < j) : (cellT L c)[i] < (cellT L c)[j] := by
  have key : ∀ l : List Int, l = cellT L c → ∀ (hj : j < l.length), l[i]'(by omega) < l[j] := by
    intro l hl hj
    unfold cellT at hl
    split at hl
    · subst hl
      exact srtI_strict (hn.filter _) hj h
    · subst hl; simp at hj
  exact key _ rfl hj
theorem cells_mem {L : List (Int × Th)} {c k : Int} (h : k ∈ cellT L c) : k ∈ aKeys L := by
  unfold cellT at h
  split at h
  · unfold inT at h
    exact (List.mem_filter.1 ((srtI_perm _).mem_iff.1 h)).1
  · cases h
theorem same_thT (t : Th) : cellsEqA (thC t) (thC t) = true := by
  simp only [thC, ptC, fdC, List.cons_append, List.nil_append, cellsEqA, cellEqA, iEq_dec, sEq_dec, decide_true]
theorem inT_lenC (L : List (Int × Th)) (c : Int) : (cellT L c).length ≤ L.length := by
  unfold cellT
  split
  · exact inT_len L _
  · simp
theorem cum_le {L : List (Int × Th)} : ∀ j : Nat, cum L j ≤ j * L.length
  | 0 => by simp [cum]
  | j + 1 => by have := cum_le (L := L) j; have := inT_lenC L ((j : Int) - 1); unfold cum; rw [Nat.add_mul]; omega
theorem B_law9_TableCells_ {lf : Nat} {cl : Cl} (hlf : 1000 ≤ lf) (hkn : CTrue i_law9_known cl) (hfew : CFewTs lf cl) (hof : CTOf cl) (hcell : CTCell cl) (hget : CTGet cl) (hlen : CTLen cl) (hall : CTAll cl) {H : AH} {p : AP} {n : Nat} {c : ACap} {ts : List Th} (hI : InT H p n ts) (hn : n < lf) (hmax : n ≤ 9223372036854775807) :
    B_law9_TableCells lf cl p n c 11 H isT = true := by
  unfold B_law9_TableCells
  rw [hkn]
  refine arB_w (fBf_w rfl ?_)
  refine hfew _ _ _ _ _ _ hI hn hmax fun H1 b h1 hb => arB_w ?_
  rw [fB_eq]
  refine ifA_w (fun _ => rfl) (fun hb' => ?_)
  have h30 : n ≤ 30 := hb (by simpa using hb')
  refine hof _ _ _ _ _ _ (hI.le h1) (by omega) fun H2 g O h2 tt hz => ?_
  rw [asP_]
  have hL30 : (putAll ts).length ≤ 30 := by have := putAll_len ts []; rw [hI.1] at this; simp only [List.length_nil, putAll] at *; omega
  generalize putAll ts = L at *
  obtain ⟨hnod, hk⟩ := tt.atK
  refine loopX_w (fun x Hx => x.1 = .at g 0 ∧ TT Hx g L O ∧ ∃ j : Nat, x.2.2 = (j : Int) - 1 ∧ j ≤ 18 ∧ x.2.1 = (cum L j : Nat)) (fun x => 20 - (x.2.2 + 1).toNat) ⟨rfl, tt, 0, rfl, by omega, rfl⟩ (by simp; omega) ?_
  clear tt hz hI
  rintro self ⟨x1, x2, x3⟩ H3 ⟨e1, tt, j, e3, hj, e2⟩ ih
  simp only at e1 e2 e3
  subst e1 e2 e3
  simp only [pR_, fB_eq, iLt_dec, iLe_dec]
  have hcj := cum_le (L := L) j
  have hc1 : cum L j ≤ 600 := Nat.le_trans hcj (Nat.le_trans (Nat.mul_le_mul hj hL30) (by decide))
  refine ifA_w (fun hx => ?_) (fun hx => ?_)
  · have hx : j < 18 := by have := of_decide_eq_true hx; simp only [Int.ofNat_eq_natCast, Int.cast_ofNat_Int] at this; omega
    refine hcell H3 g L O _ _ tt (by omega) fun H4 p4 c4 z4 h4 sl4 => ?_
    rw [asSl_]
    have hcl := inT_lenC L ((j : Int) - 1)
    refine loopX_w (fun x Hx => x.1 = .at g 0 ∧ x.2.1 = (cum L j : Nat) ∧ x.2.2.1 = (j : Int) - 1 ∧ x.2.2.2.1 = (p4, (cellT L ((j : Int) - 1)).length, c4, z4) ∧ Le H4 Hx ∧ ∃ i : Nat, x.2.2.2.2 = (i : Int) ∧ i ≤ (cellT L ((j : Int) - 1)).length) (fun x => 100 - x.2.2.2.2.toNat)
      ⟨rfl, rfl, rfl, rfl, Le.refl _, 0, rfl, by omega⟩ (by simp; omega) ?_
    rintro self2 ⟨y1, y2, y3, y4, y5⟩ H5 ⟨e1, e2, e3, e4, h5, i, e5, hi⟩ ih2
    simp only at e1 e2 e3 e4 e5
    subst e1 e2 e3 e4 e5
    have t5 := tt.le (h4.trans h5)
    simp only [pR_, fB_eq, iLt_dec, iLe_dec]
    refine ifA_w (fun hy => ?_) (fun hy => ?_)
    · have hy : i < (cellT L ((j : Int) - 1)).length := by have := of_decide_eq_true hy; simp only [Int.ofNat_eq_natCast] at this; omega
      have row : ∀ (a : Nat) (ha : a < (cellT L ((j : Int) - 1)).length), ∃ g6, p4 = .at g6 0 ∧ H4.has g6 ∧ H4.get g6 = some (.row (thsC ((cellT L ((j : Int) - 1)).map (thOf L)))) ∧ ((thsC ((cellT L ((j : Int) - 1)).map (thOf L))).drop (a * 11)).take 11 = thC (thOf L (cellT L ((j : Int) - 1))[a]) := fun a ha => by
        rcases sl4.rep with ⟨h0, _⟩ | ⟨g6, hp, _, hg6, hh6, _⟩
        · omega
        · refine ⟨g6, hp, hh6, hg6, ?_⟩
          have := thsC_at ((cellT L ((j : Int) - 1)).map (thOf L)) a (by rw [List.length_map]; exact ha)
          rw [this, List.getElem_map]
      have len : (thsC ((cellT L ((j : Int) - 1)).map (thOf L))).length = (cellT L ((j : Int) - 1)).length * 11 := by rw [thsC_len, List.length_map]
      obtain ⟨g6, rfl, hh6, hg6, at6⟩ := row i hy
      have idc : ∀ (a : Nat) (ha : a < (cellT L ((j : Int) - 1)).length), (thsC ((cellT L ((j : Int) - 1)).map (thOf L)))[a * 11]? = some (.int .i64 (cellT L ((j : Int) - 1))[a]) := fun a ha => by
        obtain ⟨_, _, _, _, at'⟩ := row a ha
        have := congrArg (·[0]?) at'
        rw [List.getElem?_take_of_lt (by decide), List.getElem?_drop, Nat.add_zero] at this
        rw [this]
        show some (AS.int .i64 (thOf L _).id) = _
        rw [(hk _ (cells_mem (List.getElem_mem ha))).2.1]
      have gg := (h5.get _ hh6).trans hg6
      simp only [nilK_at, fN_eq, Nat.add_eq, Nat.mul_eq, Nat.zero_add, Nat.add_zero]
      refine idxK_w (by omega) (by omega) (rowK_w gg (ldI_w (by rw [Int.toNat_natCast]; exact idc i hy) ?_))
      have hki := hk _ (cells_mem (List.getElem_mem hy))
      refine hget H5 g L O _ _ t5 fun H6 h6 => ?_
      rw [tup2_, asG_, hki.1]
      refine arB_w (tmp_w rfl rfl fun gx H7 h7 hx7 nx gx7 => ?_)
      have h57 := h6.trans h7
      have hh5 := h5.has _ hh6
      have gg7 := (h57.get _ hh5).trans gg
      refine (show ifA false _ _ = true from ?_)
      rw [ifA_f]
      refine rowK_w gx7 (ldG_we (by rw [thC_len]; decide) (by decide) (thC_all _) ?_)
      refine idxK_w (by omega) (by omega) (rowK_w gg7 (ldG_we (ys := thC (thOf L (cellT L ((j : Int) - 1))[i])) (by rw [len, Int.toNat_natCast]; omega) (by decide) (by rw [Int.toNat_natCast]; exact at6) (okK_w rfl ?_)))
      rw [same_thT]
      refine (show ifA false _ _ = true from ?_)
      rw [ifA_f]
      have nx : (w64 (iAdd (i : Int) (Int.ofNat 1)) fun n79 => self2 (.at g 0, (cum L j : Nat), (j : Int) - 1, (.at g6 0, (cellT L ((j : Int) - 1)).length, c4, z4), n79) H7) = true :=
        w64_w (by simp only [iAdd_, Int.ofNat_eq_natCast]; omega) (by simp only [iAdd_, Int.ofNat_eq_natCast]; omega) (ih2 _ _ ⟨rfl, rfl, rfl, rfl, h5.trans h57, i + 1, by simp [iAdd_], by omega⟩ (by simp [iAdd_]; omega))
      refine ifA_w (fun hi0 => ?_) (fun _ => nx)
      have hi0 : 0 < i := by have := of_decide_eq_true hi0; simp only [Int.ofNat_eq_natCast] at this; omega
      rw [iSub_]
      refine w64_w (by simp only [Int.ofNat_eq_natCast]; omega) (by simp only [Int.ofNat_eq_natCast]; omega) ?_
      have e9 : ((i : Int) - Int.ofNat 1).toNat = i - 1 := by simp only [Int.ofNat_eq_natCast]; omega
      refine idxK_w (by simp only [Int.ofNat_eq_natCast]; omega) (by simp only [Int.ofNat_eq_natCast]; omega) (rowK_w gg7 (ldI_w (by rw [e9]; exact idc (i - 1) (by omega)) ?_))
      refine idxK_w (by omega) (by omega) (rowK_w gg7 (ldI_w (by rw [Int.toNat_natCast]; exact idc i hy) ?_))
      have := cells_strict (c := (j : Int) - 1) hnod hy (show i - 1 < i by omega)
      refine ifA_w (fun h => absurd (of_decide_eq_true h) (by omega)) (fun _ => nx)
    · have hy : i = (cellT L ((j : Int) - 1)).length := by have := of_decide_eq_false hy; simp only [Int.ofNat_eq_natCast] at this; omega
      rw [iAdd_, iAdd_]
      have e : cum L (j + 1) = cum L j + (cellT L ((j : Int) - 1)).length := rfl
      refine w64_w (by simp only [Int.ofNat_eq_natCast]; omega) (by simp only [Int.ofNat_eq_natCast]; omega) (w64_w (by simp only [Int.ofNat_eq_natCast]; omega) (by simp only [Int.ofNat_eq_natCast]; omega) (ih _ _ ⟨rfl, t5, j + 1, by simp only [Int.ofNat_eq_natCast]; omega, by omega, by rw [e]; simp⟩ (by simp only [Int.ofNat_eq_natCast]; omega)))
  · have hx : j = 18 := by have := of_decide_eq_false hx; simp only [Int.ofNat_eq_natCast, Int.cast_ofNat_Int] at this; omega
    subst hx
    have e := cum_all fun k hk' => (hk k hk').2.2
    refine hlen H3 g L O _ tt (arI_w ?_)
    rw [e]
    refine ifA_w (fun _ => ?_) (fun h => absurd h (by rw [iEq_dec]; simp))
    refine hall H3 g L O _ tt (by omega) fun H4 p4 c4 z4 h4 sl4 => ?_
    rw [asSl_, allT_len, iEq_dec, decide_eq_true (show ((L.length : Nat) : Int) = Int.ofNat L.length from rfl)]
    rfl
end Go.Proofs
