/- ActDoes: what was done is so; nobody else is changed; what was refused changed nothing. -/
import Derived.Test.YtnncbfpkeikfaaaDLaw11a
import Derived.Test.YtnncbfpkeikfaaaDLawB
import Derived.Test.YtnncbfpkeikfaaaDRef6
namespace Go.Proofs
open Go Go.Vw Go.Vw.Ev
set_option linter.unusedVariables false
set_option linter.unusedSimpArgs false

/-! Few. -/
def CFewF11 (cl : Cl) : Prop := ∀ f H K, (∀ H' b, Le H H' → K (.s (.bool b)) H' = true) → cl i_law11_fewField [.agg (fdC f)] H K = true
theorem B_law11_fewField_ {lf : Nat} {cl : Cl} {f : Fd} {H : AH} {K : AV → AH → Bool} (hk : ∀ H' b, Le H H' → K (.s (.bool b)) H' = true) : B_law11_fewField lf cl (fdC f) H K = true := by
  unfold B_law11_fewField
  refine new_w fun g H1 h1 hg ng gg => ?_
  refine rowK_w gg (ldStr_w (p := f.s) rfl (fN_w ?_))
  rw [fB_eq]
  exact hk _ _ h1
def CFewT11 (cl : Cl) : Prop := ∀ t H K, (∀ H' b, Le H H' → K (.s (.bool b)) H' = true) → cl i_law11_fewThing [.agg (thC t)] H K = true
theorem thC_fdA (t : Th) : ∀ k : Nat, k < 4 → ((thC t).drop (3 + k * 2)).take 2 = fdC (t.fs k) := lt4 rfl rfl rfl rfl
theorem B_law11_fewThing_ {lf : Nat} {cl : Cl} (hlf : 10 ≤ lf) (hf : CFewF11 cl) {t : Th} {H : AH} {K : AV → AH → Bool} (hk : ∀ H' b, Le H H' → K (.s (.bool b)) H' = true) : B_law11_fewThing lf cl (thC t) H K = true := by
  unfold B_law11_fewThing
  refine new_w fun g H1 h1 hg ng gg => ?_
  refine loopX_w (fun x Hx => x.1 = .at g 0 ∧ Le H1 Hx ∧ ∃ i : Nat, x.2 = (i : Int) ∧ i ≤ 4) (fun x => 4 - x.2.toNat) ⟨rfl, Le.refl _, 0, rfl, by omega⟩ (by simp; omega) ?_
  rintro self ⟨x1, x2⟩ H2 ⟨e1, hL, i, e2, hi⟩ ih
  simp only at e1 e2
  subst e1 e2
  simp only [pR_, fB_eq, iLt_dec]
  refine ifA_w (fun hx => ?_) (fun hx => hk _ _ (h1.trans hL))
  have hx : i < 4 := by have h : (i : Int) < 4 := of_decide_eq_true hx; omega
  simp only [nilK_at, fN_eq, Nat.add_eq, Nat.zero_add]
  refine idxK_w (by omega) (by omega) ?_
  simp only [Int.toNat_natCast, Nat.mul_eq]
  refine rowK_w ((hL.get _ hg).trans gg) (ldG_we (by rw [thC_len]; omega) (by decide) (thC_fdA t i hx) (hf _ _ _ fun H3 b h3 => arB_w ?_))
  refine ifA_w (fun _ => hk _ _ (h1.trans (hL.trans h3))) (fun _ => ?_)
  rw [iAdd_]
  exact w64_w (by simp only [Int.ofNat_eq_natCast]; omega) (by simp only [Int.ofNat_eq_natCast]; omega) (ih _ _ ⟨rfl, hL.trans h3, i + 1, by simp, by omega⟩ (by simp; omega))
def CFewTs11 (lf : Nat) (cl : Cl) : Prop := ∀ H p n c ts K, InT H p n ts → n < lf → n ≤ 9223372036854775807 → (∀ H' b, Le H H' → (b = true → n ≤ 30) → K (.s (.bool b)) H' = true) → cl i_law11_fewThings [.s (.slice p n c 11)] H K = true
theorem B_law11_fewThings_ {lf : Nat} {cl : Cl} (hf : CFewT11 cl) {H : AH} {p : AP} {n : Nat} {c : ACap} {ts : List Th} {K : AV → AH → Bool} (hI : InT H p n ts) (hn : n < lf) (hmax : n ≤ 9223372036854775807) (hk : ∀ H' b, Le H H' → (b = true → n ≤ 30) → K (.s (.bool b)) H' = true) : B_law11_fewThings lf cl p n c 11 H K = true := by
  unfold B_law11_fewThings
  refine loopX_w (fun x Hx => x.1 = (p, n, c, 11) ∧ Le H Hx ∧ ∃ i : Nat, x.2 = (i : Int) ∧ i ≤ n) (fun x => n - x.2.toNat) ⟨rfl, Le.refl _, 0, rfl, by omega⟩ (by simp; omega) ?_
  rintro self ⟨x1, x2⟩ H2 ⟨e1, hL, i, e2, hi⟩ ih
  simp only at e1 e2
  subst e1 e2
  simp only [pR_, fB_eq, iLt_dec, iLe_dec]
  refine ifA_w (fun hx => ?_) (fun hx => hk _ _ hL fun h => by have := of_decide_eq_true h; simp only [Int.ofNat_eq_natCast] at this; omega)
  have hx : i < n := by have := of_decide_eq_true hx; simp only [Int.ofNat_eq_natCast] at this; omega
  refine (hI.le hL).read hx (hf _ _ _ fun H3 b h3 => arB_w ?_)
  refine ifA_w (fun _ => hk _ _ (hL.trans h3) fun h => (by cases h)) (fun _ => ?_)
  rw [iAdd_]
  exact w64_w (by simp only [Int.ofNat_eq_natCast]; omega) (by simp only [Int.ofNat_eq_natCast]; omega) (ih _ _ ⟨rfl, hL.trans h3, i + 1, by simp, by omega⟩ (by simp; omega))
def CFewC11 (cl : Cl) : Prop := ∀ c H K, (∀ H' b, Le H H' → K (.s (.bool b)) H' = true) → cl i_law11_fewCmd [.agg (cmC c)] H K = true
theorem cmC_str (c : Cm) : ∀ k : Nat, k < 4 → (cmC c)[6 + k * 2 + 1]? = some (.str (c.fs k).s) := lt4 rfl rfl rfl rfl
theorem B_law11_fewCmd_ {lf : Nat} {cl : Cl} (hlf : 10 ≤ lf) {c : Cm} {H : AH} {K : AV → AH → Bool} (hk : ∀ H' b, Le H H' → K (.s (.bool b)) H' = true) : B_law11_fewCmd lf cl (cmC c) H K = true := by
  unfold B_law11_fewCmd
  refine new_w fun g H1 h1 hg ng gg => ?_
  refine loopX_w (fun x Hx => x.1 = .at g 0 ∧ Hx = H1 ∧ ∃ i : Nat, x.2 = (i : Int) ∧ i ≤ 4) (fun x => 4 - x.2.toNat) ⟨rfl, rfl, 0, rfl, by omega⟩ (by simp; omega) ?_
  rintro self ⟨x1, x2⟩ H2 ⟨e1, rfl, i, e2, hi⟩ ih
  simp only at e1 e2
  subst e1 e2
  simp only [pR_, fB_eq, iLt_dec]
  refine ifA_w (fun hx => ?_) (fun hx => ?_)
  · have hx : i < 4 := by have h : (i : Int) < 4 := of_decide_eq_true hx; omega
    simp only [nilK_at, fN_eq, Nat.add_eq, Nat.zero_add]
    refine idxK_w (by omega) (by omega) ?_
    simp only [Int.toNat_natCast, Nat.mul_eq]
    refine rowK_w gg (ldStr_w (cmC_str c i hx) ?_)
    refine ifA_w (fun _ => hk _ _ h1) (fun _ => ?_)
    rw [iAdd_]
    exact w64_w (by simp only [Int.ofNat_eq_natCast]; omega) (by simp only [Int.ofNat_eq_natCast]; omega) (ih _ _ ⟨rfl, rfl, i + 1, by simp, by omega⟩ (by simp; omega))
  · simp only [nilK_at, fN_eq, Nat.add_eq, Nat.zero_add]
    exact rowK_w gg (ldStr_w (p := c.v.s) rfl (hk _ _ h1))
/-! What the table has, as a row. -/
noncomputable def view (L : List (Int × Th)) : List Th := (allT L).map (thOf L)
theorem putAll_lenA : ∀ (ts : List Th) (L : List (Int × Th)), (ts.foldl tputL L).length ≤ L.length + ts.length
  | [], L => by simp
  | t :: r, L => by
    have h := putAll_lenA r (tputL L t)
    have h2 : (tputL L t).length ≤ L.length + 1 := by
      unfold tputL
      split
      · have : ∀ (L : List (Int × Th)) (k : Int) (v : Th), (aSet L k v).length ≤ L.length + 1 := fun L => by
          induction L with
          | nil => intro k v; simp [aSet]
          | cons x r ih => intro k v; unfold aSet; split
                           · simp
                           · have := ih k v; simp only [List.length_cons]; omega
        exact this _ _ _
      · omega
    simp only [List.foldl_cons, List.length_cons]
    omega
theorem aSet_len (L : List (Int × Th)) (k : Int) (v : Th) : (aSet L k v).length ≤ L.length + 1 := by
  induction L with
  | nil => simp [aSet]
  | cons x r ih => unfold aSet; split
                   · simp
                   · simp only [List.length_cons]; omega
theorem aDel_len (L : List (Int × Th)) (k : Int) : (aDel L k).length ≤ L.length := by
  induction L with
  | nil => simp [aDel]
  | cons x r ih => unfold aDel; split
                   · simp only [List.length_cons]; omega
                   · simp only [List.length_cons]; omega
theorem TT.atA {H : AH} {g : Pn} {L : List (Int × Th)} {O : Pn → Prop} (h : TT H g L O) : (aKeys L).Nodup ∧ ∀ k ∈ aKeys L, (thOf L k).id = k := by
  have hn : (aKeys L).Nodup := by obtain ⟨m, q, Lq, Oq, tb, rfl⟩ := h; exact tb.nod
  exact ⟨hn, fun k hk => (h.at (mem_get.1 hk)).1⟩
theorem filter_srtI (p : Int → Bool) (l : List Int) : (srtI l).filter p = srtI (l.filter p) := by
  refine List.Perm.eq_of_pairwise (le := fun a b => a ≤ b) (fun a b _ _ h1 h2 => Int.le_antisymm h1 h2) ((srtI_sorted l).filter p) (srtI_sorted _) (((srtI_perm l).filter p).trans (srtI_perm _).symm)
theorem view_not {L : List (Int × Th)} (h : ∀ k ∈ aKeys L, (thOf L k).id = k) (id : Int) : (view L).filter (notId id) = (srtI ((aKeys L).filter fun k => decide (k ≠ id))).map (thOf L) := by
  unfold view allT
  rw [← filter_srtI, List.filter_map]
  congr 1
  refine List.filter_congr fun k hk => ?_
  show notId id (thOf L k) = _
  unfold notId
  rw [h k ((srtI_perm _).mem_iff.1 hk)]
/-- Nobody else is changed. -/
theorem view_same {L L' : List (Int × Th)} {id : Int} (h : ∀ k ∈ aKeys L, (thOf L k).id = k) (h' : ∀ k ∈ aKeys L', (thOf L' k).id = k) (hn : (aKeys L).Nodup) (hn' : (aKeys L').Nodup) (hg : ∀ k, k ≠ id → aGet L' k = aGet L k) : (view L).filter (notId id) = (view L').filter (notId id) := by
  rw [view_not h, view_not h']
  have hp : ((aKeys L).filter fun k => decide (k ≠ id)).Perm ((aKeys L').filter fun k => decide (k ≠ id)) := by
    refine (List.perm_ext_iff_of_nodup (hn.filter _) (hn'.filter _)).2 fun k => ?_
    simp only [List.mem_filter, decide_eq_true_eq]
    constructor
    · rintro ⟨h1, h2⟩; exact ⟨mem_get.2 (by rw [hg k h2]; exact mem_get.1 h1), h2⟩
    · rintro ⟨h1, h2⟩; exact ⟨mem_get.2 (by rw [← hg k h2]; exact mem_get.1 h1), h2⟩
  rw [srtI_perm_eq hp]
  refine List.map_congr_left fun k hk => ?_
  have hk := (List.mem_filter.1 ((srtI_perm _).mem_iff.1 hk)).2
  simp only [decide_eq_true_eq] at hk
  unfold thOf
  rw [hg k hk]
theorem view_id {L : List (Int × Th)} (h : ∀ k ∈ aKeys L, (thOf L k).id = k) {t : Th} (ht : t ∈ view L) : t.id ∈ aKeys L ∧ t = thOf L t.id := by
  obtain ⟨k, hk, rfl⟩ := List.mem_map.1 ht
  have hk := (srtI_perm _).mem_iff.1 hk
  rw [h k hk]
  exact ⟨hk, rfl⟩
theorem view_mem {L : List (Int × Th)} {k : Int} (hk : k ∈ aKeys L) : thOf L k ∈ view L := List.mem_map.2 ⟨k, (srtI_perm _).mem_iff.2 hk, rfl⟩
theorem Sl.keepT {O : Pn → Prop} {H0 H H' : AH} {p : AP} {n z : Nat} {ts : List Th} (h : Sl H0 H p n z (thsC ts) 11) (hn : ts.length = n) (ho : ∀ a, O a → H0.has a) (f : Fr O H H') : InT H' p n ts :=
  ⟨hn, fun h0 => by
    rcases h.rep with ⟨h1, _⟩ | ⟨g, rfl, _, hg, hh, hn⟩
    · exact absurd h1 h0
    · exact ⟨g, rfl, f.has _ hh, .inr ((f.get _ hh fun h' => hn (ho _ h')).trans hg)⟩⟩
theorem sub_take {l : List AS} {a o m : Nat} (h : o + m ≤ 11) : (l.drop (a + o)).take m = (((l.drop a).take 11).drop o).take m := by
  rw [List.drop_take, List.take_take, List.drop_drop, Nat.min_eq_left (by omega)]
theorem thOf_set (L : List (Int × Th)) (k : Int) (v : Th) : thOf (aSet L k v) k = v := by unfold thOf; rw [aGet_set_same]; rfl
def fs8 (t : Th) : List AS := fdC t.f0 ++ (fdC t.f1 ++ (fdC t.f2 ++ fdC t.f3))
theorem same_8 (t : Th) : cellsEqA (fs8 t) (fs8 t) = true := by
  simp only [fs8, fdC, List.cons_append, List.nil_append, cellsEqA, cellEqA, iEq_dec, sEq_dec, decide_true]
theorem same_2 (p : Pt) : cellsEqA (ptC p) (ptC p) = true := by simp only [ptC, cellsEqA, cellEqA, iEq_dec, decide_true]
theorem same_f (f : Fd) : cellsEqA (fdC f) (fdC f) = true := by simp only [fdC, cellsEqA, cellEqA, iEq_dec, sEq_dec, decide_true]
theorem setF_fd (t : Th) (v : Fd) : ∀ m : Nat, m < 4 → ((thC (setF t (m : Nat) v)).drop (3 + m * 2)).take 2 = fdC v := lt4 rfl rfl rfl rfl
theorem B_law11_ActDoes_ {lf : Nat} {cl : Cl} (hkn : CTrueA i_law11_known cl) (hfew : CFewTs11 lf cl) (hfewC : CFewC11 cl) (hof : CTOf cl) (hall : CTAll cl) (hdo : CDo cl) (hsame : CSame6 cl) (hget : CTGet cl) (hat : CAt6 cl) (hwo : CWithout cl)
    {H : AH} {p : AP} {n : Nat} {cc : ACap} {ts : List Th} {c : Cm} {id : Int} (hI : InT H p n ts) (hn : n < lf) (hmax : n ≤ 9223372036854775807) : B_law11_ActDoes lf cl p n cc 11 (cmC c) id H isT = true := by
  unfold B_law11_ActDoes
  refine new_w fun ga H1 h1 ha1 na ga1 => ?_
  rw [hkn]
  refine arB_w (fBf_w' rfl ?_)
  refine hfew _ _ _ _ _ _ (hI.le h1) hn hmax fun H2 b h2 hb => arB_w ?_
  rw [fB_eq]
  refine ifA_w (fun _ => rfl) (fun hb' => ?_)
  have h30 : n ≤ 30 := hb (by simpa using hb')
  refine rowK_w ((h2.get _ ha1).trans ga1) (ldG_we (ys := cmC c) (lb rfl) (lb rfl) rfl (hfewC _ _ _ fun H3 b2 h3 => arB_w ?_))
  rw [fB_eq]
  refine ifA_w (fun _ => rfl) (fun _ => ?_)
  have hL13 := h2.trans h3
  refine hof _ _ _ _ _ _ (hI.le (h1.trans hL13)) (by omega) fun H4 g O h4 tt hz => ?_
  rw [asP_]
  have hL30 : (putAll ts).length ≤ 30 := by have := putAll_lenA ts []; rw [hI.1] at this; simp only [List.length_nil, putAll] at *; omega
  generalize putAll ts = L at *
  obtain ⟨nod, ids⟩ := tt.atA
  have hl14 := hL13.trans h4
  have K4 : Keep H4 O ga (.row (cmC c)) := ⟨hl14.has _ ha1, (hl14.get _ ha1).trans ga1, fun h => hz _ h (hL13.has _ ha1)⟩
  refine hall H4 g L O _ tt (by omega) fun H5 p5 c5 z5 h5 sl5 => ?_
  rw [asSl_]
  have K5 := K4.le h5
  refine rowK_w K5.get (ldG_we (ys := cmC c) (lb rfl) (lb rfl) rfl ?_)
  refine hdo H5 g L O c id _ (tt.le h5) (by omega) fun H6 O6 f6 t6 o6 => ?_
  rw [tup2_]
  refine arI_w (arI_w ?_)
  have K6 := K5.step f6 o6
  have lv : (view L).length = (allT L).length := List.length_map _
  have r6 : InT H6 p5 (allT L).length (view L) := Sl.keepT sl5 lv (fun a h => tt.has a h) f6
  have lenL : (allT L).length ≤ 30 := by rw [allT_len]; exact hL30
  have hl6 : (doL L c id).length < 10000 := by
    unfold doL doneL
    have := fun k v => aSet_len L k v
    have := fun k => aDel_len L k
    repeat' split
    all_goals first | omega | exact Nat.lt_of_le_of_lt (aSet_len L _ _) (by omega) | exact Nat.lt_of_le_of_lt (aDel_len L _) (by omega)
  refine hall H6 g _ O6 _ t6 hl6 fun H7 p7 c7 z7 h7 sl7 => ?_
  rw [asSl_]
  have K7 := K6.le h7
  have lv7 : (view (doL L c id)).length = (allT (doL L c id)).length := List.length_map _
  have s7 : InT H7 p7 (allT (doL L c id)).length (view (doL L c id)) := Sl.inT sl7 lv7
  have r7 := r6.le h7
  have t7 := t6.le h7
  obtain ⟨nod6, ids6⟩ := t6.atA
  rw [fB_eq, iEq_dec]
  refine ifA_w (fun he => ?_) (fun he => ?_)
  · have he : doE L c id ≠ 0 := fun h => by rw [decide_eq_true (show doE L c id = Int.ofNat 0 from h)] at he; cases he
    have e1 : doL L c id = L := by unfold doL; rw [if_neg he]
    have e2 : doN L c id = 0 := by unfold doN; rw [if_neg he]
    rw [e1] at s7 ⊢
    refine hsame _ _ _ _ _ _ _ _ _ _ _ _ r7 s7 (by omega) fun b hb => arB_w ?_
    rw [hb.2 rfl, e2]
    rfl
  · have he : doE L c id = 0 := by
      by_cases h : doE L c id = Int.ofNat 0
      · exact h
      · rw [decide_eq_false h] at he; cases he
    have e1 : doL L c id = doneL L c id := by unfold doL; rw [if_pos he]
    have e2 : doN L c id = doneN L c id := by unfold doN; rw [if_pos he]
    have hck : checkE L c = 0 ∧ doneB L c id = true := by
      unfold doE at he
      split at he
      · rename_i h; exact absurd he h
      · rename_i h
        refine ⟨Classical.not_not.1 h, ?_⟩
        cases hd : doneB L c id with
        | true => rfl
        | false => rw [if_neg (by rw [hd]; decide)] at he; cases he
    have pre := pre_of (.inl hck.1)
    rw [e1] at s7 t7 nod6 ids6 hl6 ⊢
    rw [e2]
    clear e1 e2 he h7 sl7 lv7 t6 o6 f6 r6
    obtain ⟨N, hN⟩ : ∃ N, N = doneN L c id := ⟨_, rfl⟩
    rw [← hN]
    have other : ∀ k, k ≠ N → aGet (doneL L c id) k = aGet L k := by
      intro k hk
      rw [hN] at hk
      unfold doneN at hk
      unfold doneL
      by_cases k1 : c.kind = 1
      · rw [if_pos k1] at hk ⊢
        have hc : canPut L id = true := by have := hck.2; unfold doneB at this; rw [if_pos k1] at this; exact this
        rw [if_pos hc] at hk ⊢
        exact aGet_set_ne _ _ hk
      · rw [if_neg k1] at hk ⊢
        split
        · exact aGet_set_ne _ _ hk
        split
        · exact aGet_set_ne _ _ hk
        · exact aGet_del_ne _ hk
    have vs := view_same (id := N) ids ids6 nod nod6 other
    refine hget H7 g _ O6 N _ t7 fun H8 h8 => ?_
    rw [tup2_, asG_]
    refine arB_w (tmp_w rfl rfl fun gx H9 h9 hx9 nx gx9 => ?_)
    have h79 := h8.trans h9
    refine hat _ _ _ _ _ _ N _ (r7.le h79) (by omega) fun r hr => arI_w ?_
    refine hwo _ _ _ _ _ _ N _ (r7.le h79) (by omega) fun H10 p10 c10 z10 h10 i10 => ?_
    rw [asSl_]
    refine hwo _ _ _ _ _ _ N _ (s7.le (h79.trans h10)) (by rw [allT_len]; exact hl6) fun H11 p11 c11 z11 h11 i11 => ?_
    rw [asSl_]
    have lf10 : ((view L).filter (notId N)).length < 100000 := Nat.lt_of_le_of_lt (List.length_filter_le _ _) (by omega)
    refine hsame _ _ _ _ _ _ _ _ _ _ _ _ (i10.le h11) i11 lf10 fun b hb => arB_w ?_
    rw [hb.2 vs]
    refine fBf_w' rfl ?_
    have h9b := h10.trans h11
    have K11 := K7.le (h79.trans h9b)
    have gx := (h9b.get _ hx9).trans gx9
    have r11 := r7.le (h79.trans h9b)
    refine rowK_w K11.get (ldI_w (n := c.kind) rfl ?_)
    simp only [fB_eq]
    rw [iEq_dec]
    refine ifA_w (fun e1 => ?_) (fun e1 => ?_)
    · have k1 : c.kind = 1 := of_decide_eq_true e1
      have hc : canPut L id = true := by have := hck.2; unfold doneB at this; rw [if_pos k1] at this; exact this
      have eN : N = id := by rw [hN]; unfold doneN; rw [if_pos k1, if_pos hc]
      have eL : doneL L c id = aSet L id (putT c id) := by unfold doneL; rw [if_pos k1, if_pos hc]
      rw [eL, eN] at gx ⊢
      have g1 : aGet (aSet L id (putT c id)) id = some (putT c id) := aGet_set_same _ _ _
      have th1 : thOf (aSet L id (putT c id)) id = putT c id := thOf_set _ _ _
      rw [th1] at gx
      rw [g1]
      refine (show ifA true _ _ = true from ?_)
      rw [ifA_t, iLt_dec]
      have hneg : r < 0 := by
        rcases hr with ⟨h0, i, hi, _, hid⟩ | ⟨h, _⟩
        · exfalso
          have := (view_id ids (List.getElem_mem hi)).1
          rw [hid, eN] at this
          have h2 := mem_get.1 this
          unfold canPut at hc
          rw [h2] at hc
          cases hc
        · exact h
      refine ifA_w (fun _ => ?_) (fun h => absurd hneg (of_decide_eq_false h))
      rw [iEq_dec]
      refine ifA_w (fun _ => ?_) (fun h => absurd rfl (of_decide_eq_false h))
      refine rowK_w gx (ldG_we (ys := thC (putT c id)) (lb rfl) (lb rfl) rfl (rowK_w K11.get (ldG_we (ys := ptC c.pt) (lb rfl) (lb rfl) rfl (rowK_w K11.get (ldG_we (ys := fsC c) (lb rfl) (lb rfl) rfl (okK_w rfl (okK_w rfl (fL_w (okK_w rfl ?_)))))))))
      rw [ap_eq, ap_eq, List.append_nil, show (AS.int .i64 id :: (ptC c.pt ++ fsC c)) = thC (putT c id) from rfl, thC_inj.2 rfl]
      rfl
    have k1 : ¬ c.kind = 1 := of_decide_eq_false e1
    have eN : N = c.id := by rw [hN]; unfold doneN; rw [if_neg k1]
    have hth := pre.there k1
    have hmem : c.id ∈ aKeys L := mem_get.2 hth
    have hr' : ∃ (i : Nat) (hi : i < (view L).length), r = (i : Int) ∧ (view L)[i] = thOf L c.id := by
      rcases hr with ⟨h0, i, hi, hri, hid⟩ | ⟨_, h⟩
      · refine ⟨i, hi, hri, ?_⟩
        rw [(view_id ids (List.getElem_mem hi)).2, hid, eN]
      · exact absurd ((ids _ hmem).trans eN.symm) (h _ (view_mem hmem))
    obtain ⟨i, hi, rfl, hri⟩ := hr'
    have hin : i < (allT L).length := by rw [← lv]; exact hi
    obtain ⟨gr, hpr, _, rr, rl, ra, _⟩ := r11.at hin
    rw [hri] at ra
    rw [eN] at gx ⊢
    have rsub : ∀ o m, o + m ≤ 11 → ((thsC (view L)).drop (i * 11 + o)).take m = ((thC (thOf L c.id)).drop o).take m := fun o m h => by rw [sub_take h, ra]
    rw [iEq_dec]
    refine ifA_w (fun e2 => ?_) (fun e2 => ?_)
    · have k2 : c.kind = 2 := of_decide_eq_true e2
      have eL : doneL L c id = aSet L c.id { thOf L c.id with pt := c.pt } := by unfold doneL; rw [if_neg k1, if_pos k2]
      rw [eL] at gx ⊢
      have g1 : aGet (aSet L c.id { thOf L c.id with pt := c.pt }) c.id = some { thOf L c.id with pt := c.pt } := aGet_set_same _ _ _
      have th1 : thOf (aSet L c.id { thOf L c.id with pt := c.pt }) c.id = { thOf L c.id with pt := c.pt } := thOf_set _ _ _
      rw [th1] at gx
      rw [g1]
      refine (show ifA true _ _ = true from ?_)
      rw [ifA_t, iLe_dec]
      refine ifA_w (fun _ => ?_) (fun h => absurd (show Int.ofNat 0 ≤ (i : Int) by simp) (of_decide_eq_false h))
      refine rowK_w gx (ldG_we (ys := ptC c.pt) (lb rfl) (lb rfl) rfl (rowK_w K11.get (ldG_we (ys := ptC c.pt) (lb rfl) (lb rfl) rfl (okK_w rfl ?_))))
      rw [same_2]
      refine (show ifA true _ _ = true from ?_)
      rw [ifA_t]
      refine rowK_w gx (ldG_we (ys := fs8 (thOf L c.id)) (lb rfl) (lb rfl) rfl ?_)
      subst hpr
      simp only [nilK_at, fN_eq, Nat.add_eq, Nat.mul_eq, Nat.zero_add]
      refine idxK_w (by omega) (by omega) (rowK_wo rr (ldG_we (ys := fs8 (thOf L c.id)) (by rw [Int.toNat_natCast]; omega) (by decide) (by rw [Int.toNat_natCast, rsub 3 8 (by decide)]; rfl) (okK_w rfl ?_)))
      rw [same_8]
      rfl
    have k2 : ¬ c.kind = 2 := of_decide_eq_false e2
    rw [iEq_dec]
    refine ifA_w (fun e3 => ?_) (fun e3 => ?_)
    · have k3 : c.kind = 3 := of_decide_eq_true e3
      obtain ⟨w0, w1⟩ := pre.set k3
      obtain ⟨w, hw⟩ := Int.eq_ofNat_of_zero_le w0
      have w4 : w < 4 := by omega
      have eL : doneL L c id = aSet L c.id (setF (thOf L c.id) c.which c.v) := by unfold doneL; rw [if_neg k1, if_neg k2, if_pos k3]
      rw [eL] at gx ⊢
      have g1 : aGet (aSet L c.id (setF (thOf L c.id) c.which c.v)) c.id = some (setF (thOf L c.id) c.which c.v) := aGet_set_same _ _ _
      have th1 : thOf (aSet L c.id (setF (thOf L c.id) c.which c.v)) c.id = setF (thOf L c.id) c.which c.v := thOf_set _ _ _
      rw [th1] at gx
      rw [g1]
      refine (show ifA true _ _ = true from ?_)
      rw [ifA_t, iLe_dec]
      refine ifA_w (fun _ => ?_) (fun h => absurd (show Int.ofNat 0 ≤ (i : Int) by simp) (of_decide_eq_false h))
      refine rowK_w gx (ldG_we (ys := ptC (thOf L c.id).pt) (by rw [thC_len]; decide) (lb rfl) (by rw [thC_1, (setF_id _ _ _).2]) ?_)
      subst hpr
      simp only [nilK_at, fN_eq, Nat.add_eq, Nat.mul_eq, Nat.zero_add]
      refine idxK_w (by omega) (by omega) (rowK_wo rr (ldG_we (ys := ptC (thOf L c.id).pt) (by rw [Int.toNat_natCast]; omega) (by decide) (by rw [Int.toNat_natCast, rsub 1 2 (by decide)]; rfl) (okK_w rfl ?_)))
      rw [same_2]
      refine (show ifA true _ _ = true from ?_)
      rw [ifA_t]
      refine rowK_w K11.get (ldI_w (n := c.which) rfl (idxK_w w0 (by omega) ?_))
      refine rowK_w gx (ldG_we (ys := fdC c.v) (by rw [thC_len, hw, Int.toNat_natCast]; omega) (by decide) (by rw [hw, Int.toNat_natCast]; exact setF_fd _ _ w w4) (rowK_w K11.get (ldG_we (ys := fdC c.v) (lb rfl) (lb rfl) rfl (okK_w rfl ?_))))
      rw [same_f]
      rfl
    have k3 : ¬ c.kind = 3 := of_decide_eq_false e3
    have eL : doneL L c id = aDel L c.id := by unfold doneL; rw [if_neg k1, if_neg k2, if_neg k3]
    rw [eL, aGet_del_same]
    refine (show ifA true _ _ = true from ?_)
    rw [ifA_t, iLe_dec, decide_eq_true (show Int.ofNat 0 ≤ (i : Int) by simp)]
    rfl
end Go.Proofs
