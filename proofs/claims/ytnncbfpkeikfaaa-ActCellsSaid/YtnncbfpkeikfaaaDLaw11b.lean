/- ActCells: so many are put into a cell, and no more; moved there neither; within it they move. -/
import Derived.Test.YtnncbfpkeikfaaaDLaw11a
namespace Go.Proofs
open Go Go.Vw Go.Vw.Ev
set_option linter.unusedVariables false
set_option linter.unusedSimpArgs false

theorem wrapu8 {n : Int} (h0 : 0 ≤ n) (h1 : n ≤ 255) : IntKind.wrap .u8 n = n := by
  obtain ⟨m, rfl⟩ := Int.eq_ofNat_of_zero_le h0
  have key : ∀ i : Fin 256, IntKind.wrap .u8 (i.val : Nat) = (i.val : Nat) := by decide +kernel
  exact key ⟨m, by omega⟩
theorem cellOf_b {p : Pt} (h : On p = true) : 0 ≤ cellOf p ∧ cellOf p < 16 := by
  have := on_b h
  exact cellAt_b (by omega) (by omega) (by omega) (by omega)
theorem cellT_count {L : List (Int × Th)} {p : Pt} (h : On p = true) : (cellT L (ofC p)).length = ((aKeys L).filter fun k => RIn (cellR (cellOf p)) (thOf L k).pt).length := by
  have hb := cellOf_b h
  have e : ofC p = cellOf p := by unfold ofC; rw [if_pos h]
  unfold cellT
  rw [e, if_pos (by unfold isC; rw [decide_eq_true hb.1, decide_eq_true hb.2]; rfl)]
  unfold inT
  rw [srtI_len]
/-- So many things at one place, numbered from 0 on. -/
structure AllAt (L : List (Int × Th)) (p : Pt) (m : Nat) : Prop where
  len : L.length = m
  keys : ∀ k, k ∈ aKeys L ↔ 0 ≤ k ∧ k < m
  pt : ∀ k ∈ aKeys L, (thOf L k).pt = p
theorem AllAt.count {L : List (Int × Th)} {p q : Pt} {m : Nat} (h : AllAt L p m) (hp : On p = true) (hq : On q = true) : ((aKeys L).filter fun k => RIn (cellR (cellOf q)) (thOf L k).pt).length = if cellOf p = cellOf q then m else 0 := by
  have hb := cellOf_b hq
  split
  · rename_i e
    rw [List.filter_eq_self.2 fun k hk => by rw [h.pt k hk]; exact (cell_in hb.1 hb.2 p).2 ⟨hp, e⟩]
    have := h.len
    simpa [aKeys] using this
  · rename_i e
    rw [List.filter_eq_nil_iff.2 fun k hk hr => by rw [h.pt k hk] at hr; exact e ((cell_in hb.1 hb.2 p).1 hr).2]
    rfl
theorem AllAt.add {L : List (Int × Th)} {p : Pt} {m : Nat} (h : AllAt L p m) : AllAt (aSet L (m : Int) (putT (putC p) m)) p (m + 1) := by
  have hn : (m : Int) ∉ aKeys L := fun hk => by have := (h.keys _).1 hk; omega
  refine ⟨?_, fun k => ?_, fun k hk => ?_⟩
  · have := congrArg List.length (aKeys_set_new L (putT (putC p) m) hn)
    have h2 := h.len
    simp only [aKeys, List.length_map, List.length_append, List.length_cons, List.length_nil] at this
    omega
  · rw [aKeys_set_new _ _ hn, List.mem_append, List.mem_singleton, h.keys]
    omega
  · unfold thOf
    by_cases e : k = (m : Int)
    · subst e; rw [aGet_set_same]; rfl
    · rw [aGet_set_ne _ _ e]
      rw [aKeys_set_new _ _ hn, List.mem_append, List.mem_singleton] at hk
      exact h.pt k (hk.resolve_right e)
theorem AllAt.count_add {L : List (Int × Th)} {p q : Pt} {m : Nat} {k : Int} {T : Th} (h : AllAt L p m) (hk : k ∉ aKeys L) (hp : On p = true) (hq : On q = true) (hT : cellOf T.pt ≠ cellOf q) :
    ((aKeys (aSet L k T)).filter fun j => RIn (cellR (cellOf q)) (thOf (aSet L k T) j).pt).length = if cellOf p = cellOf q then m else 0 := by
  rw [← h.count hp hq, aKeys_set_new _ _ hk, List.filter_append, List.length_append]
  have hb := cellOf_b hq
  have e1 : ([k].filter fun j => RIn (cellR (cellOf q)) (thOf (aSet L k T) j).pt) = [] := List.filter_eq_nil_iff.2 fun j hj hr => by
    rw [List.mem_singleton.1 hj] at hr
    unfold thOf at hr
    rw [aGet_set_same] at hr
    exact hT ((cell_in hb.1 hb.2 _).1 hr).2
  rw [e1, List.length_nil, Nat.add_zero]
  congr 1
  refine List.filter_congr fun j hj => ?_
  have hne : j ≠ k := fun e => hk (e ▸ hj)
  unfold thOf
  rw [aGet_set_ne L T hne]
theorem len_old {L : List (Int × Th)} {k : Int} {T : Th} (h : k ∈ aKeys L) : (aSet L k T).length = L.length := by
  have := congrArg List.length (aKeys_set_old L T h)
  simpa [aKeys] using this
theorem aGet_isSome {L : List (Int × Th)} {k : Int} : (aGet L k).isSome = true ↔ k ∈ aKeys L := mem_get.symm
theorem not_some {L : List (Int × Th)} {k : Int} (h : k ∉ aKeys L) : (aGet L k).isSome = false := by
  cases e : (aGet L k).isSome with
  | false => rfl
  | true => exact absurd (aGet_isSome.1 e) h
theorem B_law11_ActCells_ {lf : Nat} {cl : Cl} (hlf : 1000 ≤ lf) (hkn : CTrueA i_law11_known cl) (hnew : CTNew cl) (hdo : CDo cl) {H : AH} {c n x y : Int} (hc : 0 ≤ c ∧ c ≤ 255) (hn : 0 ≤ n ∧ n ≤ 255) (hx : 0 ≤ x ∧ x ≤ 255) (hy : 0 ≤ y ∧ y ≤ 255) : B_law11_ActCells lf cl c n x y H isT = true := by
  unfold B_law11_ActCells
  rw [hkn]
  refine arB_w (fBf_w' rfl (fI_w ?_))
  have tm : ∀ {z m : Int}, 0 ≤ z → Int.tmod z m = z % m := fun h => Int.tmod_eq_emod_of_nonneg h
  have e1 : Int.tmod c (Int.ofNat 4) = c % 4 := tm hc.1
  have e2 : Int.tdiv c (Int.ofNat 4) = c / 4 := Int.tdiv_eq_ediv_of_nonneg hc.1
  have e3 : IntKind.wrap .u8 (c / 4) = c / 4 := wrapu8 (by omega) (by omega)
  have e4 : Int.tmod (c / 4) (Int.ofNat 4) = c / 4 % 4 := tm (by omega)
  have e5 : Int.tmod x (Int.ofNat 16) = x % 16 := tm hx.1
  have e6 : Int.tmod y (Int.ofNat 16) = y % 16 := tm hy.1
  have e7 : Int.tmod n (Int.ofNat 12) = n % 12 := tm hn.1
  simp only [wrapK_eq, e1, e2, e3, e4, e5, e6, e7]
  simp only [iMul_, iAdd_, Int.ofNat_eq_natCast, Int.cast_ofNat_Int]
  obtain ⟨a, ha⟩ : ∃ a, a = c % 4 := ⟨_, rfl⟩
  obtain ⟨b, hb⟩ : ∃ b, b = c / 4 % 4 := ⟨_, rfl⟩
  obtain ⟨u, hu⟩ : ∃ u, u = x % 16 := ⟨_, rfl⟩
  obtain ⟨v, hv⟩ : ∃ v, v = y % 16 := ⟨_, rfl⟩
  obtain ⟨m, hm⟩ : ∃ m : Nat, (m : Int) = n % 12 := ⟨(n % 12).toNat, by omega⟩
  rw [← ha, ← hb, ← hu, ← hv, ← hm]
  have a0 : 0 ≤ a ∧ a < 4 := by omega
  have b0 : 0 ≤ b ∧ b < 4 := by omega
  have u0 : 0 ≤ u ∧ u < 16 := by omega
  have v0 : 0 ≤ v ∧ v < 16 := by omega
  have m0 : m < 12 := by omega
  clear ha hb hu hv hm e1 e2 e3 e4 e5 e6 e7 hc hn hx hy
  refine w64_w (by omega) (by omega) (w64_w (by omega) (by omega) (fI_w (w64_w (by omega) (by omega) (w64_w (by omega) (by omega) (fI_w (w64_w (by omega) (by omega) (w64_w (by omega) (by omega) (fI_w (w64_w (by omega) (by omega) (w64_w (by omega) (by omega) ?_))))))))))
  refine tmp_w rfl rfl fun ga H1 h1 ha1 na ga1 => ?_
  refine hnew _ _ fun H2 g O h2 tt2 hz2 => ?_
  rw [asP_]
  refine fI_w (w64_w (by omega) (by omega) ?_)
  have hon : On ⟨a * 16 + u, b * 16 + v⟩ = true := on_of (show 0 ≤ a * 16 + u by omega) (show a * 16 + u < 64 by omega) (show 0 ≤ b * 16 + v by omega) (show b * 16 + v < 64 by omega)
  have hoff : On ⟨(a * 16 + 16) % 64, b * 16⟩ = true := on_of (show 0 ≤ (a * 16 + 16) % 64 by omega) (show (a * 16 + 16) % 64 < 64 by omega) (show 0 ≤ b * 16 by omega) (show b * 16 < 64 by omega)
  have hcor : On ⟨a * 16, b * 16⟩ = true := on_of (show 0 ≤ a * 16 by omega) (show a * 16 < 64 by omega) (show 0 ≤ b * 16 by omega) (show b * 16 < 64 by omega)
  have c1 : cellOf ⟨a * 16 + u, b * 16 + v⟩ = cellAt a b := by show cellAt ((a * 16 + u) / 16) ((b * 16 + v) / 16) = _; rw [show (a * 16 + u) / 16 = a by omega, show (b * 16 + v) / 16 = b by omega]
  have c2 : cellOf ⟨(a * 16 + 16) % 64, b * 16⟩ = cellAt ((a + 1) % 4) b := by show cellAt ((a * 16 + 16) % 64 / 16) (b * 16 / 16) = _; rw [show (a * 16 + 16) % 64 / 16 = (a + 1) % 4 by omega, show b * 16 / 16 = b by omega]
  have c3 : cellOf ⟨a * 16, b * 16⟩ = cellAt a b := by show cellAt (a * 16 / 16) (b * 16 / 16) = _; rw [show a * 16 / 16 = a by omega, show b * 16 / 16 = b by omega]
  have c12 : cellAt a b ≠ cellAt ((a + 1) % 4) b := by unfold cellAt; omega
  have K2 : Keep H2 O ga (.row (ptC ⟨a * 16 + u, b * 16 + v⟩)) := ⟨h2.has _ ha1, (h2.get _ ha1).trans ga1, fun h => hz2 _ h ha1⟩
  refine loopX_w (fun x Hx => x.1 = a * 16 ∧ x.2.1 = b * 16 ∧ x.2.2.1 = .at ga 0 ∧ x.2.2.2.1 = .at g 0 ∧ x.2.2.2.2.1 = (m : Int) ∧ ∃ i : Nat, x.2.2.2.2.2 = (i : Int) ∧ i ≤ m ∧ ∃ L O, TT Hx g L O ∧ AllAt L ⟨a * 16 + u, b * 16 + v⟩ (min i 8) ∧ Keep Hx O ga (.row (ptC ⟨a * 16 + u, b * 16 + v⟩))) (fun x => 20 - x.2.2.2.2.2.toNat)
    ⟨rfl, rfl, rfl, rfl, rfl, 0, rfl, by omega, [], O, tt2, ⟨rfl, fun k => ⟨fun h => (by cases h), fun h => (by omega)⟩, fun k h => (by cases h)⟩, K2⟩ (by simp; omega) ?_
  clear K2 tt2 hz2 h2 ga1 ha1 na h1 O H2 H1
  rintro self ⟨x1, x2, x3, x4, x5, x6⟩ H1 ⟨e1, e2, e3, e4, e5, i, e6, hi, L, O, tt, al, Ka⟩ ih
  simp only at e1 e2 e3 e4 e5 e6
  subst e1 e2 e3 e4 e5 e6
  have fullAt : fullT L ⟨a * 16 + u, b * 16 + v⟩ = decide (8 ≤ min i 8) := by unfold fullT; rw [cellT_count hon, al.count hon hon, if_pos rfl]
  simp only [pR_, fB_eq, iLt_dec]
  refine ifA_w (fun hx => ?_) (fun hx => ?_)
  · have hx : i < m := by have := of_decide_eq_true hx; omega
    simp only [nilK_at]
    refine rowK_w Ka.get (ldG_we (ys := ptC ⟨a * 16 + u, b * 16 + v⟩) (lb rfl) (lb rfl) rfl (okK_w rfl (fL_w ?_)))
    refine hdo H1 g L O (putC ⟨a * 16 + u, b * 16 + v⟩) i _ tt (by rw [al.len]; omega) fun H2 O2 f2 t2 o2 => ?_
    rw [tup2_]
    refine arI_w (arI_w ?_)
    have next : ∀ L', TT H2 g L' O2 → AllAt L' ⟨a * 16 + u, b * 16 + v⟩ (min (i + 1) 8) → (w64 ((i : Int) + 1) fun n => self (a * 16, b * 16, .at ga 0, .at g 0, (m : Int), n) H2) = true := fun L' t al' =>
      w64_w (by omega) (by omega) (ih _ _ ⟨rfl, rfl, rfl, rfl, rfl, i + 1, by simp, by omega, L', O2, t, al', Ka.step f2 o2⟩ (by simp; omega))
    by_cases h8 : i < 8
    · have hm : min i 8 = i := by omega
      rw [hm] at al
      have hn : (aGet L (i : Int)).isSome = false := not_some fun h => by have := (al.keys _).1 h; omega
      obtain ⟨d1, d2⟩ := do_put (L := L) hon (by rw [al.len]; omega) (by rw [fullAt]; exact decide_eq_false (by omega)) (by omega : (0 : Int) ≤ i) (by omega) hn
      rw [d2] at t2
      rw [d1, decide_eq_true (show (i : Int) < 8 by omega)]
      exact next _ t2 (by rw [show min (i + 1) 8 = i + 1 by omega]; exact al.add)
    · have ck : checkE L (putC ⟨a * 16 + u, b * 16 + v⟩) = 16 := by rw [check_put hon (by rw [al.len]; omega), fullAt, decide_eq_true (by omega : 8 ≤ min i 8)]; rfl
      obtain ⟨d1, _, d2⟩ := do_no (L := L) (c := putC ⟨a * 16 + u, b * 16 + v⟩) (id := i) (by rw [ck]; decide)
      rw [d2] at t2
      rw [d1, ck, decide_eq_false (show ¬ (i : Int) < 8 by omega)]
      exact next _ t2 (by rw [show min (i + 1) 8 = min i 8 by omega]; exact al)
  · have hx : i = m := by have := of_decide_eq_false hx; omega
    subst hx
    have n100 : (100 : Int) ∉ aKeys L := fun h => by have := (al.keys _).1 h; omega
    have oC : ∀ {p : Pt}, On p = true → ofC p = cellOf p := fun h => by unfold ofC; rw [if_pos h]
    have fullOff : fullT L ⟨(a * 16 + 16) % 64, b * 16⟩ = false := by unfold fullT; rw [cellT_count hoff, al.count hon hoff, if_neg (by rw [c1, c2]; exact c12)]; rfl
    refine w64_w (by omega) (by omega) (fI_w ?_)
    rw [show Int.tmod (a * 16 + 16) 64 = (a * 16 + 16) % 64 from tm (by omega)]
    refine tmp_w rfl rfl fun gf H2 h2 hf2 nf gf2 => ?_
    refine rowK_w gf2 (ldG_we (ys := ptC ⟨(a * 16 + 16) % 64, b * 16⟩) (lb rfl) (lb rfl) rfl (okK_w rfl (fL_w ?_)))
    refine hdo H2 g L O (putC ⟨(a * 16 + 16) % 64, b * 16⟩) 100 _ (tt.le h2) (by rw [al.len]; omega) fun H3 O3 f3 t3 o3 => ?_
    obtain ⟨d1, d2⟩ := do_put (L := L) hoff (by rw [al.len]; omega) fullOff (by decide : (0 : Int) ≤ 100) (by decide) (not_some n100)
    rw [d2] at t3
    rw [tup2_, d1]
    refine arI_w (arI_w ?_)
    have Ka3 := (Ka.le h2).step f3 o3
    simp only [nilK_at]
    refine rowK_w Ka3.get (ldG_we (ys := ptC ⟨a * 16 + u, b * 16 + v⟩) (lb rfl) (lb rfl) rfl (okK_w rfl (fL_w ?_)))
    have g2 : aGet (aSet L 100 (putT (putC ⟨(a * 16 + 16) % 64, b * 16⟩) 100)) 100 = some (putT (putC ⟨(a * 16 + 16) % 64, b * 16⟩) 100) := aGet_set_same _ _ _
    have p2 : (thOf (aSet L 100 (putT (putC ⟨(a * 16 + 16) % 64, b * 16⟩) 100)) 100).pt = ⟨(a * 16 + 16) % 64, b * 16⟩ := by unfold thOf; rw [g2]; rfl
    have full2 : fullT (aSet L 100 (putT (putC ⟨(a * 16 + 16) % 64, b * 16⟩) 100)) ⟨a * 16 + u, b * 16 + v⟩ = decide (8 ≤ min i 8) := by
      unfold fullT
      rw [cellT_count hon, al.count_add n100 hon hon (by show cellOf ⟨(a * 16 + 16) % 64, b * 16⟩ ≠ _; rw [c1, c2]; exact fun h => c12 h.symm), if_pos rfl]
    have len2 : (aSet L 100 (putT (putC ⟨(a * 16 + 16) % 64, b * 16⟩) 100)).length < 9000 := by
      have := congrArg List.length (aKeys_set_new L (putT (putC ⟨(a * 16 + 16) % 64, b * 16⟩) 100) n100)
      have h2 := al.len
      simp only [aKeys, List.length_map, List.length_append, List.length_cons, List.length_nil] at this
      omega
    have oth2 : ∀ k, k ≠ 100 → aGet (aSet L 100 (putT (putC ⟨(a * 16 + 16) % 64, b * 16⟩) 100)) k = aGet L k := fun k hk => aGet_set_ne _ _ hk
    generalize aSet L 100 (putT (putC ⟨(a * 16 + 16) % 64, b * 16⟩) 100) = L2 at *
    refine hdo H3 g L2 O3 (moveC 100 ⟨a * 16 + u, b * 16 + v⟩) 0 _ t3 len2 fun H4 O4 f4 t4 o4 => ?_
    have aw : awayB ⟨(a * 16 + 16) % 64, b * 16⟩ ⟨a * 16 + u, b * 16 + v⟩ = true := by
      unfold awayB; rw [oC hoff, oC hon, c1, c2, decide_eq_false fun h => c12 h.symm]; rfl
    have ck : checkE L2 (moveC 100 ⟨a * 16 + u, b * 16 + v⟩) = if 8 ≤ i then 16 else 0 := by
      rw [check_move (by decide) (by decide) (on_near hon), g2, p2, aw, full2, hon]
      by_cases h8 : 8 ≤ i
      · rw [if_pos h8, decide_eq_true (by omega : 8 ≤ min i 8)]; rfl
      · rw [if_neg h8, decide_eq_false (by omega : ¬ 8 ≤ min i 8)]; rfl
    -- what stands behind the move
    have key : ∃ L3, doL L2 (moveC 100 ⟨a * 16 + u, b * 16 + v⟩) 0 = L3 ∧ L3.length < 9000 ∧ (∀ k, k ≠ 100 → aGet L3 k = aGet L k) ∧ doE L2 (moveC 100 ⟨a * 16 + u, b * 16 + v⟩) 0 = if 8 ≤ i then 16 else 0 := by
      by_cases h8 : 8 ≤ i
      · rw [if_pos h8] at ck ⊢
        obtain ⟨q1, _, q2⟩ := do_no (L := L2) (c := moveC 100 ⟨a * 16 + u, b * 16 + v⟩) (id := 0) (by rw [ck]; decide)
        exact ⟨L2, q2, len2, oth2, q1.trans ck⟩
      · rw [if_neg h8] at ck ⊢
        obtain ⟨q1, _, q2⟩ := do_ok (L := L2) (c := moveC 100 ⟨a * 16 + u, b * 16 + v⟩) (id := 0) ck rfl
        have q3 : doneL L2 (moveC 100 ⟨a * 16 + u, b * 16 + v⟩) 0 = aSet L2 100 { thOf L2 100 with pt := ⟨a * 16 + u, b * 16 + v⟩ } := rfl
        refine ⟨_, q2.trans q3, ?_, fun k hk => (aGet_set_ne _ _ hk).trans (oth2 k hk), q1⟩
        exact Nat.lt_of_le_of_lt (Nat.le_of_eq (len_old (aGet_isSome.1 (by rw [g2]; rfl)))) len2
    obtain ⟨L3, k1, k2, k3, k4⟩ := key
    rw [k1] at t4
    rw [tup2_, k4]
    refine arI_w (arI_w (fL_w ?_))
    refine hdo H4 g L3 O4 (moveC 0 ⟨a * 16, b * 16⟩) 0 _ t4 k2 fun H5 O5 f5 t5 o5 => ?_
    have ck3 : doE L3 (moveC 0 ⟨a * 16, b * 16⟩) 0 = if 0 < i then 0 else 15 := by
      have e : aGet L3 0 = aGet L 0 := k3 0 (by decide)
      by_cases h0 : 0 < i
      · rw [if_pos h0]
        have hm0 : (0 : Int) ∈ aKeys L := (al.keys 0).2 ⟨by decide, by omega⟩
        have hs : (aGet L3 0).isSome = true := by rw [e]; exact aGet_isSome.2 hm0
        have hp : (thOf L3 0).pt = ⟨a * 16 + u, b * 16 + v⟩ := by unfold thOf; rw [e]; exact al.pt 0 hm0
        refine (do_ok (L := L3) (c := moveC 0 ⟨a * 16, b * 16⟩) (id := 0) ?_ rfl).1
        rw [check_move (by decide) (by decide) (on_near hcor), hs, hp, hcor]
        have : awayB ⟨a * 16 + u, b * 16 + v⟩ ⟨a * 16, b * 16⟩ = false := by unfold awayB; rw [oC hcor, oC hon, c1, c3, decide_eq_true rfl]; rfl
        rw [this]
        simp
      · rw [if_neg h0]
        have hs : (aGet L3 0).isSome = false := by rw [e]; exact not_some fun h => by have := (al.keys _).1 h; omega
        have ck : checkE L3 (moveC 0 ⟨a * 16, b * 16⟩) = 15 := by rw [check_move (by decide) (by decide) (on_near hcor), hs]; rfl
        exact (do_no (L := L3) (c := moveC 0 ⟨a * 16, b * 16⟩) (id := 0) (by rw [ck]; decide)).1.trans ck
    rw [tup2_, ck3]
    refine arI_w (arI_w ?_)
    rw [iEq_dec, iEq_dec, iEq_dec]
    by_cases h8 : 8 ≤ i
    · rw [if_pos h8, if_pos (by omega : 0 < i), decide_eq_false (show ¬ (i : Int) < 8 by omega), decide_eq_true (show (0 : Int) < (i : Int) by omega)]
      rfl
    · rw [if_neg h8, decide_eq_true (show (i : Int) < 8 by omega)]
      by_cases h0 : 0 < i
      · rw [if_pos h0, decide_eq_true (show (0 : Int) < (i : Int) by omega)]
        rfl
      · rw [if_neg h0, decide_eq_false (show ¬ (0 : Int) < (i : Int) by omega)]
        rfl
end Go.Proofs
