/- WorldFree: cells are never full in the world. -/
import Derived.Test.YtnncbfpkeikfaaaDLawB
import Derived.Test.YtnncbfpkeikfaaaDWorld
import Derived.Test.YtnncbfpkeikfaaaBW
namespace Go.Proofs
open Go Go.Vw Go.Vw.Ev
set_option linter.unusedVariables false
set_option linter.unusedSimpArgs false

theorem wdo_put {L : List (Int × Th)} {p : Pt} {id : Int} (h : On p = true) (hl : L.length < 200) (h0 : 0 ≤ id) (h1 : id ≤ 1000000) (hn : (aGet L id).isSome = false) : wE L (putC p) id = 0 ∧ wL L (putC p) id = aSet L id (putT (putC p) id) := by
  have go : wGo L (putC p) := by
    unfold wGo
    rw [check_put h hl]
    by_cases hf : fullT L p = true
    · exact .inr ⟨if_pos hf, .inr hl⟩
    · exact .inl (if_neg hf)
  have hc : canPut L id = true := by rw [can_put h0 h1, hn]; rfl
  have e : wE L (putC p) id = 0 := by unfold wE; rw [if_pos go, if_pos (show doneB L (putC p) id = true from hc)]
  exact ⟨e, by unfold wL; rw [if_pos e]; exact if_pos hc⟩
theorem wdo_move {L : List (Int × Th)} {p : Pt} {k : Int} (h : On p = true) (h0 : 0 ≤ k) (h1 : k ≤ 1000000) (hn : (aGet L k).isSome = true) : wE L (moveC k p) 0 = 0 ∧ wL L (moveC k p) 0 = aSet L k { thOf L k with pt := p } := by
  have go : wGo L (moveC k p) := by
    unfold wGo
    rw [check_move h0 h1 (on_near h), hn, h]
    by_cases hf : awayB (thOf L k).pt p = true ∧ fullT L p = true
    · exact .inr ⟨by rw [if_neg (by decide), if_neg (by decide), if_pos hf], .inl fun h => absurd (show (2 : Int) = 1 from h) (by decide)⟩
    · exact .inl (by rw [if_neg (by decide), if_neg (by decide), if_neg hf])
  have e : wE L (moveC k p) 0 = 0 := by unfold wE; rw [if_pos go, if_pos (show doneB L (moveC k p) 0 = true from rfl)]
  exact ⟨e, by unfold wL; rw [if_pos e]; rfl⟩
theorem tmodE {z m : Int} (h : 0 ≤ z) : Int.tmod z m = z % m := Int.tmod_eq_emod_of_nonneg h
theorem one_rectW {p q : Pt} : RIn ⟨p.x, p.y, p.x + 1, p.y + 1⟩ q = true ↔ q = p := by
  unfold RIn
  simp only [Bool.and_eq_true, decide_eq_true_eq]
  cases p; cases q
  simp only [Pt.mk.injEq]
  omega
theorem B_law12_WorldFree_ {lf : Nat} {cl : Cl} (hlf : 1000 ≤ lf) (hkn : ∀ H K, cl i_law12_known [] H K = K (.s (.bool true)) H) (hnew : CWNew cl) (hdo : CWDo cl) (hsee : CWSee cl) (hlen : CWLen cl) {H : AH} {n p : Int} (hn : 0 ≤ n ∧ n ≤ 255) (hp : 0 ≤ p ∧ p ≤ 255) : B_law12_WorldFree lf cl n p H isT = true := by
  unfold B_law12_WorldFree
  rw [hkn]
  refine arB_w (fBf_w' rfl ?_)
  refine hnew _ _ fun H1 w O h1 w1 z1 => ?_
  rw [asP_]
  have e1 : Int.tmod n (Int.ofNat 40) = n % 40 := tmodE hn.1
  have e2 : Int.tmod p (Int.ofNat 64) = p % 64 := tmodE hp.1
  have e3 : Int.tdiv p (Int.ofNat 4) = p / 4 := Int.tdiv_eq_ediv_of_nonneg hp.1
  have e4 : IntKind.wrap .u8 (p / 4) = p / 4 := wrapu8 (by omega) (by omega)
  simp only [wrapK_eq, e1, e2, e3, e4]
  simp only [iAdd_, iSub_, Int.ofNat_eq_natCast, Int.cast_ofNat_Int]
  obtain ⟨m, hm⟩ : ∃ m : Nat, (m : Int) = n % 40 := ⟨(n % 40).toNat, by omega⟩
  obtain ⟨a, ha⟩ : ∃ a, a = p % 64 := ⟨_, rfl⟩
  obtain ⟨b, hb⟩ : ∃ b, b = p / 4 := ⟨_, rfl⟩
  rw [← hm, ← ha, ← hb]
  have m0 : m < 40 := by omega
  have a0 : 0 ≤ a ∧ a < 64 := by omega
  have b0 : 0 ≤ b ∧ b < 64 := by omega
  clear hm ha hb e1 e2 e3 e4 hn hp
  refine fI_w (w64_w (by omega) (by omega) (w64_w (by omega) (by omega) (fI_w (w64_w (by omega) (by omega) (w64_w (by omega) (by omega) ?_)))))
  have hon : On ⟨a, b⟩ = true := on_of a0.1 a0.2 b0.1 b0.2
  have hon2 : On ⟨63 - a, 63 - b⟩ = true := on_of (show 0 ≤ 63 - a by omega) (show 63 - a < 64 by omega) (show 0 ≤ 63 - b by omega) (show 63 - b < 64 by omega)
  refine tmp_w rfl rfl fun ga H2 h2 ha2 na ga2 => ?_
  have K2 : Keep H2 O ga (.row (ptC ⟨a, b⟩)) := ⟨ha2, ga2, fun h => na (w1.has _ h)⟩
  refine loopX_w (fun x Hx => x.1 = .at w 0 ∧ x.2.1 = (m : Int) + 8 ∧ x.2.2.1 = .at ga 0 ∧ ∃ i : Nat, x.2.2.2 = (i : Int) ∧ i ≤ m + 8 ∧ ∃ L O, WW Hx w L O ∧ AllAt L ⟨a, b⟩ i ∧ Keep Hx O ga (.row (ptC ⟨a, b⟩))) (fun x => 50 - x.2.2.2.toNat)
    ⟨rfl, rfl, rfl, 0, rfl, by omega, [], O, w1.le h2, ⟨rfl, fun k => ⟨fun h => (by cases h), fun h => (by omega)⟩, fun k h => (by cases h)⟩, K2⟩ (by simp; omega) ?_
  clear K2 w1 z1 h2 ga2 ha2 na h1 O H2 H1
  rintro self ⟨x1, x2, x3, x4⟩ H1 ⟨e1, e2, e3, i, e4, hi, L, O, ww, al, Ka⟩ ih
  simp only at e1 e2 e3 e4
  subst e1 e2 e3 e4
  simp only [pR_, fB_eq, iLt_dec]
  refine ifA_w (fun hx => ?_) (fun hx => ?_)
  · have hx : i < m + 8 := by have := of_decide_eq_true hx; omega
    simp only [nilK_at]
    refine rowK_w Ka.get (ldG_we (ys := ptC ⟨a, b⟩) (lb rfl) (lb rfl) rfl (okK_w rfl (fL_w ?_)))
    refine hdo H1 w L O (putC ⟨a, b⟩) i _ ww (by rw [al.len]; omega) fun H2 O2 f2 w2 o2 => ?_
    have hs : (aGet L (i : Int)).isSome = false := not_some fun h => by have := (al.keys _).1 h; omega
    obtain ⟨d1, d2⟩ := wdo_put (L := L) hon (by rw [al.len]; omega) (by omega : (0 : Int) ≤ i) (by omega) hs
    rw [d2] at w2
    rw [tup2_, d1]
    refine arI_w (arI_w ?_)
    refine (show ifA false _ _ = true from ?_)
    rw [ifA_f]
    exact w64_w (by omega) (by omega) (ih _ _ ⟨rfl, rfl, rfl, i + 1, by simp, by omega, _, O2, w2, al.add, Ka.step f2 o2⟩ (by simp; omega))
  · have hx : i = m + 8 := by have := of_decide_eq_false hx; omega
    have n999 : (999 : Int) ∉ aKeys L := fun h => by have := (al.keys _).1 h; omega
    simp only [nilK_at, fN_eq, Nat.add_eq, Nat.zero_add, Nat.add_zero]
    refine rowK_w Ka.get (ldI_w (n := a) rfl (w64_w (by omega) (by omega) (rowK_w Ka.get (ldI_w (n := b) rfl (w64_w (by omega) (by omega) (fL_w ?_))))))
    refine hdo H1 w L O (putC ⟨63 - a, 63 - b⟩) 999 _ ww (by rw [al.len]; omega) fun H2 O2 f2 w2 o2 => ?_
    obtain ⟨d1, d2⟩ := wdo_put (L := L) hon2 (by rw [al.len]; omega) (by decide : (0 : Int) ≤ 999) (by decide) (not_some n999)
    rw [d2] at w2
    rw [tup2_, d1]
    refine arI_w (arI_w ?_)
    have Ka2 := Ka.step f2 o2
    refine rowK_w Ka2.get (ldG_we (ys := ptC ⟨a, b⟩) (lb rfl) (lb rfl) rfl (okK_w rfl (fL_w ?_)))
    obtain ⟨T, hT⟩ : ∃ T, T = putT (putC ⟨63 - a, 63 - b⟩) 999 := ⟨_, rfl⟩
    rw [← hT] at w2
    have g2 : aGet (aSet L 999 T) 999 = some T := aGet_set_same _ _ _
    have k2 : aKeys (aSet L 999 T) = aKeys L ++ [999] := aKeys_set_new _ _ n999
    have l2 : (aSet L 999 T).length = i + 1 := by
      have := congrArg List.length k2
      have h2 := al.len
      simp only [aKeys, List.length_map, List.length_append, List.length_cons, List.length_nil] at this
      omega
    refine hdo H2 w _ O2 (moveC 999 ⟨a, b⟩) 0 _ w2 (by rw [l2]; omega) fun H3 O3 f3 w3 o3 => ?_
    obtain ⟨q1, q2⟩ := wdo_move (L := aSet L 999 T) hon (by decide : (0 : Int) ≤ 999) (by decide) (by rw [g2]; rfl)
    rw [q2] at w3
    rw [tup2_, q1]
    refine arI_w (arI_w ?_)
    have Ka3 := Ka2.step f3 o3
    obtain ⟨U, hU⟩ : ∃ U : Th, U = { thOf (aSet L 999 T) 999 with pt := ⟨a, b⟩ } := ⟨_, rfl⟩
    rw [← hU] at w3
    have pU : U.pt = ⟨a, b⟩ := by rw [hU]
    have k3 : aKeys (aSet (aSet L 999 T) 999 U) = aKeys L ++ [999] := by rw [aKeys_set_old _ _ (aGet_isSome.1 (by rw [g2]; rfl)), k2]
    have l3 : (aSet (aSet L 999 T) 999 U).length = i + 1 := by rw [len_old (aGet_isSome.1 (by rw [g2]; rfl)), l2]
    have p3 : ∀ k ∈ aKeys L ++ [999], (thOf (aSet (aSet L 999 T) 999 U) k).pt = ⟨a, b⟩ := fun k hk => by
      unfold thOf
      by_cases e : k = 999
      · subst e; rw [aGet_set_same]; exact pU
      · rw [aGet_set_ne _ _ e, aGet_set_ne _ _ e]
        rw [List.mem_append, List.mem_singleton] at hk
        exact al.pt k (hk.resolve_right e)
    generalize aSet (aSet L 999 T) 999 U = L3 at *
    refine (show ifA true _ _ = true from ?_)
    rw [ifA_t]
    refine (show ifA true _ _ = true from ?_)
    rw [ifA_t]
    refine rowK_w Ka3.get (ldI_w (n := a) rfl (rowK_w Ka3.get (ldI_w (n := b) rfl (rowK_w Ka3.get (ldI_w (n := a) rfl (w64_w (by omega) (by omega) (rowK_w Ka3.get (ldI_w (n := b) rfl (w64_w (by omega) (by omega) ?_)))))))))
    refine hsee H3 w L3 O3 ⟨a, b, a + 1, b + 1⟩ _ w3 (by rw [l3]; omega) fun H4 p4 c4 z4 h4 sl4 => ?_
    rw [asSl_]
    have cnt : (inT L3 ⟨a, b, a + 1, b + 1⟩).length = i + 1 := by
      unfold inT
      rw [srtI_len, List.filter_eq_self.2 fun k hk => by rw [k3] at hk; exact (one_rectW (p := ⟨a, b⟩)).2 (p3 k hk)]
      rw [← l3]; simp [aKeys]
    refine w64_w (by omega) (by omega) ?_
    rw [cnt, iEq_dec]
    refine ifA_w (fun _ => ?_) (fun h => absurd h (by simp; omega))
    refine hlen H4 w L3 O3 _ (w3.le h4) (arI_w (w64_w (by omega) (by omega) ?_))
    rw [l3, iEq_dec, decide_eq_true (by omega : (((i + 1 : Nat) : Int) = (m : Int) + 8 + 1))]
    rfl
end Go.Proofs
