/- WorldLast: of a row of moves and sets of one thing the last ones count. -/
import Derived.Test.YtnncbfpkeikfaaaDLaw12a
import Derived.Test.YtnncbfpkeikfaaaDIns
namespace Go.Proofs
open Go Go.Vw Go.Vw.Ev
set_option linter.unusedVariables false
set_option linter.unusedSimpArgs false

theorem fr_leW {O : Pn → Prop} {H0 H H' : AH} (h : Le H0 H) (f : Fr O H H') (hz : ∀ a, O a → ¬ H0.has a) : Le H0 H' :=
  ⟨fun a ha => f.has a (h.has a ha), fun a ha => (f.get a (h.has a ha) fun h' => hz a h' ha).trans (h.get a ha)⟩
theorem wdo_set {L : List (Int × Th)} {k w : Int} {v : Fd} (h0 : 0 ≤ k) (h1 : k ≤ 1000000) (h2 : 0 ≤ w) (h3 : w < 4) (h4 : IsF v = true) (hn : (aGet L k).isSome = true) : wE L (setC k w v) 0 = 0 ∧ wL L (setC k w v) 0 = aSet L k (setF (thOf L k) w v) := by
  have ck : checkE L (setC k w v) = 0 := by rw [check_set h0 h1 (by omega) (by omega) h4, hn, if_neg (by decide), if_neg (by omega)]
  have e : wE L (setC k w v) 0 = 0 := by unfold wE; rw [if_pos (.inl ck), if_pos (show doneB L (setC k w v) 0 = true from rfl)]
  exact ⟨e, by unfold wL; rw [if_pos e]; rfl⟩
theorem allT_1 (k : Int) (t : Th) : allT [(k, t)] = [k] := rfl
theorem same_th (t : Th) : cellsEqA (thC t) (thC t) = true := by
  simp only [thC, ptC, fdC, List.cons_append, List.nil_append, cellsEqA, cellEqA, iEq_dec, sEq_dec, decide_true]
theorem leaves_th (t : Th) : leavesA [Leaf.int .i64, Leaf.int .i64, Leaf.int .i64, Leaf.int .i64, Leaf.str, Leaf.int .i64, Leaf.str, Leaf.int .i64, Leaf.str, Leaf.int .i64, Leaf.str] (thC t) = true := rfl
theorem tN_take (id : Int) (p q : Pt) (ns : Nat → Int) : (thC (tN id p ns)).take 1 ++ (ptC q ++ (thC (tN id p ns)).drop 3) = thC (tN id q ns) := rfl
theorem tN_set (id : Int) (p : Pt) (ns : Nat → Int) (v : Int) : ∀ k : Nat, k < 4 → (thC (tN id p ns)).set (3 + k * 2) (.int .i64 v) = thC (tN id p (updN ns k v)) := lt4 rfl rfl rfl rfl
theorem tN_fd (id : Int) (p : Pt) (ns : Nat → Int) : ∀ k : Nat, k < 4 → ((thC (tN id p ns)).drop (3 + k * 2)).take 2 = fdC ⟨ns k, []⟩ := lt4 rfl rfl rfl rfl
theorem B_law12_WorldLast_ {lf : Nat} {cl : Cl} (hlf : 1000 ≤ lf) (hkn : ∀ H K, cl i_law12_known [] H K = K (.s (.bool true)) H) (hnew : CWNew cl) (hdo : CWDo cl) (hall : CWAll cl) {H : AH} {p q : AP} {n m : Nat} {c d : ACap} {xs ws : List Int} (hI : InI H p n .u8 xs) (hJ : InI H q m .u8 ws)
    (hxs : ∀ x ∈ xs, 0 ≤ x ∧ x ≤ 255) (hws : ∀ x ∈ ws, 0 ≤ x ∧ x ≤ 255) : B_law12_WorldLast lf cl p n c 1 q m d 1 H isT = true := by
  unfold B_law12_WorldLast
  rw [hkn]
  refine arB_w (fBf_w' rfl ?_)
  rw [fB_eq, iLt_dec]
  refine ifA_w (fun _ => rfl) (fun h20 => ?_)
  have h20 : n ≤ 20 := by have := of_decide_eq_false h20; simp only [Int.ofNat_eq_natCast, Int.cast_ofNat_Int] at this; omega
  rw [fB_eq, iLt_dec]
  refine ifA_w (fun _ => rfl) (fun h21 => ?_)
  have h21 : m ≤ 20 := by have := of_decide_eq_false h21; simp only [Int.ofNat_eq_natCast, Int.cast_ofNat_Int] at this; omega
  refine hnew _ _ fun H1 w O h1 w1 z1 => ?_
  rw [asP_]
  have on0 : On ⟨0, 0⟩ = true := by decide
  refine hdo H1 w [] O (putC ⟨0, 0⟩) 3 _ w1 (by simp) fun H2 O2 f2 w2 o2 => ?_
  obtain ⟨_, l2⟩ := wdo_put (L := []) (id := 3) on0 (by simp) (by decide) (by decide) rfl
  rw [l2] at w2
  replace w2 : WW H2 w [(3, tN 3 ⟨0, 0⟩ fun _ => 0)] O2 := w2
  rw [tup2_]
  refine arI_w (arI_w (tmp_w rfl rfl fun gw H3 h3 hw3 nw3 gw3 => ?_))
  have hL2 : Le H H2 := fr_leW h1 f2 z1
  have z2 : ∀ a, O2 a → ¬ H.has a := fun a h => (o2 a h).elim (z1 a) fun h hh => h (h1.has _ hh)
  have nHw : ¬ H.has gw := fun h => nw3 (hL2.has _ h)
  have K3 : Keep H3 O2 gw (.row (thC (tN 3 ⟨0, 0⟩ fun _ => 0))) := ⟨hw3, gw3, fun h => nw3 (w2.has _ h)⟩
  refine loopX_w (fun x Hx => x.1 = (p, n, c, 1) ∧ x.2.1 = (q, m, d, 1) ∧ x.2.2.1 = .at w 0 ∧ x.2.2.2.1 = .at gw 0 ∧ ∃ i : Nat, x.2.2.2.2 = (i : Int) ∧ i ≤ n ∧ Le H Hx ∧ ∃ pt O, On pt = true ∧ WW Hx w [(3, tN 3 pt fun _ => 0)] O ∧ (∀ a, O a → ¬ H.has a) ∧ Keep Hx O gw (.row (thC (tN 3 pt fun _ => 0)))) (fun x => 30 - x.2.2.2.2.toNat)
    ⟨rfl, rfl, rfl, rfl, 0, rfl, by omega, hL2.trans h3, _, O2, on0, w2.le h3, z2, K3⟩ (by simp; omega) ?_
  clear K3 z2 hL2 gw3 nw3 hw3 h3 H3 l2 w2 o2 f2 O2 H2 z1 w1 h1 O H1
  rintro self ⟨x1, x2, x3, x4, x5⟩ H1 ⟨e1, e2, e3, e4, i, e5, hi, hL1, pt, O, hon, ww, hz, Kw⟩ ih
  simp only at e1 e2 e3 e4 e5
  subst e1 e2 e3 e4 e5
  simp only [pR_, fB_eq, iLt_dec, wrapK_eq]
  refine ifA_w (fun hx => ?_) (fun hx => ?_)
  · have hx : i < n := by have := of_decide_eq_true hx; simp only [Int.ofNat_eq_natCast] at this; omega
    have hil : i < xs.length := by rw [hI.1]; exact hx
    have hb := hxs _ (List.getElem_mem hil)
    refine (hI.le hL1).read hx (fI_w ?_)
    generalize hv : xs[i] = v at hb
    have e1 : Int.tmod v (Int.ofNat 64) = v % 64 := tmodE hb.1
    have e2 : Int.tdiv v (Int.ofNat 4) = v / 4 := Int.tdiv_eq_ediv_of_nonneg hb.1
    have e3 : IntKind.wrap .u8 (v / 4) = v / 4 := wrapu8 (by omega) (by omega)
    rw [e1]
    refine w64_w (by omega) (by omega) ((hI.le hL1).read hx ?_)
    rw [hv, e2, e3]
    refine w64_w (by omega) (by omega) ?_
    have hon2 : On ⟨v % 64, v / 4⟩ = true := on_of (show 0 ≤ v % 64 by omega) (show v % 64 < 64 by omega) (show 0 ≤ v / 4 by omega) (show v / 4 < 64 by omega)
    simp only [nilK_at, fN_eq, Nat.add_eq, Nat.zero_add]
    refine stoN_we (ds := thC (tN 3 ⟨v % 64, v / 4⟩ fun _ => 0)) Kw.get rfl (lb rfl) rfl ?_
    have f3 : Fr (fun a => a = gw) H1 (H1.put gw (.row (thC (tN 3 ⟨v % 64, v / 4⟩ fun _ => 0)))) := (Fr.refl (fun a => a = gw) _).put (.inl rfl) _
    have hL3 : Le H (H1.put gw (.row (thC (tN 3 ⟨v % 64, v / 4⟩ fun _ => 0)))) := hL1.put nHw _
    have K3 : Keep (H1.put gw (.row (thC (tN 3 ⟨v % 64, v / 4⟩ fun _ => 0)))) O gw (.row (thC (tN 3 ⟨v % 64, v / 4⟩ fun _ => 0))) := ⟨has_put Kw.has, get_put _ _ _, Kw.out⟩
    have w3 := ww.fr f3 fun a ha e => Kw.out (e ▸ ha)
    generalize H1.put gw (.row (thC (tN 3 ⟨v % 64, v / 4⟩ fun _ => 0))) = H3 at *
    refine rowK_w K3.get (ldG_we (ys := ptC ⟨v % 64, v / 4⟩) (lb rfl) (lb rfl) rfl (okK_w rfl (fL_w ?_)))
    refine hdo H3 w _ O (moveC 3 ⟨v % 64, v / 4⟩) 0 _ w3 (by simp) fun H4 O4 f4 w4 o4 => ?_
    obtain ⟨d1, d2⟩ := wdo_move (L := [(3, tN 3 pt fun _ => 0)]) hon2 (by decide : (0 : Int) ≤ 3) (by decide) (by rw [aGet_1]; rfl)
    have d3 : aSet [((3 : Int), tN 3 pt fun _ => 0)] 3 { thOf [(3, tN 3 pt fun _ => 0)] 3 with pt := ⟨v % 64, v / 4⟩ } = [(3, tN 3 ⟨v % 64, v / 4⟩ fun _ => 0)] := by rw [aSet_1, thOf_1]; rfl
    rw [d2, d3] at w4
    rw [tup2_, d1]
    refine arI_w (arI_w ?_)
    refine (show ifA false _ _ = true from ?_)
    rw [ifA_f]
    exact w64_w (by simp only [iAdd_, Int.ofNat_eq_natCast]; omega) (by simp only [iAdd_, Int.ofNat_eq_natCast]; omega) (ih _ _ ⟨rfl, rfl, rfl, rfl, i + 1, by simp [iAdd_], by omega, fr_leW hL3 f4 hz, _, O4, hon2, w4, fun a h => (o4 a h).elim (hz a) fun h hh => h (hL3.has _ hh), K3.step f4 o4⟩ (by simp [iAdd_]; omega))
  · refine loopX_w (fun x Hx => x.1 = (q, m, d, 1) ∧ x.2.1 = .at w 0 ∧ x.2.2.1 = .at gw 0 ∧ ∃ j : Nat, x.2.2.2 = (j : Int) ∧ j ≤ m ∧ Le H Hx ∧ ∃ ns O, WW Hx w [(3, tN 3 pt ns)] O ∧ (∀ a, O a → ¬ H.has a) ∧ Keep Hx O gw (.row (thC (tN 3 pt ns)))) (fun x => 30 - x.2.2.2.toNat)
      ⟨rfl, rfl, rfl, 0, rfl, by omega, hL1, _, O, ww, hz, Kw⟩ (by simp; omega) ?_
    clear Kw hz ww hL1 O H1
    rintro self ⟨x1, x2, x3, x4⟩ H1 ⟨e1, e2, e3, j, e4, hj, hL1, ns, O, ww, hz, Kw⟩ ih
    simp only at e1 e2 e3 e4
    subst e1 e2 e3 e4
    simp only [pR_, fB_eq, iLt_dec]
    refine ifA_w (fun hx => ?_) (fun hx => ?_)
    · have hx : j < m := by have := of_decide_eq_true hx; simp only [Int.ofNat_eq_natCast] at this; omega
      have hil : j < ws.length := by rw [hJ.1]; exact hx
      have hb := hws _ (List.getElem_mem hil)
      have em : Int.tmod (j : Int) (Int.ofNat 4) = ((j % 4 : Nat) : Int) := by rw [tmodE (by omega)]; simp
      simp only [em]
      have h4 : j % 4 < 4 := Nat.mod_lt _ (by decide)
      refine fI_w ((hJ.le hL1).read hx ?_)
      generalize hv : ws[j] = v at hb
      refine w64_w (by omega) (by omega) ?_
      simp only [nilK_at, fN_eq, Nat.add_eq, Nat.zero_add]
      refine idxK_w (by omega) (by omega) ?_
      simp only [Int.toNat_natCast, Nat.mul_eq, Nat.add_zero]
      refine sto1_w Kw.get (by rw [thC_len]; omega) ?_
      rw [tN_set 3 pt ns v (j % 4) h4]
      have f3 : Fr (fun a => a = gw) H1 (H1.put gw (.row (thC (tN 3 pt (updN ns (j % 4) v))))) := (Fr.refl (fun a => a = gw) _).put (.inl rfl) _
      have hL3 : Le H (H1.put gw (.row (thC (tN 3 pt (updN ns (j % 4) v))))) := hL1.put nHw _
      have K3 : Keep (H1.put gw (.row (thC (tN 3 pt (updN ns (j % 4) v))))) O gw (.row (thC (tN 3 pt (updN ns (j % 4) v)))) := ⟨has_put Kw.has, get_put _ _ _, Kw.out⟩
      have w3 := ww.fr f3 fun a ha e => Kw.out (e ▸ ha)
      generalize H1.put gw (.row (thC (tN 3 pt (updN ns (j % 4) v)))) = H3 at *
      refine fI_w (fI_w (idxK_w (by omega) (by omega) ?_))
      simp only [Int.toNat_natCast]
      have e5 : (updN ns (j % 4) v) (j % 4) = v := by unfold updN; rw [if_pos rfl]
      refine rowK_w K3.get (ldG_we (ys := fdC ⟨v, []⟩) (by rw [thC_len]; omega) (by decide) (by rw [tN_fd 3 pt _ (j % 4) h4, e5]) (okK_w rfl (fL_w ?_)))
      refine hdo H3 w _ O (setC 3 ((j % 4 : Nat) : Int) ⟨v, []⟩) 0 _ w3 (by simp) fun H4 O4 f4 w4 o4 => ?_
      obtain ⟨d1, d2⟩ := wdo_set (L := [(3, tN 3 pt ns)]) (k := 3) (w := ((j % 4 : Nat) : Int)) (v := ⟨v, []⟩) (by decide) (by decide) (by omega) (by omega) (isF_N v) (by rw [aGet_1]; rfl)
      rw [d2, aSet_1, thOf_1, setF_N _ _ _ _ (j % 4) h4] at w4
      rw [tup2_, d1]
      refine arI_w (arI_w ?_)
      refine (show ifA false _ _ = true from ?_)
      rw [ifA_f]
      exact w64_w (by simp only [iAdd_, Int.ofNat_eq_natCast]; omega) (by simp only [iAdd_, Int.ofNat_eq_natCast]; omega) (ih _ _ ⟨rfl, rfl, rfl, j + 1, by simp [iAdd_], by omega, fr_leW hL3 f4 hz, _, O4, w4, fun a h => (o4 a h).elim (hz a) fun h hh => h (hL3.has _ hh), K3.step f4 o4⟩ (by simp [iAdd_]; omega))
    · refine hall H1 w _ O _ ww (by simp) fun H2 p2 c2 z2 h2 sl2 => ?_
      rw [asSl_]
      rw [allT_1] at *
      have K2 := Kw.le h2
      refine (show ifA true _ _ = true from ?_)
      rw [ifA_t]
      rcases sl2.rep with ⟨h0, _⟩ | ⟨g6, rfl, _, hg6, hh6, _⟩
      · cases h0
      rw [List.map_cons, List.map_nil, thOf_1] at hg6
      simp only [nilK_at, fN_eq, Nat.add_eq, Nat.zero_add]
      refine okK_w rfl (rowK_w hg6 (ldG_we (ys := thC (tN 3 pt ns)) (lb rfl) (lb rfl) rfl (rowK_w K2.get (ldG_we (ys := thC (tN 3 pt ns)) (lb rfl) (lb rfl) rfl (okK_w ?_ ?_)))))
      · rw [leaves_th]; rfl
      · rw [same_th]; rfl
end Go.Proofs
