/- QueuePlays, from what the calls do. -/
import Derived.Test.YtbjciplcaekjpaaQueLaws
namespace Go.Proofs
open Go Go.Vw Go.Vw.Ev
set_option linter.unusedVariables false
theorem joinX_w {X : Type} {F : X → AH → Bool} {body : (X → AH → Bool) → Bool} (I : X → AH → Prop) (h1 : ∀ x H, I x H → F x H = true) (h2 : ∀ self, (∀ x H, I x H → self x H = true) → body self = true) : joinX F body = true := h2 F h1
/-- Steps as cells. -/
def fs : List (Bool × Int) → List AS
  | [] => []
  | x :: r => .bool x.1 :: .int .i64 x.2 :: fs r
theorem fs_get : ∀ {l : List (Bool × Int)} {c : Nat} (h : c < l.length), (fs l)[2 * c]? = some (.bool (l[c]).1) ∧ (fs l)[2 * c + 1]? = some (.int .i64 (l[c]).2)
  | x :: r, 0, _ => ⟨rfl, rfl⟩
  | x :: r, c + 1, h => by
    have := fs_get (l := r) (c := c) (by simpa using h)
    rw [show 2 * (c + 1) = 2 * c + 1 + 1 by omega]
    exact this
def InS (H : AH) (p : AP) (n : Nat) (l : List (Bool × Int)) : Prop := l.length = n ∧ (n ≠ 0 → ∃ g, p = .at g 0 ∧ H.has g ∧ H.get g = some (.fix (fs l)))
theorem InS.keep {H H' : AH} {p n l} (h : InS H p n l) (k : ∀ a cs, H.has a → H.get a = some (.fix cs) → H'.has a ∧ H'.get a = H.get a) : InS H' p n l :=
  ⟨h.1, fun hn => by obtain ⟨g, h1, h2, h3⟩ := h.2 hn; obtain ⟨k1, k2⟩ := k g _ h2 h3; exact ⟨g, h1, k1, k2.trans h3⟩⟩
theorem InS.le {H H' : AH} {p n l} (h : InS H p n l) (k : Le H H') : InS H' p n l := h.keep fun a _ ha _ => ⟨k.has a ha, k.get a ha⟩
theorem InS.off {H H' : AH} {p n l g c cap q} (h : InS H p n l) (hq : Qu H g c cap q) (k : Off c H H') : InS H' p n l :=
  h.keep fun a cs ha hf => ⟨k.has a ha, k.get a ha fun e => by rw [e, hq.ch] at hf; cases hf⟩
def ints : List Int → List AS
  | [] => []
  | x :: r => .int .i64 x :: ints r
theorem ints_length : ∀ l, (ints l).length = l.length
  | [] => rfl
  | x :: r => by simp [ints, ints_length r]
theorem ints_append : ∀ l m, ints (l ++ m) = ints l ++ ints m
  | [], m => rfl
  | x :: r, m => by simp [ints, ints_append r m]
theorem ints_get : ∀ {l : List Int} {c : Nat} (h : c < l.length), (ints l)[c]? = some (.int .i64 l[c])
  | x :: r, 0, _ => rfl
  | x :: r, c + 1, h => by simpa [ints] using ints_get (l := r) (c := c) (by simpa using h)
theorem pks_get : ∀ {l : List (Int × Int)} {c : Nat} (h : c < l.length), (pks l)[c * 42 + 3]? = some (.int .i64 (l[c]).2)
  | x :: r, 0, _ => rfl
  | x :: r, c + 1, h => by
    have := pks_get (l := r) (c := c) (by simpa using h)
    show (pk x ++ pks r)[(c + 1) * 42 + 3]? = _
    rw [List.getElem?_append_right (by rw [pk_length]; omega), pk_length, show (c + 1) * 42 + 3 - 42 = c * 42 + 3 by omega]
    exact this

/-- A row of numbers that was appended to, and whose first ones go. -/
structure Rq (H : AH) (p : AP) (n : Nat) (c : ACap) (z : Nat) (xs : List Int) : Prop where
  len : n = xs.length
  rep : (xs = [] ∧ p = .nil) ∨ ∃ b k ys, z = 1 ∧ c = .of b k ∧ H.has b ∧ ((∃ o, p = .at b o ∧ o = ys.length ∧ H.get b = some (.row (ints (ys ++ xs)))) ∨ (∃ o, xs = [] ∧ p = .edge b o ∧ o ≤ (ints ys).length ∧ H.get b = some (.row (ints ys))))
theorem Rq.keep {H H' : AH} {p n c z xs} (h : Rq H p n c z xs) (k : ∀ a ys, H.has a → H.get a = some (.row (ints ys)) → H'.has a ∧ H'.get a = H.get a) : Rq H' p n c z xs := by
  refine ⟨h.len, h.rep.imp id ?_⟩
  rintro ⟨b, k', ys, hz, hc, hb, ⟨o, h1, h2, h3⟩ | ⟨o, h0, h1, h2, h3⟩⟩
  · obtain ⟨k1, k2⟩ := k b _ hb h3
    exact ⟨b, k', ys, hz, hc, k1, .inl ⟨o, h1, h2, k2.trans h3⟩⟩
  · obtain ⟨k1, k2⟩ := k b _ hb h3
    exact ⟨b, k', ys, hz, hc, k1, .inr ⟨o, h0, h1, h2, k2.trans h3⟩⟩
theorem Rq.le {H H' : AH} {p n c z xs} (h : Rq H p n c z xs) (k : Le H H') : Rq H' p n c z xs := h.keep fun a _ ha _ => ⟨k.has a ha, k.get a ha⟩
theorem Rq.off {H H' : AH} {p n c z xs g c' cap q} (h : Rq H p n c z xs) (hq : Qu H g c' cap q) (k : Off c' H H') : Rq H' p n c z xs :=
  h.keep fun a cs ha hf => ⟨k.has a ha, k.get a ha fun e => by rw [e, hq.ch] at hf; cases hf⟩
theorem Rq.app {H : AH} {p n c z xs} (h : Rq H p n c z xs) (hn : n ≤ 1000) {v : Int} {K : AP → Nat → ACap → Nat → AH → Bool}
    (hk : ∀ p' c' z' H', Rq H' p' (n + 1) c' z' (xs ++ [v]) → (∀ a, H.has a → (∀ ys, H.get a ≠ some (.row (ints ys))) → H'.has a ∧ H'.get a = H.get a) → K p' (n + 1) c' z' H' = true) :
    appA H p n z 1 8 [.int .i64 v] 1 c K = true := by
  unfold appA
  refine fN_w (okK_w (by rw [Nat.ble_eq_true_of_le (by omega), Nat.ble_eq_true_of_le (by omega)]; rfl) ?_)
  rw [show Nat.beq 1 0 = false from rfl]
  dsimp only
  have hln := h.len
  have fr : ∀ (a b : Pn) (ys : List Int), H.get b = some (.row (ints ys)) → (∀ ys, H.get a ≠ some (.row (ints ys))) → a ≠ b := fun a b ys h1 h2 e => by subst e; exact h2 _ h1
  rcases h.rep with ⟨rfl, rfl⟩ | ⟨b, k, ys, rfl, rfl, hb, ⟨o, rfl, rfl, hg⟩ | ⟨o, rfl, rfl, ho, hg⟩⟩
  · exact newK_w (hk _ _ _ _ ⟨by simp [hln], .inr ⟨H.nx, 0, [], rfl, rfl, has_new_self _ _, .inl ⟨0, rfl, rfl, get_new _ _⟩⟩⟩ fun a ha _ => ⟨has_new ha, get_new_has ha⟩)
  · dsimp only
    refine okK_w rfl ?_
    rw [rowW_row hg]
    refine ldN_w (ys := ints xs) (by rw [ints_length, List.length_append]; omega) (by rw [ints_append, List.drop_append_of_le_length (by rw [ints_length]; exact Nat.le_refl _), List.drop_eq_nil_of_le (by rw [ints_length]; exact Nat.le_refl _), List.nil_append, List.take_of_length_le (by rw [ints_length]; omega)]) (fL_w ?_)
    rw [ap_eq, wrK_none]
    refine newK_w (hk _ _ _ _ ⟨by simp [hln], .inr ⟨(H.del b).nx, 0, [], rfl, rfl, has_new_self _ _, .inl ⟨0, rfl, rfl, ?_⟩⟩⟩ fun a ha hx => ⟨has_new (has_del ha), ?_⟩)
    · rw [get_new]; simp [ints_append, ints]
    · exact (get_new_has (has_del ha)).trans (get_del_ne (fr a b _ hg hx))
  · dsimp only
    refine okK_w rfl ?_
    rw [rowW_row hg]
    refine okK_w (Nat.ble_eq_true_of_le (by rw [ln_eq]; exact ho)) ?_
    rw [wrK_none]
    refine newK_w (hk _ _ _ _ ⟨by simp [hln], .inr ⟨(H.del b).nx, 0, [], rfl, rfl, has_new_self _ _, .inl ⟨0, rfl, rfl, get_new _ _⟩⟩⟩ fun a ha hx => ⟨has_new (has_del ha), ?_⟩)
    exact (get_new_has (has_del ha)).trans (get_del_ne (fr a b _ hg hx))
theorem Rq.slc {H : AH} {p n c z x xs} (h : Rq H p n c z (x :: xs)) {K : AP → Nat → ACap → Nat → Bool} (hk : ∀ p' c', Rq H p' xs.length c' 1 xs → K p' xs.length c' 1 = true) :
    okK (isNilP p || Nat.beq z 1) (slcA p n c 1 1 n K) = true := by
  have hln := h.len
  have hln : n = xs.length + 1 := by simpa using hln
  rcases h.rep with ⟨h0, _⟩ | ⟨b, k, ys, rfl, rfl, hb, ⟨o, rfl, rfl, hg⟩ | ⟨o, h0, _⟩⟩
  · cases h0
  · refine okK_w (by simp) ?_
    unfold slcA
    rw [Nat.ble_eq_true_of_le (show 1 ≤ n by omega), Nat.ble_eq_true_of_le (Nat.le_refl n)]
    show fN _ _ = true
    refine fN_w ?_
    show fN _ _ = true
    refine fN_w (fN_w ?_)
    cases xs with
    | nil =>
      have : n = 1 := by simpa using hln
      subst this
      exact hk _ _ ⟨rfl, .inr ⟨b, _, ys ++ [x], rfl, rfl, hb, .inr ⟨_, rfl, rfl, by rw [ints_length]; simp, hg⟩⟩⟩
    | cons y r =>
      have h1 : Nat.beq 1 n = false := by
        cases hx : Nat.beq 1 n
        · rfl
        · have := Nat.eq_of_beq_eq_true hx; simp at hln; omega
      rw [h1]
      have hn1 : n - 1 = (y :: r).length := by omega
      rw [hn1]
      exact hk _ _ ⟨rfl, .inr ⟨b, _, ys ++ [x], rfl, rfl, hb, .inl ⟨_, rfl, by simp, by rw [hg]; simp⟩⟩⟩
  · cases h0
theorem Rq.at {H : AH} {p n c z xs} (h : Rq H p n c z xs) {i : Nat} (hi : i < n) : ∃ b o cs, p = .at b o ∧ H.has b ∧ H.get b = some (.row cs) ∧ cs[o + i]? = some (.int .i64 (xs[i]'(by have := h.len; omega))) := by
  have hln := h.len
  rcases h.rep with ⟨rfl, _⟩ | ⟨b, k, ys, rfl, rfl, hb, ⟨o, rfl, rfl, hg⟩ | ⟨o, rfl, _⟩⟩
  · simp at hln; omega
  · refine ⟨b, _, _, rfl, hb, hg, ?_⟩
    rw [ints_append, List.getElem?_append_right (by rw [ints_length]; omega), ints_length, Nat.add_sub_cancel_left]
    exact ints_get (by omega)
  · simp at hln; omega
def k5 (l : List Int) : List (Int × Int) := l.map fun v => (Int.ofNat 5, v)
theorem k5_length (l) : (k5 l).length = l.length := by simp [k5]
theorem k5_get {l : List Int} {i : Nat} (h : i < l.length) : ((k5 l)[i]'(by rw [k5_length]; exact h)).2 = l[i] := by simp [k5]
set_option maxHeartbeats 1000000 in
theorem B3_ {lf : Nat} {cl : Cl} {H : AH} {n : Int} {p : AP} {m : Nat} {c : ACap} {z : Nat} {s : List (Bool × Int)} (hlf : 1001 < lf) (h10 : C10 cl) (h11 : C11 cl) (h12 : C12 cl) (h13 : C13 cl) (h14 : C14 cl) (h15 : C15 cl) (hin : InS H p m s) :
    B3 lf cl n p m c z H isT = true := by
  unfold B3
  rw [h10]
  refine arB_w (ifA_w (fun e => absurd e (by decide)) fun _ => ?_)
  refine joinX_w (fun x H' => x.1 = n ∧ x.2 = (p, m, c, z) ∧ m ≤ 80 ∧ InS H' p m s) ?_ ?_
  case refine_2 =>
    intro J hJ
    rw [iLt_dec]
    refine ifA_w (fun _ => rfl) fun e => ?_
    have hm : m ≤ 80 := by simp at e; omega
    exact ifA_w (fun _ => ifA_w (fun _ => rfl) fun _ => hJ _ _ ⟨rfl, rfl, hm, hin⟩) fun _ => hJ _ _ ⟨rfl, rfl, hm, hin⟩
  rintro ⟨n', p', m', c', z'⟩ H0 ⟨h1, h2, hm, hin⟩
  simp only [Prod.mk.injEq] at h1 h2
  obtain ⟨rfl, rfl, rfl, rfl⟩ := h2
  subst h1
  simp only [pR_]
  refine h11 _ _ _ fun H1 g cc hL hcn hq => asP_w' (fI_w (fI_w ?_))
  rw [mnA_, mxA_]
  simp only [Int.ofNat_eq_natCast]
  obtain ⟨cap, hcap, hc1, hc2⟩ : ∃ cap : Nat, max ((1 : Nat) : Int) (min n' ((1000 : Nat) : Int)) = (cap : Int) ∧ 1 ≤ cap ∧ cap ≤ 1000 := ⟨(max ((1 : Nat) : Int) (min n' ((1000 : Nat) : Int))).toNat, by omega, by omega, by omega⟩
  have hcap2 : (min (max n' 1) 1000).toNat = cap := by omega
  rw [hcap2] at hq
  rw [hcap]
  refine loopX_w (fun x H' => x.1 = (p', m', c', z') ∧ x.2.1 = .at g 0 ∧ x.2.2.1 = (cap : Int) ∧ ∃ i : Nat, x.2.2.2.2 = (i : Int) ∧ i ≤ m' ∧ InS H' p' m' s ∧ ∃ l, Qu H' g cc cap (k5 l) ∧ Rq H' x.2.2.2.1.1 x.2.2.2.1.2.1 x.2.2.2.1.2.2.1 x.2.2.2.1.2.2.2 l) (fun x => m' - x.2.2.2.2.toNat)
    ⟨rfl, rfl, rfl, 0, rfl, by omega, hin.le hL, [], hq, rfl, .inl ⟨rfl, rfl⟩⟩ (by simp; omega) ?_
  rintro self ⟨⟨a1, a2, a3, a4⟩, q, nn, ⟨r1, rn, rc, rz⟩, _⟩ H2 ⟨h1, h2, h3, i, hi, him, hin, l, hq, hr⟩ ih
  simp only [Prod.mk.injEq] at h1 h2 h3 hi hr
  obtain ⟨rfl, rfl, rfl, rfl⟩ := h1
  subst h2 h3 hi
  simp only [pR_]
  rw [iLt_dec]
  refine ifA_w (fun e => ?_) (fun _ => rfl)
  have e : i < a2 := by simp only [decide_eq_true_eq] at e; omega
  refine joinX_w (fun x H' => x.1 = (a1, a2, a3, a4) ∧ x.2.1 = .at g 0 ∧ x.2.2.1 = (cap : Int) ∧ x.2.2.2.2 = (i : Int) ∧ InS H' a1 a2 s ∧ ∃ l, Qu H' g cc cap (k5 l) ∧ Rq H' x.2.2.2.1.1 x.2.2.2.1.2.1 x.2.2.2.1.2.2.1 x.2.2.2.1.2.2.2 l) ?_ ?_
  case refine_1 =>
    rintro ⟨⟨b1, b2, b3, b4⟩, q, nn, ⟨s1, sn, sc, sz⟩, _⟩ H3 ⟨h1, h2, h3, h4, hin, l, hq, hr⟩
    simp only [Prod.mk.injEq] at h1 h2 h3 h4 hr
    obtain ⟨rfl, rfl, rfl, rfl⟩ := h1
    subst h2 h3 h4
    simp only [pR_]
    have hsn := hr.len
    refine h14 _ _ _ _ _ _ hq fun H4 p4 c4 z4 o4 q4 sl4 => ?_
    rw [asSl_]
    refine h15 _ _ _ _ _ _ q4 (arI_w ?_)
    rw [iEq_beq, k5_length]
    refine ifA_w (fun e => absurd e (by simp [hsn])) fun _ => ifA_w (fun e => absurd e (by simp [hsn])) fun _ => ?_
    have r4 := hr.off hq o4
    have i4 := hin.off hq o4
    have hlen := q4.le
    rw [k5_length] at hlen
    rw [k5_length] at sl4
    refine loopX_w (fun x H' => H' = H4 ∧ x.1 = (b1, b2, b3, b4) ∧ x.2.1 = .at g 0 ∧ x.2.2.1 = (cap : Int) ∧ x.2.2.2.1 = (s1, sn, sc, sz) ∧ x.2.2.2.2.1 = (i : Int) ∧ x.2.2.2.2.2.1 = (p4, l.length, c4, z4) ∧ ∃ k : Nat, x.2.2.2.2.2.2 = (k : Int) ∧ k ≤ sn) (fun x => sn - x.2.2.2.2.2.2.toNat)
      ⟨rfl, rfl, rfl, rfl, rfl, rfl, rfl, 0, rfl, by omega⟩ (by simp; omega) ?_
    rintro self2 ⟨⟨d1, d2, d3, d4⟩, q, nn, ⟨t1, tn, tc, tz⟩, ii, ⟨v1, vn, vc, vz⟩, _⟩ H5 ⟨hH, h1, h2, h3, h4, h5, h6, k, hk, hks⟩ ih2
    simp only [Prod.mk.injEq] at h1 h2 h3 h4 h5 h6 hk
    obtain ⟨rfl, rfl, rfl, rfl⟩ := h1
    obtain ⟨rfl, rfl, rfl, rfl⟩ := h4
    obtain ⟨rfl, rfl, rfl, rfl⟩ := h6
    subst hH h2 h3 h5 hk
    simp only [pR_]
    rw [iLt_dec]
    refine ifA_w (fun e2 => ?_) (fun _ => ?_)
    · have e2 : k < tn := by simp only [decide_eq_true_eq] at e2; omega
      obtain ⟨b, o, cs, rfl, hb, hg, hget⟩ := r4.at e2
      rcases sl4.rep with ⟨h0, _⟩ | ⟨g4, rfl, rfl, hg4, hh4, _⟩
      · omega
      have hpk := pks_get (l := k5 l) (c := k) (by rw [k5_length]; omega)
      rw [k5_get (by omega)] at hpk
      refine nilK_w (idxK_w (by omega) (by omega) (fN_w (fN_w (rowK_w hg4 (ldI_w (n := l[k]'(by omega)) ?_ (nilK_w (idxK_w (by omega) (by omega) (fN_w (rowK_w hg (ldI_w (n := l[k]'(by omega)) ?_ ?_))))))))))
      · simp only [Nat.add_eq, Nat.mul_eq, Int.toNat_natCast, Nat.zero_add]; exact hpk
      · simp only [Nat.add_eq, Nat.mul_eq, Int.toNat_natCast, Nat.mul_one]; exact hget
      rw [iEq_beq]
      refine ifA_w (fun e => absurd e (by simp)) fun _ => ?_
      rw [iAdd_]
      refine w64_w (by omega) (by omega) (ih2 _ _ ⟨rfl, rfl, rfl, rfl, rfl, rfl, rfl, k + 1, by simp, by omega⟩ ?_)
      simp only; omega
    · rw [iAdd_]
      refine w64_w (by omega) (by omega) (ih _ _ ⟨rfl, rfl, rfl, i + 1, by simp, by omega, i4, l, q4, r4⟩ ?_)
      simp only; omega
  intro J98 hJ
  obtain ⟨gi, rfl, hgi, hrow⟩ := hin.2 (by omega)
  have hsl : i < s.length := by rw [hin.1]; exact e
  obtain ⟨c0, c1⟩ := fs_get hsl
  have hidx : (i : Int) < (a2 : Int) := by omega
  have hrn := hr.len
  refine nilK_w (idxK_w (by omega) hidx (fN_w (fN_w (rowK_wf hrow (ldB_w (b := (s[i]).1) ?_ ?_)))))
  · simp only [Nat.add_eq, Nat.mul_eq, Int.toNat_natCast, Nat.zero_add, Nat.add_zero]; rw [Nat.mul_comm]; exact c0
  refine ifA_w (fun hb => ?_) (fun hb => ?_)
  · refine h12 _ _ _ _ _ _ hq (fun hx H3 o3 q3 => ?_) (fun x r hx H3 o3 q3 => ?_)
    · have hl : l = [] := by cases l with | nil => rfl | cons a t => cases hx
      subst hl
      rw [tup2_, asG_]
      refine arB_w (newK_w (stoN_we (ds := pk (0, 0)) (get_new _ _) rfl (by decide) rfl ?_))
      have le4 : Le H3 ((H3.new (.row (pk (0, 0)))).put H3.nx (.row (pk (0, 0)))) := ((Le.refl H3).newr _).put (not_has_nx H3) _
      have hl0 : rn = 0 := by simpa using hrn
      subst hl0
      refine joinX_w (fun x H' => x = ((.at gi 0, a2, a3, a4), .at g 0, (cap : Int), (r1, 0, rc, rz), (i : Int), false) ∧ InS H' (.at gi 0) a2 s ∧ Qu H' g cc cap (k5 []) ∧ Rq H' r1 0 rc rz []) ?_ ?_
      · rintro x H4 ⟨rfl, i4, q4, r4⟩
        simp only [pR_]
        exact ifA_w (fun e => absurd e (by decide)) fun _ => hJ _ _ ⟨rfl, rfl, rfl, rfl, i4, [], q4, r4⟩
      · intro J61 hJ6
        refine fB_w ?_
        refine ifA_w (fun e => absurd e (by decide)) fun _ => ifA_w (fun e => absurd e (by decide)) fun _ => ?_
        exact hJ6 _ _ ⟨rfl, (hin.off hq o3).le le4, q3.lem le4, (hr.off hq o3).le le4⟩
    · obtain ⟨v, l, rfl⟩ : ∃ v t, l = v :: t := by cases l with | nil => cases hx | cons a t => exact ⟨a, t, rfl⟩
      obtain ⟨rfl, rfl⟩ := List.cons.inj hx
      rw [tup2_, asG_]
      refine arB_w (newK_w (stoN_we (ds := pk (Int.ofNat 5, v)) (get_new _ _) rfl (by decide) rfl ?_))
      have le4 : Le H3 ((H3.new (.row (pk (0, 0)))).put H3.nx (.row (pk (Int.ofNat 5, v)))) := ((Le.refl H3).newr _).put (not_has_nx H3) _
      have r4 := (hr.off hq o3).le le4
      have i4 := (hin.off hq o3).le le4
      have q4 := q3.lem le4
      refine joinX_w (fun x H' => x = ((.at gi 0, a2, a3, a4), .at g 0, (cap : Int), (r1, rn, rc, rz), (i : Int), true) ∧ InS H' (.at gi 0) a2 s ∧ Qu H' g cc cap (k5 l) ∧ Rq H' r1 rn rc rz (v :: l)) ?_ ?_
      · rintro x H4 ⟨rfl, i4, q4, r4⟩
        simp only [pR_]
        exact ifA_w (fun _ => r4.slc fun p5 c5 r5 => hJ _ _ ⟨rfl, rfl, rfl, rfl, i4, l, q4, r5⟩) fun e => absurd e (by decide)
      · intro J61 hJ6
        refine fB_w ?_
        rw [iLt_dec]
        have h0 : decide (((0 : Nat) : Int) < (rn : Int)) = true := by simp [hrn]
        rw [h0]
        refine ifA_w (fun e => absurd e (by decide)) fun _ => ifA_w (fun _ => ?_) fun e => absurd e (by decide)
        obtain ⟨b, o, cs, rfl, hbb, hg, hget⟩ := r4.at (i := 0) (by rw [hrn]; simp)
        refine rowK_w (get_put _ _ _) (ldI_w (n := v) rfl (nilK_w (okK_w (by rw [Nat.blt_eq]; rw [hrn]; simp) (fN_w (rowK_w hg (ldI_w (n := v) ?_ ?_))))))
        · simpa using hget
        rw [iEq_beq]
        refine ifA_w (fun e => absurd e (by simp)) fun _ => rowK_w (get_put _ _ _) (ldI_w (n := Int.ofNat 5) rfl ?_)
        rw [iEq_beq]
        refine ifA_w (fun e => absurd e (by simp)) fun _ => hJ6 _ _ ⟨rfl, i4, q4, r4⟩
  · have c1' : (fs s)[Nat.add (Nat.add 0 (Nat.mul (i : Int).toNat 2)) 1]? = some (.int .i64 (s[i]).2) := by
      simp only [Nat.add_eq, Nat.mul_eq, Int.toNat_natCast, Nat.zero_add]; rw [Nat.mul_comm]; exact c1
    refine nilK_w (idxK_w (by omega) hidx (fN_w (fN_w (rowK_wf hrow (ldI_w c1' ?_)))))
    have hql := hq.le
    rw [k5_length] at hql
    refine h13 _ _ _ _ _ (Int.ofNat 5, (s[i]).2) _ hq (fun hlt H3 o3 q3 => arB_w (fB_w ?_)) (fun heq H3 o3 q3 => arB_w (fB_w ?_))
    · rw [k5_length] at hlt
      rw [iLt_dec]
      have h0 : decide ((rn : Int) < (cap : Int)) = true := by simp; omega
      rw [h0]
      have i3 := hin.off hq o3
      have r3 := hr.off hq o3
      have hrow3 : H3.get gi = some (.fix (fs s)) := by
        rw [o3.get gi hgi (fun e => by rw [e, hq.ch] at hrow; cases hrow)]; exact hrow
      refine ifA_w (fun e => absurd e (by decide)) fun _ => ifA_w (fun _ => ?_) fun e => absurd e (by decide)
      refine nilK_w (idxK_w (by omega) hidx (fN_w (fN_w (rowK_wf hrow3 (ldI_w c1' (newK_w (elK_w (ys := [AS.int .i64 (s[i]).2]) (get_new _ _) (Nat.le_refl _) rfl ?_)))))))
      refine (r3.le (Le.new _ _)).app (by omega) fun p5 c5 z5 H5 r5 f5 => ?_
      have le4 := Le.new H3 (.row [AS.int .i64 (s[i]).2])
      have q4 := q3.lem le4
      refine hJ _ _ ⟨rfl, rfl, rfl, rfl, (i3.le le4).keep fun a cs ha hf => f5 a ha fun ys e => (by rw [hf] at e; cases e), l ++ [(s[i]).2], ?_, r5⟩
      obtain ⟨k1, k2⟩ := f5 g q4.hg fun ys e => by rw [q4.row] at e; cases ys <;> simp [ints] at e
      obtain ⟨k3, k4⟩ := f5 cc q4.hc fun ys e => by rw [q4.ch] at e; cases e
      refine ⟨k2.trans q4.row, k1, ?_, k3, ?_, q4.most⟩
      · rw [k4, q4.ch]; simp [k5]
      · have := q4.le; simp [k5] at this ⊢; omega
    · rw [k5_length] at heq
      rw [iLt_dec]
      have h0 : decide ((rn : Int) < (cap : Int)) = false := by simp; omega
      rw [h0]
      refine ifA_w (fun e => absurd e (by decide)) fun _ => ifA_w (fun e => absurd e (by decide)) fun _ => ?_
      exact hJ _ _ ⟨rfl, rfl, rfl, rfl, hin.off hq o3, l, q3, hr.off hq o3⟩
end Go.Proofs
