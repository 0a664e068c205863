/- A queue's calls: what they do, by what waits in it. -/
import Derived.Test.YtbjciplcaekjpaaBQue
import Derived.Test.YtbjciplcaekjpaaVwDed
namespace Go.Proofs
open Go Go.Vw Go.Vw.Ev
set_option linter.unusedVariables false
/-- A packet of a kind and a number. -/
def pk (x : Int × Int) : List AS := [AS.int .i64 (Int.ofNat 0), AS.int .i64 (Int.ofNat 0), AS.int .i64 x.1, AS.int .i64 x.2, AS.int .i64 (Int.ofNat 0), AS.int .i64 (Int.ofNat 0), AS.int .i64 (Int.ofNat 0), AS.int .i64 (Int.ofNat 0), AS.int .i64 (Int.ofNat 0), AS.int .i64 (Int.ofNat 0), AS.int .i64 (Int.ofNat 0), AS.str [], AS.int .i64 (Int.ofNat 0), AS.str [], AS.int .i64 (Int.ofNat 0), AS.str [], AS.int .i64 (Int.ofNat 0), AS.str [], AS.int .i64 (Int.ofNat 0), AS.str [], AS.int .i64 (Int.ofNat 0), AS.int .i64 (Int.ofNat 0), AS.int .i64 (Int.ofNat 0), AS.int .i64 (Int.ofNat 0), AS.int .i64 (Int.ofNat 0), AS.int .i64 (Int.ofNat 0), AS.int .i64 (Int.ofNat 0), AS.int .i64 (Int.ofNat 0), AS.int .i64 (Int.ofNat 0), AS.int .i64 (Int.ofNat 0), AS.slice AP.nil 0 (.lit 0) 1, AS.slice AP.nil 0 (.lit 0) 1, AS.slice AP.nil 0 (.lit 0) 1, AS.slice AP.nil 0 (.lit 0) 1, AS.int .i64 (Int.ofNat 0), AS.int .i64 (Int.ofNat 0), AS.int .i64 (Int.ofNat 0), AS.int .i64 (Int.ofNat 0), AS.int .i64 (Int.ofNat 0), AS.slice AP.nil 0 (.lit 0) 1, AS.int .i64 (Int.ofNat 0), AS.int .i64 (Int.ofNat 0)]
theorem pk_length (x) : (pk x).length = 42 := rfl

theorem wrK_w {H : AH} {a : Pn} {b : AB} {K : AH → Bool} (hk : K (H.put a b) = true) : wrK H a (some b) K = true := by rw [wrK_]; exact hk
theorem chanK_w {H : AH} {a : Pn} {cap : Nat} {xs : List (List AS)} {K : Nat → List (List AS) → Bool} (h : H.get a = some (.chan cap xs)) (hk : K cap xs = true) : chanK H a K = true := by
  unfold chanK; rw [show H.t.get a = some (.chan cap xs) from h]; exact hk
theorem ldC_w {cs : List AS} {o : Nat} {p : Option Pn} {K : Option Pn → Bool} (h : cs[o]? = some (.chan p)) (hk : K p = true) : ldC cs o K = true := by
  unfold ldC; rw [nth_eq, h]; exact hk
theorem asC_w {g : Pn} {K : Pn → Bool} (hk : K g = true) : asC (.s (.chan (some g))) K = true := hk
theorem blt_t {a b : Nat} (h : Nat.blt a b = true) : a < b := Nat.blt_eq ▸ h
theorem blt_f {a b : Nat} (h : Nat.blt a b = false) : b ≤ a := by
  rcases Nat.lt_or_ge a b with k | k
  · exact absurd (show Nat.blt a b = true by rw [Nat.blt_eq]; exact k) (by rw [h]; decide)
  · exact k

theorem asT_w {vs : List AV} {K : List AV → Bool} (hk : K vs = true) : asT (.tup vs) K = true := hk
theorem getL_w {l : List AV} {i : Nat} {v : AV} {K : AV → Bool} (h : l[i]? = some v) (hk : K v = true) : getL l i K = true := by unfold getL; rw [nth_eq, h]; exact hk
theorem stoVg_w {H : AH} {a : Pn} {o m : Nat} {us : List AS} {K : AH → Bool} (hk : stoN H a o m us K = true) : stoV H a o m (.agg us) K = true := hk

/-- Nothing but c is touched. -/
structure Off (c : Pn) (H H' : AH) : Prop where
  has : ∀ a, H.has a → H'.has a
  get : ∀ a, H.has a → a ≠ c → H'.get a = H.get a
theorem Off.refl (c : Pn) (H : AH) : Off c H H := ⟨fun _ h => h, fun _ _ _ => rfl⟩
theorem Off.trans {c : Pn} {A B C : AH} (h : Off c A B) (k : Off c B C) : Off c A C := ⟨fun a ha => k.has a (h.has a ha), fun a ha hc => (k.get a (h.has a ha) hc).trans (h.get a ha hc)⟩
theorem Off.le {c : Pn} {A B : AH} (h : Le A B) : Off c A B := ⟨h.has, fun a ha _ => h.get a ha⟩
theorem Off.new (c : Pn) (H : AH) (b : AB) : Off c H (H.new b) := .le (Le.new _ _)
theorem Off.newr {c : Pn} {H H' : AH} (h : Off c H H') (b : AB) : Off c H (H'.new b) := h.trans (.new _ _ _)
theorem Off.putc {c : Pn} {H H' : AH} (h : Off c H H') (b : AB) : Off c H (H'.put c b) := ⟨h.has, fun a ha hc => (get_put_ne hc).trans (h.get a ha hc)⟩
theorem Off.put {c : Pn} {H H' : AH} (h : Off c H H') {a : Pn} (ha : ¬ H.has a) (b : AB) : Off c H (H'.put a b) :=
  ⟨h.has, fun x hx hc => (get_put_ne (fun e => ha (by rw [← e]; exact hx))).trans (h.get x hx hc)⟩
theorem Off.nx {c : Pn} {H H' : AH} (h : Off c H H') : ¬ H.has H'.nx := fun hx => not_has_nx H' (h.has _ hx)

/-- A queue. -/
structure Qu (H : AH) (g c : Pn) (cap : Nat) (l : List (Int × Int)) : Prop where
  row : H.get g = some (.row [AS.chan (some c)])
  hg : H.has g
  ch : H.get c = some (.chan cap (l.map pk))
  hc : H.has c
  le : l.length ≤ cap
  most : cap ≤ 1000
theorem Qu.ne {H g c cap l} (h : Qu H g c cap l) : g ≠ c := fun e => by have := h.ch; rw [← e, h.row] at this; cases this
theorem Qu.off {H H' : AH} {g c cap l l'} (h : Qu H g c cap l) (o : Off c H H') (hc : H'.get c = some (.chan cap (l'.map pk))) (hl : l'.length ≤ cap) : Qu H' g c cap l' :=
  ⟨(o.get g h.hg h.ne).trans h.row, o.has g h.hg, hc, o.has c h.hc, hl, h.most⟩
theorem Qu.lem {H H' : AH} {g c cap l} (h : Qu H g c cap l) (o : Le H H') : Qu H' g c cap l := h.off (.le o) ((o.get c h.hc).trans h.ch) h.le

theorem B11_ {lf : Nat} {cl : Cl} {H : AH} {n : Int} {K : AV → AH → Bool} (hk : ∀ H' g c, Le H H' → ¬ H.has c → Qu H' g c (min (max n 1) 1000).toNat [] → K (.s (.ptr (.at g 0))) H' = true) : B11 lf cl n H K = true := by
  unfold B11
  refine fI_w (fI_w ?_)
  rw [mxA_, mnA_]
  simp only [Int.ofNat_eq_natCast]
  have hb : (min (max n ((1 : Nat) : Int)) ((1000 : Nat) : Int)).toNat ≤ 1000 := by omega
  refine natK_w (by omega) (okK_w ?_ (newK_w (newK_w ?_)))
  · rw [Nat.ble_eq_true_of_le (by omega), Nat.ble_eq_true_of_le (by omega)]; rfl
  · exact hk _ _ _ ((Le.refl H).newr _ |>.newr _) (not_has_nx H) ⟨get_new _ _, has_new_self _ _, (get_new_has (has_new_self _ _)).trans (get_new _ _), has_new (has_new_self _ _), by simp, hb⟩

theorem B15_ {lf : Nat} {cl : Cl} {H : AH} {g c : Pn} {cap : Nat} {l : List (Int × Int)} {K : AV → AH → Bool} (h : Qu H g c cap l) (hk : K (.s (.int .i64 (l.length : Int))) H = true) : B15 lf cl (.at g 0) H K = true := by
  unfold B15
  refine nilK_w (fN_w (rowK_w h.row (ldC_w rfl (asC_w (chanK_w h.ch ?_)))))
  rw [ln_eq, List.length_map]
  exact hk

theorem B13_ {lf : Nat} {cl : Cl} {H : AH} {g c : Pn} {cap : Nat} {l : List (Int × Int)} {x : Int × Int} {K : AV → AH → Bool} (h : Qu H g c cap l)
    (h1 : l.length < cap → ∀ H', Off c H H' → Qu H' g c cap (l ++ [x]) → K (.s (.bool true)) H' = true) (h2 : l.length = cap → ∀ H', Off c H H' → Qu H' g c cap l → K (.s (.bool false)) H' = true) :
    B13 lf cl (.at g 0) (pk x) H K = true := by
  unfold B13
  have hle := Le.new H (.row (pk x))
  refine newK_w (nilK_w (fN_w (rowK_w ((hle.get g h.hg).trans h.row) (ldC_w rfl (rowK_w (get_new _ _) (ldG_we (ys := pk x) (Nat.le_refl _) (by decide) rfl (asC_w (chanK_w ((hle.get c h.hc).trans h.ch) ?_))))))))
  rw [ln_eq, List.length_map]
  refine ifA_w (fun e => fL_w (wrK_w (ifA_w (fun _ => ?_) (fun e => absurd e (by decide))))) (fun e => ifA_w (fun e => absurd e (by decide)) fun _ => ?_)
  · have e := blt_t e
    have o : Off c H ((H.new (.row (pk x))).put c (.chan cap (ap (l.map pk) [pk x]))) := (Off.new c H _).putc _
    refine h1 e _ o (h.off o ?_ (by simp; omega))
    rw [get_put, ap_eq, List.map_append]; rfl
  · have e := blt_f e
    exact h2 (by have := h.le; omega) _ (.new _ _ _) (h.lem hle)

theorem B12_ {lf : Nat} {cl : Cl} {H : AH} {g c : Pn} {cap : Nat} {l : List (Int × Int)} {K : AV → AH → Bool} (h : Qu H g c cap l)
    (h1 : l = [] → ∀ H', Off c H H' → Qu H' g c cap [] → K (.tup [.agg (pk (0, 0)), .s (.bool false)]) H' = true)
    (h2 : ∀ x r, l = x :: r → ∀ H', Off c H H' → Qu H' g c cap r → K (.tup [.agg (pk x), .s (.bool true)]) H' = true) : B12 lf cl (.at g 0) H K = true := by
  unfold B12
  refine newK_w (nilK_w (fN_w (rowK_w ((get_new_has h.hg).trans h.row) (ldC_w rfl ?_))))
  rw [joinX_]
  refine asC_w (chanK_w ((get_new_has h.hc).trans h.ch) ?_)
  cases l with
  | nil =>
    show fB _ _ = true
    refine fB_w ?_
    simp only [pR_]
    refine ifA_w (fun e => absurd e (by decide)) fun _ => nilK_w (stoN_we (ds := pk (0, 0)) (get_new _ _) rfl (by decide) rfl (nilK_w (rowK_w (get_put _ _ _) (ldG_we (ys := pk (0, 0)) (Nat.le_refl _) (by decide) rfl ?_))))
    have o := (Off.new c H (.row (pk (0, 0)))).put (a := H.nx) (not_has_nx H) (.row (pk (0, 0)))
    have hcn : c ≠ H.nx := has_ne h.hc
    exact h1 rfl _ o (h.off o ((get_put_ne hcn).trans ((get_new_has h.hc).trans h.ch)) (by simp))
  | cons x r =>
    show wrK _ _ _ _ = true
    refine wrK_w (fB_w ?_)
    simp only [pR_]
    have hcn : c ≠ H.nx := has_ne h.hc
    have hz : ((H.new (.row (pk (0, 0)))).put c (.chan cap (r.map pk))).nx ≠ H.nx := fun e => by
      have := has_new_self H (.row (pk (0, 0)))
      have h2 : ¬ (H.new (.row (pk (0, 0)))).has (H.new (.row (pk (0, 0)))).nx := not_has_nx _
      exact h2 (by rw [show (H.new (.row (pk (0, 0)))).nx = H.nx from e]; exact this)
    refine ifA_w (fun _ => ?_) (fun e => absurd e (by decide))
    refine asT_w (getL_w rfl (newK_w (stoVg_w ?_)))
    refine stoN_we (ds := pk x) (get_new _ _) rfl (by decide) rfl (rowK_w (get_put _ _ _) (ldG_we (ys := pk x) (Nat.le_refl _) (by decide) rfl (nilK_w ?_)))
    refine stoN_we (cs := pk (0, 0)) (ds := pk x) ((get_put_ne (Ne.symm hz)).trans ((get_new_ne (Ne.symm hz)).trans ((get_put_ne (Ne.symm hcn)).trans (get_new _ _)))) rfl (by decide) rfl (nilK_w (rowK_w (get_put _ _ _) (ldG_we (ys := pk x) (Nat.le_refl _) (by decide) rfl ?_)))
    have o1 := (Off.new c H (.row (pk (0, 0)))).putc (.chan cap (r.map pk))
    have o := ((o1.newr (.row (pk (0, 0)))).put o1.nx (.row (pk x))).put (a := H.nx) (not_has_nx H) (.row (pk x))
    have hc1 : c ≠ ((H.new (.row (pk (0, 0)))).put c (.chan cap (r.map pk))).nx := has_ne (H := (H.new (.row (pk (0, 0)))).put c (.chan cap (r.map pk))) (has_new (b := .row (pk (0, 0))) h.hc)
    refine h2 x r rfl _ o (h.off o ?_ (by have := h.le; simp at this; omega))
    exact (get_put_ne hcn).trans ((get_put_ne hc1).trans ((get_new_ne hc1).trans (get_put _ _ _)))

/-- An append to a slice that a call has made. -/
theorem app_w2 {H0 H : AH} {p : AP} {n z sz bytes m : Nat} {cs ys : List AS} {c : ACap} {K : AP → Nat → ACap → Nat → AH → Bool} (hs : Sl H0 H p n z cs sz) (hle : ∀ a, H0.has a → H.has a) (hy : ys.length = m * sz) (hm : 0 < m)
    (hb : (n + m) * bytes ≤ 140737488355328) (hb2 : n + m ≤ 140737488355328)
    (hk : ∀ p' c' z' H', Sl H0 H' p' (n + m) z' (cs ++ ys) sz → (∀ a, H.has a → H'.has a) → (∀ a, H.has a → p ≠ .at a 0 → H'.get a = H.get a) → K p' (n + m) c' z' H' = true) : appA H p n z sz bytes ys m c K = true := by
  unfold appA
  refine fN_w (okK_w (by rw [Nat.ble_eq_true_of_le hb, Nat.ble_eq_true_of_le hb2]; rfl) ?_)
  have hm0 : Nat.beq m 0 = false := by
    cases h : Nat.beq m 0
    · rfl
    · have := Nat.eq_of_beq_eq_true h; omega
  rw [hm0]
  dsimp only
  rcases hs.rep with ⟨hn, rfl⟩ | ⟨g, rfl, rfl, hg, hh, hn⟩
  · subst hn
    have hc : cs = [] := List.length_eq_zero_iff.1 (by rw [hs.len]; simp)
    subst hc
    exact newK_w (hk _ _ _ _ ⟨by simp [hy], .inr ⟨H.nx, rfl, rfl, by rw [get_new]; rfl, has_new_self _ _, fun hx => not_has_nx H (hle _ hx)⟩⟩ (fun a ha => has_new ha) fun a ha _ => get_new_has ha)
  · dsimp only
    refine okK_w (Nat.beq_refl _) ?_
    rw [rowW_row hg]
    refine ldN_w (ys := cs) (by rw [hs.len]; omega) (by rw [List.drop_zero, List.take_of_length_le (by rw [hs.len]; exact Nat.le_refl _)]) ?_
    refine fL_w ?_
    rw [ap_eq, wrK_none]
    refine newK_w ?_
    refine hk _ _ _ _ ⟨by rw [List.length_append, hs.len, hy, Nat.add_mul], .inr ⟨_, rfl, rfl, get_new _ _, has_new_self _ _, fun hx => not_has_nx (H.del g) (has_del (hle _ hx))⟩⟩ (fun a ha => has_new (has_del ha)) fun a ha hp => ?_
    have hag : a ≠ g := fun e => hp (by rw [e])
    exact (get_new_has (has_del ha)).trans (get_del_ne hag)

def C11 (cl : Cl) : Prop := ∀ H n K, (∀ H' g c, Le H H' → ¬ H.has c → Qu H' g c (min (max n 1) 1000).toNat [] → K (.s (.ptr (.at g 0))) H' = true) → cl 11 [.s (.int .i64 n)] H K = true
def C15 (cl : Cl) : Prop := ∀ H g c cap l K, Qu H g c cap l → K (.s (.int .i64 (l.length : Int))) H = true → cl 15 [.s (.ptr (.at g 0))] H K = true
def C13 (cl : Cl) : Prop := ∀ H g c cap l x K, Qu H g c cap l → (l.length < cap → ∀ H', Off c H H' → Qu H' g c cap (l ++ [x]) → K (.s (.bool true)) H' = true) →
  (l.length = cap → ∀ H', Off c H H' → Qu H' g c cap l → K (.s (.bool false)) H' = true) → cl 13 [.s (.ptr (.at g 0)), .agg (pk x)] H K = true
def C12 (cl : Cl) : Prop := ∀ H g c cap l K, Qu H g c cap l → (l = [] → ∀ H', Off c H H' → Qu H' g c cap [] → K (.tup [.agg (pk (0, 0)), .s (.bool false)]) H' = true) →
  (∀ x r, l = x :: r → ∀ H', Off c H H' → Qu H' g c cap r → K (.tup [.agg (pk x), .s (.bool true)]) H' = true) → cl 12 [.s (.ptr (.at g 0))] H K = true
def pks (l : List (Int × Int)) : List AS := (l.map pk).flatten
def C14 (cl : Cl) : Prop := ∀ H g c cap l K, Qu H g c cap l → (∀ H' p cc z, Off c H H' → Qu H' g c cap l → Sl H H' p l.length z (pks l) 42 → K (.s (.slice p l.length cc z)) H' = true) → cl 14 [.s (.ptr (.at g 0))] H K = true

theorem B14_ {lf : Nat} {cl : Cl} {H : AH} {g c : Pn} {cap : Nat} {l : List (Int × Int)} {K : AV → AH → Bool} (hlf : 1001 < lf) (h12 : C12 cl) (h13 : C13 cl) (h15 : C15 cl) (h : Qu H g c cap l)
    (hk : ∀ H' p cc z, Off c H H' → Qu H' g c cap l → Sl H H' p l.length z (pks l) 42 → K (.s (.slice p l.length cc z)) H' = true) : B14 lf cl (.at g 0) H K = true := by
  unfold B14
  have hn := h.le
  have hn2 := h.most
  refine h15 _ _ _ _ _ _ h (arI_w ?_)
  refine loopX_w (fun x H' => x.1 = .at g 0 ∧ x.2.2.1 = (l.length : Int) ∧ ∃ i : Nat, x.2.2.2 = (i : Int) ∧ i ≤ l.length ∧ Off c H H' ∧ Qu H' g c cap (l.drop i ++ l.take i) ∧ x.2.1.2.1 = i ∧ Sl H H' x.2.1.1 x.2.1.2.1 x.2.1.2.2.2 (pks (l.take i)) 42) (fun x => l.length - x.2.2.2.toNat)
    ⟨rfl, rfl, 0, rfl, by omega, Off.refl _ _, by simpa using h, rfl, Sl.nil⟩ (by simp; omega) ?_
  rintro self ⟨q, ⟨p, m, cc, z⟩, n, _⟩ H1 ⟨hq, hnn, i, hi, hil, o, hqu, hm, hsl⟩ ih
  simp only at hq hnn hi hm hsl
  subst hq hnn hi hm
  simp only [pR_]
  rw [iLt_dec]
  refine ifA_w (fun e => ?_) (fun e => ?_)
  · have e : m < l.length := by simp only [decide_eq_true_eq] at e; omega
    have hd : l.drop m ++ l.take m = l[m] :: (l.drop (m + 1) ++ l.take m) := by rw [List.drop_eq_getElem_cons e]; rfl
    refine h12 _ _ _ _ _ _ hqu (fun hx => ?_) fun x r hx H2 o2 q2 => ?_
    · rw [hd] at hx; cases hx
    rw [hd] at hx
    obtain ⟨rfl, rfl⟩ := List.cons.inj hx
    rw [tup2_, asG_]
    refine arB_w (newK_w (stoN_we (ds := pk l[m]) (get_new _ _) rfl (by decide) rfl (rowK_w (get_put _ _ _) (ldG_we (ys := pk l[m]) (Nat.le_refl _) (by decide) rfl ?_))))
    refine okK_w rfl (fL_w (okK_w rfl (newK_w (elK_w (ys := pk l[m]) (get_new _ _) (by rw [ap_eq, List.append_nil]; exact Nat.le_refl 42) (by rw [ap_eq, List.append_nil]; rfl) ?_))))
    have le27 : Le H2 (((H2.new (.row (pk (0, 0)))).put H2.nx (.row (pk l[m]))).new (.row (ap (α := AS) (pk l[m]) []))) := (((Le.refl H2).newr _).put (not_has_nx H2) _).newr _
    have o3 := o2.trans (.le le27)
    have hp : ∀ a, H.has a → p ≠ .at a 0 := fun a ha e => by
      rcases hsl.rep with ⟨_, e2⟩ | ⟨g', e2, _, _, _, h5⟩
      · rw [e] at e2; cases e2
      · rw [e] at e2; cases e2; exact h5 ha
    have hp2 : p ≠ .at H2.nx 0 := fun e => by
      rcases hsl.rep with ⟨_, e2⟩ | ⟨g', e2, _, _, h4, _⟩
      · rw [e] at e2; cases e2
      · rw [e] at e2; cases e2; exact o2.nx h4
    refine app_w2 (hsl.mono fun a ha hn => ⟨o3.has a ha, o3.get a ha (fun e => hn (e ▸ h.hc))⟩) (fun a ha => o3.has a (o.has a ha)) rfl (by decide) (by omega) (by omega) fun p' c' z' H5 hs5 hh5 hf5 => ?_
    have hb : ((H2.new (.row (pk (0, 0)))).put H2.nx (.row (pk l[m]))).has H2.nx := has_new_self H2 (.row (pk (0, 0)))
    refine rowK_w ((hf5 _ (has_new hb) hp2).trans ((get_new_has hb).trans (get_put _ _ _))) (ldG_we (ys := pk l[m]) (Nat.le_refl _) (by decide) rfl ?_)
    have o5 : Off c H H5 := ⟨fun a ha => hh5 a (o3.has a (o.has a ha)), fun a ha hc => (hf5 a (o3.has a (o.has a ha)) (hp a ha)).trans ((o3.get a (o.has a ha) hc).trans (o.get a ha hc))⟩
    have q5 : Qu H5 g c cap (l.drop (m + 1) ++ l.take m) := h.off o5 ((hf5 c (le27.has c q2.hc) (hp c h.hc)).trans ((le27.get c q2.hc).trans q2.ch)) q2.le
    have hlen : (l.drop (m + 1) ++ l.take m).length = l.length - 1 := by simp; omega
    refine h13 _ _ _ _ _ _ _ q5 (fun _ H6 o6 q6 => arB_w ?_) (fun e => by omega)
    rw [iAdd_]
    have ht : l.take (m + 1) = l.take m ++ [l[m]] := by simp
    refine w64_w (by simp only [Int.ofNat_eq_natCast]; omega) (by simp only [Int.ofNat_eq_natCast]; omega) (ih _ _ ⟨rfl, rfl, m + 1, by simp, by omega, o5.trans o6, ?_, rfl, ?_⟩ ?_)
    · rw [ht, ← List.append_assoc]; exact q6
    · rw [ht]
      have : pks (l.take m ++ [l[m]]) = pks (l.take m) ++ pk l[m] := by unfold pks; rw [List.map_append, List.flatten_append]; simp only [List.map_cons, List.map_nil, List.flatten_cons, List.flatten_nil, List.append_nil]
      rw [this]
      exact hs5.mono fun a ha hn => ⟨o6.has a ha, o6.get a ha (fun e => hn (e ▸ h.hc))⟩
    · simp only [Int.ofNat_eq_natCast]; omega
  · have e : m = l.length := by simp only [decide_eq_false_iff_not] at e; omega
    subst e
    refine hk _ _ _ _ o (by simpa using hqu) ?_
    simpa using hsl
end Go.Proofs
