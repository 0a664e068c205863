import Derived.Test.YtplfaoobmdgiaaaDD
import Derived.Test.YtplfaoobmdgiaaaDU
import Derived.Test.YtplfaoobmdgiaaaVwClone
import Derived.Test.YtplfaoobmdgiaaaBQ
import Derived.Test.YtplfaoobmdgiaaaVwRead3
section
/- The quadtree's depth, by the points alone. -/
namespace Go.Proofs
open Go Go.Vw Go.Vw.Ev
set_option linter.unusedVariables false
set_option linter.unusedSimpArgs false

def inK (pos : Int → Pt) (x y : Int) (d i : Nat) (id : Int) : Bool := kid (pos id) x y d == i
def deepN (pos : Int → Pt) : Nat → List Int → Int → Int → Nat → Nat
  | 0, _, _, _, _ => 0
  | h + 1, l, x, y, d => if l.length ≤ 4 then 0 else
    max (max (max (max 0 (1 + deepN pos h (l.filter (inK pos x y d 0)) (kx x d 0) (ky y d 0) (d + 1))) (1 + deepN pos h (l.filter (inK pos x y d 1)) (kx x d 1) (ky y d 1) (d + 1)))
      (1 + deepN pos h (l.filter (inK pos x y d 2)) (kx x d 2) (ky y d 2) (d + 1))) (1 + deepN pos h (l.filter (inK pos x y d 3)) (kx x d 3) (ky y d 3) (d + 1))
theorem filt_same {pos : Int → Pt} {x y : Int} {d i : Nat} {l : List Int} (h : ∀ id ∈ l, kid (pos id) x y d = i) : l.filter (inK pos x y d i) = l := List.filter_eq_self.2 fun id hid => by simp [inK, h id hid]
theorem filt_none {pos : Int → Pt} {x y : Int} {d i j : Nat} {l : List Int} (h : ∀ id ∈ l, kid (pos id) x y d = j) (hn : j ≠ i) : l.filter (inK pos x y d i) = [] := List.filter_eq_nil_iff.2 fun id hid => by simp [inK, h id hid, hn]
theorem all_kid {pos : Int → Pt} {b : Pn} {k : Nat → QT} {x y : Int} {d : Nat} (hi : Inv pos (.node b k) x y d) : ∀ i, i < 4 → (QT.node b k).all.filter (inK pos x y d i) = (k i).all := by
  obtain ⟨h1, h2, h3⟩ := inv_node.1 hi
  have hk : ∀ j, j < 4 → ∀ id ∈ (k j).all, kid (pos id) x y d = j := fun j hj id hid => ((h3 j hj).mem id hid).up (by omega) hj |>.2
  have a := hk 0 (by decide)
  have b := hk 1 (by decide)
  have c := hk 2 (by decide)
  have e := hk 3 (by decide)
  refine lt4 (P := fun i => (QT.node _ k).all.filter (inK pos x y d i) = (k i).all) ?_ ?_ ?_ ?_ <;> simp only [QT.all, List.filter_append]
  · rw [filt_same a, filt_none b (by decide), filt_none c (by decide), filt_none e (by decide)]; simp
  · rw [filt_same b, filt_none a (by decide), filt_none c (by decide), filt_none e (by decide)]; simp
  · rw [filt_same c, filt_none b (by decide), filt_none a (by decide), filt_none e (by decide)]; simp
  · rw [filt_same e, filt_none b (by decide), filt_none c (by decide), filt_none a (by decide)]; simp
theorem dep_deepN {pos : Int → Pt} : ∀ {q : QT} {x y : Int} {d h : Nat}, Inv pos q x y d → d + h = 4 → q.dep = deepN pos h q.all x y d
  | .leaf _ _ _ ids, x, y, d, h, hi, hd => by
    cases h with
    | zero => rfl
    | succ h =>
      have : ids.length ≤ 4 := by rcases hi.1 with h | h <;> omega
      simp [QT.dep, deepN, QT.all, this]
  | .node b k, x, y, d, h, hi, hd => by
    obtain ⟨h1, h2, h3⟩ := inv_node.1 hi
    obtain ⟨h, rfl⟩ : ∃ h', h = h' + 1 := ⟨h - 1, by omega⟩
    have e := all_kid hi
    rw [deepN, if_neg (by omega), e 0 (by decide), e 1 (by decide), e 2 (by decide), e 3 (by decide), ← dep_deepN (h3 0 (by decide)) (by omega), ← dep_deepN (h3 1 (by decide)) (by omega), ← dep_deepN (h3 2 (by decide)) (by omega), ← dep_deepN (h3 3 (by decide)) (by omega)]
    rfl
theorem deepN_perm {pos : Int → Pt} : ∀ (h : Nat) {l l' : List Int} (x y : Int) (d : Nat), l.Perm l' → deepN pos h l x y d = deepN pos h l' x y d
  | 0, _, _, _, _, _, _ => rfl
  | h + 1, l, l', x, y, d, hp => by
    have f := fun i => deepN_perm (pos := pos) h (kx x d i) (ky y d i) (d + 1) (hp.filter (inK pos x y d i))
    simp only [deepN, hp.length_eq, f]
theorem deepN_sub {pos : Int → Pt} : ∀ (h : Nat) {l l' : List Int} (x y : Int) (d : Nat), l.Sublist l' → deepN pos h l x y d ≤ deepN pos h l' x y d
  | 0, _, _, _, _, _, _ => Nat.le_refl _
  | h + 1, l, l', x, y, d, hp => by
    have f := fun i => deepN_sub (pos := pos) h (kx x d i) (ky y d i) (d + 1) (hp.filter (inK pos x y d i))
    have f0 := f 0
    have f1 := f 1
    have f2 := f 2
    have f3 := f 3
    have := hp.length_le
    unfold deepN
    split
    · exact Nat.zero_le _
    · rw [if_neg (by omega)]; omega
theorem deepN_congr {pos pos' : Int → Pt} : ∀ (h : Nat) {l : List Int} (x y : Int) (d : Nat), (∀ id ∈ l, pos id = pos' id) → deepN pos h l x y d = deepN pos' h l x y d
  | 0, _, _, _, _, _ => rfl
  | h + 1, l, x, y, d, he => by
    have e : ∀ i, l.filter (inK pos x y d i) = l.filter (inK pos' x y d i) := fun i => List.filter_congr fun id hid => by simp only [inK, he id hid]
    have f := fun i => deepN_congr (pos := pos) (pos' := pos') h (l := l.filter (inK pos' x y d i)) (kx x d i) (ky y d i) (d + 1) (fun id hid => he id (List.mem_filter.1 hid).1)
    simp only [deepN, e, f]
theorem deepN_le {pos : Int → Pt} : ∀ (h : Nat) (l : List Int) (x y : Int) (d : Nat), deepN pos h l x y d ≤ h
  | 0, _, _, _, _ => Nat.le_refl _
  | h + 1, l, x, y, d => by
    have f := fun i => deepN_le (pos := pos) h (l.filter (inK pos x y d i)) (kx x d i) (ky y d i) (d + 1)
    have f0 := f 0
    have f1 := f 1
    have f2 := f 2
    have f3 := f 3
    unfold deepN
    split <;> omega
/-- Five at one place are as deep as may be. -/
theorem deepN_five {pos : Int → Pt} {p : Pt} : ∀ (h : Nat) {l : List Int} (x y : Int) (d : Nat), 4 < (l.filter fun id => decide (pos id = p)).length → deepN pos h l x y d = h
  | 0, _, _, _, _, _ => rfl
  | h + 1, l, x, y, d, hl => by
    have h1 : (l.filter fun id => decide (pos id = p)).length ≤ l.length := List.length_filter_le _ _
    have e : (l.filter (inK pos x y d (kid p x y d))).filter (fun id => decide (pos id = p)) = l.filter fun id => decide (pos id = p) := by
      rw [List.filter_filter]
      refine List.filter_congr fun id _ => ?_
      by_cases hp : pos id = p
      · simp [hp, inK]
      · simp [hp]
    have f := deepN_five (pos := pos) (p := p) h (l := l.filter (inK pos x y d (kid p x y d))) (kx x d (kid p x y d)) (ky y d (kid p x y d)) (d + 1) (by rw [e]; exact hl)
    have g := fun i => deepN_le (pos := pos) h (l.filter (inK pos x y d i)) (kx x d i) (ky y d i) (d + 1)
    have g0 := g 0
    have g1 := g 1
    have g2 := g 2
    have g3 := g 3
    have hk := kid_lt p x y d
    rw [deepN, if_neg (by omega)]
    rcases (by omega : kid p x y d = 0 ∨ kid p x y d = 1 ∨ kid p x y d = 2 ∨ kid p x y d = 3) with e | e | e | e <;> rw [e] at f <;> omega
def depL (L : List (Int × Pt)) : Nat := deepN (posOf L) 4 (aKeys L) 0 0 0
def CDepthL (cl : Cl) : Prop := ∀ H g L O K, TR H g L O → K (.s (.int .i64 (depL L : Nat))) H = true → cl i_quad_Tree_Depth [.s (.ptr (.at g 0))] H K = true
theorem CDepth.pure {cl : Cl} (h : CDepth cl) : CDepthL cl := fun H g L O K tr hk => h H g L O K tr fun q hq hp => by
  rw [dep_deepN hq (h := 4) (by omega), deepN_perm 4 0 0 0 hp]; exact hk
theorem depL_le (L : List (Int × Pt)) : depL L ≤ 4 := deepN_le 4 _ _ _ _
end Go.Proofs
end
section
/- Copies: of the tree, the table. -/
namespace Go.Proofs
open Go Go.Vw Go.Vw.Ev
set_option linter.unusedVariables false
set_option linter.unusedSimpArgs false

theorem keys_sorted2_ {g : Nat} {gs : List Nat} (hg : memN g gs = true) {cl cl' : Cl} {H : AH} {m : Pn} {es : List (Int × AV)} {K : AV → AH → Bool} (hm : H.get m = some (.imap es)) (hh : H.has m) (hr : ∀ k ∈ keysOf es, 0 ≤ k ∧ k ≤ 9223372036854775807) (hl : es.length ≤ 1000000)
    (hk : ∀ H' p c z, Le H H' → IS H' p (srtI (keysOf es)).length z (srtI (keysOf es)) → (∀ a, ownP p a → ¬ H.has a) → K (.s (.slice p (srtI (keysOf es)).length c z)) H' = true) : keysB g cl [.s (.map (some m))] H (fun r h => sortedB gs cl' [r] h K) = true := by
  unfold keysB
  refine new_w fun b H1 h1 hb nb gb => ?_
  unfold sortedB
  refine okK_w hg ?_
  rw [show H1.t.get b = some (.one (.map (some m))) from gb]
  refine mapK_w ((h1.get _ hh).trans hm) (okK_w ?_ (fL_w ?_))
  · rw [allIn_of fun x hx => inR_of (hr x hx).1 (hr x hx).2, ln_eq, Nat.ble_eq_true_of_le hl]; rfl
  · cases e : srtI (keysOf es) with
    | nil =>
      have := hk H1 .nil (.lit 0) 1 h1
      rw [e] at this
      exact this ⟨rfl, .inl ⟨rfl, rfl⟩⟩ fun a ⟨o, h⟩ => by cases h
    | cons k r =>
      refine new_w fun c H2 h2 hc nc gc => ?_
      rw [ln_eq]
      rw [e] at hk
      refine hk H2 (.at c 0) _ 1 (h1.trans h2) ⟨rfl, .inr ⟨c, _, rfl, rfl, hc, gc, by rw [intsA_len]; exact Nat.le_refl _, ?_⟩⟩ fun a ⟨o, h⟩ => ?_
      · rw [List.take_of_length_le (by rw [intsA_len]; exact Nat.le_refl _)]
      · cases h
        exact fun h => nc (h1.has _ h)
theorem TR.onKC {H : AH} {g : Pn} {L : List (Int × Pt)} {O : Pn → Prop} (h : TR H g L O) : ∀ k ∈ aKeys L, On (posOf L k) = true ∧ 0 ≤ k ∧ k ≤ 9223372036854775807 := by
  obtain ⟨m, q, t, _⟩ := h
  exact fun k hk => ⟨on_sq.2 (t.inv.mem k (t.perm.mem_iff.2 hk)), t.kb k hk⟩
def CQCopy (cl : Cl) : Prop := ∀ H g L O K, TR H g L O → (∀ H' g' L' O', Le H H' → TR H' g' L' O' → (∀ a, O' a → ¬ H.has a) → (∀ k, aGet L' k = aGet L k) → K (.s (.ptr (.at g' 0))) H' = true) → cl i_quad_Tree_Copy [.s (.ptr (.at g 0))] H K = true
def CKeysP (cl : Cl) : Prop := ∀ H m es K, H.get m = some (.imap es) → H.has m → (∀ k ∈ keysOf es, 0 ≤ k ∧ k ≤ 9223372036854775807) → es.length ≤ 1000000 →
  (∀ H' p c z, Le H H' → IS H' p (srtI (keysOf es)).length z (srtI (keysOf es)) → (∀ a, ownP p a → ¬ H.has a) → K (.s (.slice p (srtI (keysOf es)).length c z)) H' = true) → cl i_maps_Keys_int_Point [.s (.map (some m))] H (fun r h => cl i_slices_Sorted_int [r] h K) = true
theorem B_quad_Tree_Copy_ {lf : Nat} {cl : Cl} (hlf : 20000 ≤ lf) (hnew : CNewQ cl) (hks : CKeysP cl) (hlay : CLay cl) {H : AH} {g : Pn} {L : List (Int × Pt)} {O : Pn → Prop} {K : AV → AH → Bool} (tr : TR H g L O)
    (hk : ∀ H' g' L' O', Le H H' → TR H' g' L' O' → (∀ a, O' a → ¬ H.has a) → (∀ k, aGet L' k = aGet L k) → K (.s (.ptr (.at g' 0))) H' = true) : B_quad_Tree_Copy lf cl (.at g 0) H K = true := by
  have ton := TR.onKC tr
  have nodL := TR.nodK tr
  obtain ⟨m, q, t, _⟩ := tr
  have llen : (aKeys L).length < 10000 := t.len
  have hLl : L.length = (aKeys L).length := by simp [aKeys]
  unfold B_quad_Tree_Copy
  refine hnew _ _ fun H1 g' O' h1 tr1 z1 => ?_
  rw [asP_]
  simp only [nilK_at, fN_eq, Nat.add_eq, Nat.zero_add]
  have gg1 := (h1.get _ t.has).trans t.get
  have gm1 := (h1.get _ t.hasm).trans t.map
  refine rowK_w gg1 (ldM_w rfl ?_)
  refine hks H1 m (aImg ptV L) _ gm1 (h1.has _ t.hasm) (by rw [keysOf_img]; exact fun k hk => (ton k hk).2) (by rw [aImg_length]; omega) fun H2 p c z h2 is2 own2 => ?_
  rw [asSl_]
  rw [keysOf_img] at *
  have hsl : (srtI (aKeys L)).length = (aKeys L).length := srtI_len _
  have snod : (srtI (aKeys L)).Nodup := (srtI_perm _).nodup_iff.2 nodL
  refine loopX_w (fun x Hx => x.1 = .at g 0 ∧ x.2.1 = .at g' 0 ∧ x.2.2.1 = (p, (srtI (aKeys L)).length, c, z) ∧ x.2.2.2.1 = ((srtI (aKeys L)).length : Int) ∧ Le H Hx ∧ ∃ i : Nat, x.2.2.2.2 = (i : Int) ∧ i ≤ (srtI (aKeys L)).length ∧ ∃ L' O', TR Hx g' L' O' ∧ (∀ a, O' a → ¬ H.has a) ∧
      IS Hx p (srtI (aKeys L)).length z (srtI (aKeys L)) ∧ (∀ a, ownP p a → ¬ O' a) ∧ (∀ k, k ∈ aKeys L' ↔ k ∈ (srtI (aKeys L)).take i) ∧ (∀ k ∈ aKeys L', aGet L' k = some (posOf L k)) ∧ L'.length = i) (fun x => 10000 - x.2.2.2.2.toNat)
    ⟨rfl, rfl, rfl, rfl, h1.trans h2, 0, rfl, by omega, [], O', tr1.le h2, z1, is2, fun a ha h => own2 a ha (TRq.has tr1 a h), fun k => ⟨fun h => (by cases h), fun h => (by simp at h)⟩, fun k h => (by cases h), rfl⟩ (by simp; omega) ?_
  clear tr1 z1 is2 own2 O'
  rintro self ⟨x1, x2, x3, x4, x5⟩ Hx ⟨e1, e2, e3, e4, hL, i, e5, hi, L', O', tr', hz, is, own, keys, vals, ll⟩ ih
  simp only at e1 e2 e3 e4 e5
  subst e1 e2 e3 e4 e5
  simp only [pR_, fB_eq, iLt_dec]
  refine ifA_w (fun hx => ?_) (fun hx => ?_)
  · have hx : i < (srtI (aKeys L)).length := by have := of_decide_eq_true hx; omega
    obtain ⟨g4, cs4, rfl, hh4, hg4, hc4⟩ := is.at (i := i) hx
    simp only [nilK_at, fN_eq, Nat.add_eq, Nat.mul_eq, Nat.zero_add, Nat.mul_one]
    refine idxK_w (by omega) (by omega) (rowK_w hg4 (ldI_w (by rw [Int.toNat_natCast]; exact hc4) ?_))
    have ggx := (hL.get _ t.has).trans t.get
    have gmx := (hL.get _ t.hasm).trans t.map
    refine rowK_w ggx (ldM_w rfl (asMp_w (mapK_w gmx (lkP_w ?_))))
    show asG (.agg (ptC _)) _ = true
    rw [asG_]
    have hmem : (srtI (aKeys L))[i] ∈ aKeys L := (srtI_perm _).mem_iff.1 (List.getElem_mem hx)
    have hnot : (srtI (aKeys L))[i] ∉ aKeys L' := fun h => by
      have h := (keys _).1 h
      obtain ⟨j, hj, e⟩ := List.getElem_of_mem h
      rw [List.getElem_take] at e
      have hji : j < i := by rw [List.length_take] at hj; omega
      exact absurd ((List.getElem_inj snod).1 e) (by omega)
    obtain ⟨on, k0, k1⟩ := ton _ hmem
    refine hlay Hx g' L' (aKeys L') O' _ (posOf L (srtI (aKeys L))[i]) _ tr' hnot on k0 k1 (by simp [aKeys]; omega) fun H3 O3 f3 t3 o3 => ?_
    rw [tup0_, iAdd_]
    have own3 : ∀ a, ownP (.at g4 0) a → ¬ O3 a := fun a ha h => (o3 a h).elim (own a ha) fun h => h (is.own_has a ha)
    refine w64_w (by simp only [Int.ofNat_eq_natCast]; omega) (by simp only [Int.ofNat_eq_natCast]; omega) (ih _ _ ⟨rfl, rfl, rfl, rfl, ⟨fun a ha => f3.has a (hL.has a ha), fun a ha => (f3.get a (hL.has a ha) fun h => hz a h ha).trans (hL.get a ha)⟩, i + 1, by simp, by omega,
      aSet L' (srtI (aKeys L))[i] (posOf L (srtI (aKeys L))[i]), O3, ?_, fun a h => (o3 a h).elim (hz a) fun h hh => h (hL.has a hh), is.fr f3 own, own3, fun k => ?_, fun k hk' => ?_, ?_⟩ (by simp; omega))
    · refine TRq.permute t3 ?_
      rw [aKeys_set_new _ _ hnot]
      exact (List.perm_append_singleton _ _).symm
    · rw [aKeys_set_new _ _ hnot, List.take_succ_eq_append_getElem hx, List.mem_append, List.mem_append, keys k]
    · rw [aKeys_set_new _ _ hnot, List.mem_append, List.mem_singleton] at hk'
      by_cases e : k = (srtI (aKeys L))[i]
      · rw [e, aGet_set_same]
      · rw [aGet_set_ne _ _ e]; exact vals k (hk'.resolve_right e)
    · have := congrArg List.length (aKeys_set_new L' (posOf L (srtI (aKeys L))[i]) hnot)
      simp only [aKeys, List.length_map, List.length_append, List.length_cons, List.length_nil] at this
      simp only [aKeys] at *
      omega
  · have hx : i = (srtI (aKeys L)).length := by have := of_decide_eq_false hx; omega
    rw [hx, List.take_length] at keys
    refine hk _ _ _ _ hL tr' hz fun k => ?_
    by_cases hm : k ∈ aKeys L
    · rw [vals k ((keys k).2 ((srtI_perm _).mem_iff.2 hm))]
      obtain ⟨v, hv⟩ := Option.isSome_iff_exists.1 (mem_get.1 hm)
      unfold posOf
      rw [hv]; rfl
    · rw [aGet_none.2 hm, aGet_none.2 fun h => hm ((srtI_perm _).mem_iff.1 ((keys k).1 h))]
def CCloneT (cl : Cl) : Prop := ∀ H m es K, H.get m = some (.imap es) → (∀ g H', Le H H' → H'.has g → ¬ H.has g → H'.get g = some (.imap es) → K (.s (.map (some g))) H' = true) → cl i_maps_Clone_int_Thing [.s (.map (some m))] H K = true
theorem cloneB_ {cl : Cl} {H : AH} {m : Pn} {es : List (Int × AV)} {K : AV → AH → Bool} (hm : H.get m = some (.imap es)) (hk : ∀ g H', Le H H' → H'.has g → ¬ H.has g → H'.get g = some (.imap es) → K (.s (.map (some g))) H' = true) : cloneB cl [.s (.map (some m))] H K = true := by
  unfold cloneB
  exact mapK_w hm (new_w fun g H' h1 h2 h3 h4 => hk g H' h1 h2 h3 h4)
def CTCopy (cl : Cl) : Prop := ∀ H g L O K, TT H g L O → (∀ H' g' O', Le H H' → TT H' g' L O' → (∀ a, O' a → ¬ H.has a) → K (.s (.ptr (.at g' 0))) H' = true) → cl i_table_Table_Copy [.s (.ptr (.at g 0))] H K = true
theorem B_table_Table_Copy_ {lf : Nat} {cl : Cl} (hcl : CCloneT cl) (hq : CQCopy cl) {H : AH} {g : Pn} {L : List (Int × Th)} {O : Pn → Prop} {K : AV → AH → Bool} (tt : TT H g L O)
    (hk : ∀ H' g' O', Le H H' → TT H' g' L O' → (∀ a, O' a → ¬ H.has a) → K (.s (.ptr (.at g' 0))) H' = true) : B_table_Table_Copy lf cl (.at g 0) H K = true := by
  obtain ⟨m, q, Lq, Oq, tb, rfl⟩ := tt
  unfold B_table_Table_Copy
  simp only [nilK_at, fN_eq, Nat.add_eq, Nat.zero_add]
  refine rowK_w tb.get (ldM_w rfl (getK_w tb.get (rowK_w tb.get (ldP_w rfl ?_))))
  refine hcl H m _ _ tb.map fun m' H1 h1 hm1 nm gm1 => ?_
  have tb1 := tb.le h1
  refine okK_w (kSame_p tb1.get rfl rfl) ?_
  show cl i_quad_Tree_Copy _ H1 _ = true
  refine hq H1 q Lq Oq _ tb1.tr fun H2 q' L' O' h2 t2 z2 e2 => ?_
  rw [asP_]
  refine new_w fun g' H3 h3 hg3 ng gg3 => ?_
  have hm2 := h2.has _ hm1
  have ngm : g' ≠ m' := fun e => ng (e ▸ hm2)
  refine hk H3 g' (ownT g' m' O') (h1.trans (h2.trans h3)) ⟨m', q', L', O', ⟨hg3, gg3, h3.has _ hm2, (h3.get _ hm2).trans ((h2.get _ hm1).trans gm1), t2.le h3, ngm, fun h => ng (TRq.has t2 _ h), fun h => z2 _ h hm1, tb.nod, fun k => by rw [e2, tb.pos], tb.ok⟩, rfl⟩ fun a ha => ?_
  rcases ha with rfl | rfl | ha
  · exact fun h => ng (h2.has _ (h1.has _ h))
  · exact nm
  · exact fun h => z2 _ ha (h1.has _ h)
end Go.Proofs
end
section
/- The reference's tree of marks: its row, what its methods come to. -/
namespace Go.Proofs
open Go Go.Vw Go.Vw.Ev
set_option linter.unusedVariables false
set_option linter.unusedSimpArgs false

/-! The row's cells. -/
def mkC (m : Int × Pt) : List AS := .int .i64 m.1 :: ptC m.2
def mksC (M : List (Int × Pt)) : List AS := M.flatMap mkC
theorem mkC_len (m : Int × Pt) : (mkC m).length = 3 := rfl
theorem mksC_len : ∀ M : List (Int × Pt), (mksC M).length = M.length * 3
  | [] => rfl
  | m :: r => by have := mksC_len r; simp only [mksC, List.flatMap_cons, List.length_append] at *; rw [this, mkC_len, List.length_cons]; omega
theorem mksC_app (A B : List (Int × Pt)) : mksC (A ++ B) = mksC A ++ mksC B := List.flatMap_append
theorem mksC_cons (m : Int × Pt) (B : List (Int × Pt)) : mksC (m :: B) = mkC m ++ mksC B := rfl
theorem mks_drop (A B : List (Int × Pt)) (k : Nat) : (mksC (A ++ B)).drop (A.length * 3 + k) = (mksC B).drop k := by
  rw [mksC_app, ← mksC_len A, ← List.drop_drop, List.drop_left]
theorem mks_take (A B : List (Int × Pt)) (k : Nat) : (mksC (A ++ B)).take (A.length * 3 + k) = mksC A ++ (mksC B).take k := by
  rw [mksC_app, ← mksC_len A, List.take_length_add_append]
theorem mks_id {A B : List (Int × Pt)} {m : Int × Pt} {j : Nat} (h : A.length = j) : (mksC (A ++ m :: B))[j * 3]? = some (.int .i64 m.1) := by
  have e := mks_drop A (m :: B) 0
  rw [h] at e
  have : ((mksC (A ++ m :: B)).drop (j * 3 + 0))[0]? = some (.int .i64 m.1) := by rw [e]; rfl
  rw [List.getElem?_drop] at this
  exact this
theorem mks_all {A B : List (Int × Pt)} {m : Int × Pt} {j : Nat} (h : A.length = j) : ((mksC (A ++ m :: B)).drop (j * 3)).take 3 = mkC m := by
  have e := mks_drop A (m :: B) 0
  rw [h] at e
  rw [show j * 3 = j * 3 + 0 from rfl, e]; rfl
theorem mks_pt {A B : List (Int × Pt)} {m : Int × Pt} {j : Nat} (h : A.length = j) : ((mksC (A ++ m :: B)).drop (j * 3 + 1)).take 2 = ptC m.2 := by
  have e := mks_drop A (m :: B) 1
  rw [h] at e
  rw [e]; rfl
theorem mks_lt {A B : List (Int × Pt)} {m : Int × Pt} {j : Nat} (h : A.length = j) : j * 3 + 3 ≤ (mksC (A ++ m :: B)).length := by
  rw [mksC_len, List.length_append, List.length_cons]; omega
theorem mks_put {A B : List (Int × Pt)} {w v : Int × Pt} {j : Nat} (h : A.length = j) : (mksC (A ++ w :: B)).take (j * 3) ++ (mkC v ++ (mksC (A ++ w :: B)).drop (j * 3 + 3)) = mksC (A ++ v :: B) := by
  have e1 := mks_drop A (w :: B) 3
  have e2 := mks_take A (w :: B) 0
  rw [h] at e1 e2
  rw [e1, show j * 3 = j * 3 + 0 from rfl, e2, mksC_app, mksC_cons]
  simp [mksC_cons, mkC, ptC]
theorem mks_mov {A B : List (Int × Pt)} {i : Int} {q p : Pt} {j : Nat} (h : A.length = j) : (mksC (A ++ (i, q) :: B)).take (j * 3 + 1) ++ (ptC p ++ (mksC (A ++ (i, q) :: B)).drop (j * 3 + 1 + 2)) = mksC (A ++ (i, p) :: B) := by
  have e1 := mks_drop A ((i, q) :: B) 3
  have e2 := mks_take A ((i, q) :: B) 1
  rw [h] at e1 e2
  rw [show j * 3 + 1 + 2 = j * 3 + 3 from rfl, e1, e2, mksC_app]
  simp [mksC_cons, mkC, ptC]
theorem at_split {M : List (Int × Pt)} {i : Nat} (h : i < M.length) : M = M.take i ++ M[i] :: M.drop (i + 1) ∧ (M.take i).length = i :=
  ⟨by rw [← List.drop_eq_getElem_cons h, List.take_append_drop], by simp; omega⟩
/-- A row of marks at p. -/
def MP (H : AH) (p : AP) (z : Nat) (M : List (Int × Pt)) : Prop := (M = [] ∧ p = .nil) ∨ ∃ b, p = .at b 0 ∧ z = 3 ∧ H.has b ∧ H.get b = some (.row (mksC M))
theorem MP.fr {F : Pn → Prop} {H H' : AH} {p : AP} {z : Nat} {M : List (Int × Pt)} (h : MP H p z M) (k : Fr F H H') (hf : ∀ a, ownP p a → ¬ F a) : MP H' p z M :=
  h.imp id fun ⟨b, e, hz, hb, gb⟩ => ⟨b, e, hz, k.has b hb, (k.get b hb (hf b ⟨0, e⟩)).trans gb⟩
theorem MP.has {H : AH} {p : AP} {z : Nat} {M : List (Int × Pt)} (h : MP H p z M) (a : Pn) (ha : ownP p a) : H.has a := by
  obtain ⟨o, rfl⟩ := ha
  rcases h with ⟨_, e⟩ | ⟨b, e, _, hb, _⟩
  · cases e
  · cases e; exact hb
/-- A tree of marks at g. -/
structure MR (H : AH) (g : Pn) (p : AP) (c : ACap) (z : Nat) (M : List (Int × Pt)) : Prop where
  has : H.has g
  get : H.get g = some (.row [.slice p M.length c z])
  cap : CapOk c M.length
  row : MP H p z M
  off : ¬ ownP p g
def MT (H : AH) (g : Pn) (M : List (Int × Pt)) (O : Pn → Prop) : Prop := ∃ p c z, MR H g p c z M ∧ O = fun a => a = g ∨ ownP p a
theorem MT.fr {F : Pn → Prop} {H H' : AH} {g : Pn} {M : List (Int × Pt)} {O : Pn → Prop} (h : MT H g M O) (k : Fr F H H') (hf : apart O F) : MT H' g M O := by
  obtain ⟨p, c, z, m, rfl⟩ := h
  exact ⟨p, c, z, ⟨k.has g m.has, (k.get g m.has (hf g (.inl rfl))).trans m.get, m.cap, m.row.fr k fun a ha => hf a (.inr ha), m.off⟩, rfl⟩
theorem MT.le {H H' : AH} {g : Pn} {M : List (Int × Pt)} {O : Pn → Prop} (h : MT H g M O) (k : Le H H') : MT H' g M O := h.fr (k.fr fun _ => False) fun _ _ => id
theorem MT.has {H : AH} {g : Pn} {M : List (Int × Pt)} {O : Pn → Prop} (h : MT H g M O) (a : Pn) (ha : O a) : H.has a := by
  obtain ⟨p, c, z, m, rfl⟩ := h
  rcases ha with rfl | ha
  · exact m.has
  · exact m.row.has a ha
/-! Lists by their numbers. -/
theorem aGet_app {A B : List (Int × Pt)} {id : Int} (h : id ∉ aKeys A) : aGet (A ++ B) id = aGet B id := by
  induction A with
  | nil => rfl
  | cons x r ih =>
    simp only [aKeys, List.map_cons, List.mem_cons, not_or] at h
    rw [List.cons_append, aGet, if_neg (fun e => h.1 e.symm), ih h.2]
theorem aSet_app {A B : List (Int × Pt)} {id : Int} {p : Pt} (h : id ∉ aKeys A) : aSet (A ++ B) id p = A ++ aSet B id p := by
  induction A with
  | nil => rfl
  | cons x r ih =>
    simp only [aKeys, List.map_cons, List.mem_cons, not_or] at h
    rw [List.cons_append, aSet, if_neg (fun e => h.1 e.symm), ih h.2]; rfl
theorem aDel_out {A : List (Int × Pt)} {id : Int} (h : id ∉ aKeys A) : aDel A id = A := aDel_none (aGet_none.2 h)
theorem aDel_app : ∀ (A B : List (Int × Pt)) (id : Int), aDel (A ++ B) id = aDel A id ++ aDel B id
  | [], _, _ => rfl
  | x :: r, B, id => by
    rw [List.cons_append, aDel, aDel, aDel_app r B id]
    split <;> rfl
def MIx (M : List (Int × Pt)) (id r : Int) : Prop := (∃ A q B, M = A ++ (id, q) :: B ∧ r = (A.length : Int) ∧ id ∉ aKeys A) ∨ (r = -1 ∧ id ∉ aKeys M)
theorem MIx.some {M : List (Int × Pt)} {id r : Int} (h : MIx M id r) : 0 ≤ r ↔ (aGet M id).isSome = true := by
  rcases h with ⟨A, q, B, rfl, rfl, hA⟩ | ⟨rfl, hn⟩
  · rw [aGet_app hA]; simp [aGet]
  · rw [aGet_none.2 hn]; simp
def insM (x : Int × Pt) : List (Int × Pt) → List (Int × Pt)
  | [] => [x]
  | m :: r => if m.1 < x.1 then m :: insM x r else x :: m :: r
theorem insM_at {x : Int × Pt} : ∀ {M : List (Int × Pt)} {k : Nat}, k ≤ M.length → (∀ j (h : j < M.length), j < k → M[j].1 < x.1) → (∀ h : k < M.length, ¬ M[k].1 < x.1) → M.take k ++ x :: M.drop k = insM x M
  | [], k, hk, _, _ => by simp [insM]
  | m :: r, 0, _, _, h => by
    have this : ¬ m.1 < x.1 := h (by simp)
    unfold insM
    exact (if_neg this).symm
  | m :: r, k + 1, hk, h1, h2 => by
    have h0 : m.1 < x.1 := h1 0 (by simp) (by omega)
    rw [insM, if_pos h0, ← insM_at (k := k) (by simpa using hk) (fun j hj h => h1 (j + 1) (by simpa using hj) (by omega)) (fun h => h2 (by simpa using h))]
    rfl
def mputE (M : List (Int × Pt)) (id : Int) (p : Pt) : Int := if id < 0 then 11 else if On p = false then 14 else if (aGet M id).isSome = true then 11 else if 200 ≤ M.length then 16 else 0
def mputL (M : List (Int × Pt)) (id : Int) (p : Pt) : List (Int × Pt) := if mputE M id p = 0 then insM (id, p) M else M
/-! Where a number is. -/
def CMat (cl : Cl) : Prop := ∀ H g M O id K, MT H g M O → M.length < 10000 → (∀ r : Int, MIx M id r → K (.s (.int .i64 r)) H = true) → cl i_ref8_Tree_at [.s (.ptr (.at g 0)), .s (.int .i64 id)] H K = true
theorem B_ref8_Tree_at_ {lf : Nat} {cl : Cl} (hlf : 100000 ≤ lf) {H : AH} {g : Pn} {M : List (Int × Pt)} {O : Pn → Prop} {id : Int} {K : AV → AH → Bool} (mt : MT H g M O) (hn : M.length < 10000)
    (hk : ∀ r : Int, MIx M id r → K (.s (.int .i64 r)) H = true) : B_ref8_Tree_at lf cl (.at g 0) id H K = true := by
  unfold B_ref8_Tree_at
  obtain ⟨p, c, z, m, rfl⟩ := mt
  refine loopX_w (fun x Hx => Hx = H ∧ ∃ i : Nat, x = (.at g 0, id, (i : Int)) ∧ i ≤ M.length ∧ id ∉ aKeys (M.take i)) (fun x => M.length - x.2.2.toNat) ⟨rfl, 0, rfl, by omega, by simp [aKeys]⟩ (by simp; omega) ?_
  rintro self x Hx ⟨rfl, i, rfl, hi, hne⟩ ih
  simp only [pR_, fB_eq, iLt_dec, iEq_dec, nilK_at, fN_eq, Nat.add_eq, Nat.zero_add]
  refine rowK_w m.get (ldSl_w rfl ?_)
  refine ifA_w (fun hx => ?_) (fun hx => ?_)
  · have hx : i < M.length := by have := of_decide_eq_true hx; simp only [Int.ofNat_eq_natCast] at this; omega
    refine rowK_w m.get (ldSl_w rfl ?_)
    rcases m.row with ⟨h0, rfl⟩ | ⟨b, rfl, rfl, hb, gb⟩
    · rw [h0] at hx; simp at hx
    obtain ⟨es, el⟩ := at_split hx
    simp only [nilK_at, Nat.mul_eq, Nat.zero_add, Nat.add_zero]
    refine idxK_w (by omega) (by omega) ?_
    rw [Int.toNat_natCast]
    have gid : (mksC M)[i * 3]? = some (.int .i64 (M[i]).1) := by
      have := mks_id (m := M[i]) (B := M.drop (i + 1)) el
      rwa [← es] at this
    refine rowK_w gb (ldI_w gid ?_)
    refine ifA_w (fun h => hk _ (.inl ⟨M.take i, (M[i]).2, M.drop (i + 1), ?_, by rw [el], hne⟩)) (fun h => ?_)
    · have := of_decide_eq_true h
      rw [← this]; exact es
    rw [iAdd_]
    refine w64_w (by simp only [Int.ofNat_eq_natCast]; omega) (by simp only [Int.ofNat_eq_natCast]; omega) (ih _ _ ⟨rfl, i + 1, by simp, by omega, ?_⟩ (by simp; omega))
    rw [List.take_succ_eq_append_getElem hx, aKeys, List.map_append, List.mem_append, not_or]
    refine ⟨hne, ?_⟩
    have := of_decide_eq_false h
    simp only [List.map_cons, List.map_nil, List.mem_singleton]
    exact fun e => this e.symm
  · have hx : i = M.length := by have := of_decide_eq_false hx; simp only [Int.ofNat_eq_natCast] at this; omega
    rw [hx, List.take_length] at hne
    exact hk _ (.inr ⟨rfl, hne⟩)
/-! Where it is. -/
def CMAt (cl : Cl) : Prop := ∀ H g M O id K, MT H g M O → M.length < 10000 → (∀ H', Le H H' → K (.tup [.agg (ptC (posOf M id)), .s (.bool (aGet M id).isSome)]) H' = true) → cl i_ref8_Tree_At [.s (.ptr (.at g 0)), .s (.int .i64 id)] H K = true
theorem B_ref8_Tree_At_ {lf : Nat} {cl : Cl} (hat : CMat cl) {H : AH} {g : Pn} {M : List (Int × Pt)} {O : Pn → Prop} {id : Int} {K : AV → AH → Bool} (mt : MT H g M O) (hn : M.length < 10000)
    (hk : ∀ H', Le H H' → K (.tup [.agg (ptC (posOf M id)), .s (.bool (aGet M id).isSome)]) H' = true) : B_ref8_Tree_At lf cl (.at g 0) id H K = true := by
  unfold B_ref8_Tree_At
  refine newK_w ?_
  have h1 := Le.new H (.row [.int .i64 (Int.ofNat 0), .int .i64 (Int.ofNat 0)])
  have g1 := get_new H (.row [.int .i64 (Int.ofNat 0), .int .i64 (Int.ofNat 0)])
  have n1 := not_has_nx H
  generalize H.new (.row [.int .i64 (Int.ofNat 0), .int .i64 (Int.ofNat 0)]) = H1 at *
  generalize H.nx = gn at *
  refine hat H1 g M O id _ (mt.le h1) hn fun r hr => arI_w ?_
  simp only [fB_eq, iLt_dec]
  have hs := hr.some
  refine ifA_w (fun hx => ?_) (fun hx => ?_)
  · have hno : aGet M id = none := by
      have h := of_decide_eq_true hx
      simp only [Int.ofNat_eq_natCast] at h
      cases e : aGet M id with
      | none => rfl
      | some v => rw [e] at hs; have := hs.2 rfl; omega
    refine stoN_we (ds := ptC ⟨0, 0⟩) g1 rfl (by simp) rfl (rowK_w (get_put _ _ _) (ldG_we (ys := ptC ⟨0, 0⟩) (Nat.le_refl 2) (by decide) rfl ?_))
    have := hk _ (h1.put n1 (.row (ptC ⟨0, 0⟩)))
    unfold posOf at this
    rw [hno] at this
    exact this
  · have hx : 0 ≤ r := by have h := of_decide_eq_false hx; simp only [Int.ofNat_eq_natCast] at h; omega
    rcases hr with ⟨A, q, B, rfl, rfl, hA⟩ | ⟨rfl, _⟩
    · obtain ⟨p, c, z, m, rfl⟩ := mt
      simp only [nilK_at, fN_eq, Nat.add_eq, Nat.add_zero, Nat.zero_add]
      refine rowK_w ((h1.get _ m.has).trans m.get) (ldSl_w rfl ?_)
      rcases m.row with ⟨h0, rfl⟩ | ⟨b, rfl, rfl, hb, gb⟩
      · simp at h0
      simp only [nilK_at, Nat.mul_eq, Nat.zero_add]
      refine idxK_w (by omega) (by simp; omega) ?_
      rw [Int.toNat_natCast]
      refine rowK_w ((h1.get _ hb).trans gb) (ldG_we (by have := mks_lt (B := B) (m := (id, q)) (rfl : A.length = A.length); omega) (by decide) (mks_pt rfl) ?_)
      refine stoN_we (ds := ptC q) g1 rfl (by simp) (by simp [ptC]) (rowK_w (get_put _ _ _) (ldG_we (ys := ptC q) (Nat.le_refl 2) (by decide) rfl ?_))
      have := hk _ (h1.put n1 (.row (ptC q)))
      unfold posOf at this
      rw [aGet_app hA] at this
      simp only [aGet, if_true, Option.getD_some, Option.isSome_some] at this
      exact this
    · omega
/-! Those in a rectangle. -/
def mIn (M : List (Int × Pt)) (r : Rc) : List Int := (M.filter fun m => RIn r m.2).map (·.1)
def CMIn (cl : Cl) : Prop := ∀ H g M O r K, MT H g M O → M.length < 10000 → (∀ H' p c z, Le H H' → IS H' p (mIn M r).length z (mIn M r) → K (.s (.slice p (mIn M r).length c z)) H' = true) → cl i_ref8_Tree_In [.s (.ptr (.at g 0)), .agg (rcC r)] H K = true
theorem Sl_is {H0 H : AH} {p : AP} {n z : Nat} {ks : List Int} (h : Sl H0 H p n z (intsA ks) 1) (hn : n = ks.length) : IS H p n z ks := by
  refine ⟨hn, ?_⟩
  rcases h.rep with ⟨h0, hp⟩ | ⟨g, rfl, hz, hg, hh, _⟩
  · exact .inl ⟨hp, List.length_eq_zero_iff.1 (by omega)⟩
  · exact .inr ⟨g, _, rfl, hz, hh, hg, by simp [intsA_length], List.take_of_length_le (by simp [intsA_length])⟩
theorem B_ref8_Tree_In_ {lf : Nat} {cl : Cl} (hlf : 100000 ≤ lf) (hin : CRcPtB i_ref3_In RIn cl) {H : AH} {g : Pn} {M : List (Int × Pt)} {O : Pn → Prop} {r : Rc} {K : AV → AH → Bool} (mt : MT H g M O) (hn : M.length < 10000)
    (hk : ∀ H' p c z, Le H H' → IS H' p (mIn M r).length z (mIn M r) → K (.s (.slice p (mIn M r).length c z)) H' = true) : B_ref8_Tree_In lf cl (.at g 0) (rcC r) H K = true := by
  unfold B_ref8_Tree_In
  refine new_w fun gr H1 h1 hgr ngr ggr => ?_
  replace mt := mt.le h1
  obtain ⟨p, c, z, m, rfl⟩ := mt
  refine loopX_w (fun x Hx => Le H1 Hx ∧ ∃ (i : Nat) (p1 : AP) (c1 : ACap) (z1 : Nat), x = (.at g 0, .at gr 0, (p1, (mIn (M.take i) r).length, c1, z1), (i : Int)) ∧ i ≤ M.length ∧ Sl H1 Hx p1 (mIn (M.take i) r).length z1 (intsA (mIn (M.take i) r)) 1) (fun x => M.length - x.2.2.2.toNat)
    ⟨Le.refl _, 0, .nil, _, _, rfl, by omega, Sl.nil⟩ (by simp; omega) ?_
  rintro self x Hx ⟨hL, i, p1, c1, z1, rfl, hi, sl⟩ ih
  simp only [pR_, fB_eq, iLt_dec, nilK_at, fN_eq, Nat.add_eq, Nat.zero_add]
  have gx : ∀ {Hy}, Le H1 Hy → Hy.get g = some (.row [.slice p M.length c z]) := fun k => (k.get _ m.has).trans m.get
  refine rowK_w (gx hL) (ldSl_w rfl ?_)
  refine ifA_w (fun hx => ?_) (fun hx => ?_)
  · have hx : i < M.length := by have := of_decide_eq_true hx; simp only [Int.ofNat_eq_natCast] at this; omega
    refine rowK_w ((hL.get _ hgr).trans ggr) (ldG_we (ys := rcC r) (Nat.le_refl 4) (by decide) rfl ?_)
    refine rowK_w (gx hL) (ldSl_w rfl ?_)
    rcases m.row with ⟨h0, rfl⟩ | ⟨b, rfl, rfl, hb, gb⟩
    · rw [h0] at hx; simp at hx
    obtain ⟨es, el⟩ := at_split hx
    have gbx : ∀ {Hy}, Le H1 Hy → Hy.get b = some (.row (mksC M)) := fun k => (k.get _ hb).trans gb
    have tk : mIn (M.take (i + 1)) r = mIn (M.take i) r ++ (if RIn r (M[i]).2 = true then [(M[i]).1] else []) := by
      unfold mIn
      rw [List.take_succ_eq_append_getElem hx, List.filter_append, List.map_append, List.filter_cons, List.filter_nil]
      split <;> rfl
    have lb : (mIn (M.take i) r).length ≤ i := by unfold mIn; rw [List.length_map]; exact Nat.le_trans (List.length_filter_le _ _) (by simp; omega)
    generalize hm : M[i] = mi at *
    simp only [nilK_at, Nat.mul_eq, Nat.zero_add, Nat.add_zero]
    refine idxK_w (by omega) (by omega) ?_
    rw [Int.toNat_natCast]
    have hlt := mks_lt (B := M.drop (i + 1)) (m := mi) el
    have hpt := mks_pt (m := mi) (B := M.drop (i + 1)) el
    have hid := mks_id (m := mi) (B := M.drop (i + 1)) el
    rw [← es] at hpt hid hlt
    refine rowK_w (gbx hL) (ldG_we (ys := ptC mi.2) (by omega) (by decide) hpt ?_)
    refine hin _ _ _ _ fun H2 h2 => arB_w ?_
    have hL2 := hL.trans h2
    refine ifA_w (fun h => ?_) (fun h => ?_)
    · rw [if_pos h] at tk
      refine rowK_w (gx hL2) (ldSl_w rfl ?_)
      simp only [nilK_at, Nat.zero_add]
      refine idxK_w (by omega) (by omega) ?_
      rw [Int.toNat_natCast]
      refine rowK_w (gbx hL2) (ldI_w hid ?_)
      refine newK_w ?_
      refine elK_w (ys := [.int .i64 mi.1]) (get_new _ _) (by simp) rfl ?_
      refine app_w ((sl.le h2).le (Le.new _ _)) (hL2.newr _) (m := 1) rfl (by decide) (by omega) (by omega) fun p2 c2 z2 H3 hL3 sl3 l23 => ?_
      rw [iAdd_]
      refine w64_w (by simp only [Int.ofNat_eq_natCast]; omega) (by simp only [Int.ofNat_eq_natCast]; omega) (ih _ _ ⟨hL3, i + 1, p2, c2, z2, by rw [tk]; simp, by omega, ?_⟩ (by simp; omega))
      rw [tk, intsA_append, List.length_append]
      exact sl3
    · rw [if_neg (by rw [h]; simp), List.append_nil] at tk
      rw [iAdd_]
      exact w64_w (by simp only [Int.ofNat_eq_natCast]; omega) (by simp only [Int.ofNat_eq_natCast]; omega) (ih _ _ ⟨hL2, i + 1, p1, c1, z1, by rw [tk]; simp, by omega, by rw [tk]; exact sl.le h2⟩ (by simp; omega))
  · have hx : i = M.length := by have := of_decide_eq_false hx; simp only [Int.ofNat_eq_natCast] at this; omega
    rw [hx, List.take_length] at sl ⊢
    exact hk _ _ _ _ (h1.trans hL) (Sl_is sl rfl)
end Go.Proofs
end
section
/- The reference's tree of marks: put, move, drop. -/
namespace Go.Proofs
open Go Go.Vw Go.Vw.Ev
set_option linter.unusedVariables false
set_option linter.unusedSimpArgs false

/-- Marks behind a row of marks. -/
theorem appM_w {H : AH} {p : AP} {n z m : Nat} {M J : List (Int × Pt)} {c : ACap} {K : AP → Nat → ACap → Nat → AH → Bool} (h : MP H p z M) (hn : n = M.length) (hm : m = J.length) (hpos : 0 < m) (hb : n + m ≤ 1000000)
    (hk : ∀ g' H', ¬ H.has g' → Fr (ownP p) H H' → H'.has g' → H'.get g' = some (.row (mksC (M ++ J))) → K (.at g' 0) (n + m) (.of g' 0) 3 H' = true) : appA H p n z 3 24 (mksC J) m c K = true := by
  rw [appA_eq0]
  unfold appA0
  refine fN_w (okK_w (by rw [Nat.ble_eq_true_of_le (by omega), Nat.ble_eq_true_of_le (by omega)]; rfl) ?_)
  have hm0 : Nat.beq m 0 = false := by
    cases h : Nat.beq m 0
    · rfl
    · have := Nat.eq_of_beq_eq_true h; omega
  rw [hm0]
  dsimp only
  rcases h with ⟨rfl, rfl⟩ | ⟨b, rfl, rfl, hh, hg⟩
  · refine newK_w (hk _ _ (not_has_nx H) ((Le.new H _).fr _) (has_new_self _ _) ?_)
    rw [get_new]; rfl
  · dsimp only
    refine okK_w (Nat.beq_refl _) ?_
    rw [rowW_row hg]
    refine ldN_w (ys := mksC M) (by rw [mksC_len]; omega) (by rw [List.drop_zero, hn, List.take_of_length_le (by rw [mksC_len]; exact Nat.le_refl _)]) (fL_w ?_)
    rw [ap_eq, wrK_none]
    refine newK_w (hk _ _ (fun hx => not_has_nx (H.del b) (has_del hx)) ⟨fun a ha => has_new (has_del ha), fun a ha hn => ?_⟩ (has_new_self _ _) ?_)
    · exact (get_new_has (has_del ha)).trans (get_del_ne fun e => hn ⟨0, by rw [e]⟩)
    · rw [get_new, mksC_app]
/-! Put. -/
def CMPut (cl : Cl) : Prop := ∀ H g M O id p K, MT H g M O → M.length < 10000 → (∀ H' O', Fr O H H' → MT H' g (mputL M id p) O' → (∀ a, O' a → O a ∨ ¬ H.has a) → K (.s (.int .i64 (mputE M id p))) H' = true) →
  cl i_ref8_Tree_Put [.s (.ptr (.at g 0)), .s (.int .i64 id), .agg (ptC p)] H K = true
theorem B_ref8_Tree_Put_ {lf : Nat} {cl : Cl} (hlf : 100000 ≤ lf) (hOn : CPtB i_ref3_On On cl) (hat : CMat cl) {H : AH} {g : Pn} {M : List (Int × Pt)} {O : Pn → Prop} {id : Int} {p : Pt} {K : AV → AH → Bool} (mt : MT H g M O) (hn : M.length < 10000)
    (hk : ∀ H' O', Fr O H H' → MT H' g (mputL M id p) O' → (∀ a, O' a → O a ∨ ¬ H.has a) → K (.s (.int .i64 (mputE M id p))) H' = true) : B_ref8_Tree_Put lf cl (.at g 0) id (ptC p) H K = true := by
  unfold B_ref8_Tree_Put
  have keep : ∀ {H'} {e : Int}, Le H H' → mputE M id p = e → e ≠ 0 → K (.s (.int .i64 e)) H' = true := by
    intro H' e hl he hn
    have := hk H' O (hl.fr _) (by unfold mputL; rw [he, if_neg hn]; exact mt.le hl) (fun a h => .inl h)
    rwa [he] at this
  refine new_w fun gp H1 h1 hp np gp1 => ?_
  simp only [fB_eq, iLt_dec]
  refine ifA_w (fun hx => keep h1 (e := 11) (by have hx : id < 0 := of_decide_eq_true hx; unfold mputE; rw [if_pos hx]) (by decide)) (fun hx => ?_)
  have hneg : ¬ id < 0 := of_decide_eq_false hx
  refine rowK_w gp1 (ldG_we (ys := ptC p) (Nat.le_refl 2) (by decide) rfl ?_)
  refine hOn _ _ _ fun H2 h2 => arB_w ?_
  have h12 := h1.trans h2
  refine ifA_w (fun hx => keep h12 (e := 14) (by unfold mputE; rw [if_neg hneg, if_pos (by simpa using hx)]) (by decide)) (fun hx => ?_)
  have hon : On p = true := by simpa using hx
  refine hat H2 g M O id _ (mt.le h12) hn fun r hr => arI_w ?_
  have hs := hr.some
  simp only [iLe_dec]
  refine ifA_w (fun hx => keep h12 (e := 11) (by unfold mputE; rw [if_neg hneg, if_neg (by simp [hon]), if_pos (hs.1 (of_decide_eq_true hx))]) (by decide)) (fun hx => ?_)
  have hno : ¬ (aGet M id).isSome = true := fun h => of_decide_eq_false hx (hs.2 h)
  have mt2 := mt.le h12
  obtain ⟨q, c, z, m, hO⟩ := mt2
  simp only [nilK_at, fN_eq, Nat.add_eq, Nat.zero_add, Nat.add_zero]
  refine rowK_w m.get (ldSl_w rfl ?_)
  refine ifA_w (fun hx => keep h12 (e := 16) (by unfold mputE; rw [if_neg hneg, if_neg (by simp [hon]), if_neg hno, if_pos (by have := of_decide_eq_true hx; simp only [Int.ofNat_eq_natCast] at this; omega)]) (by decide)) (fun hx => ?_)
  have hlt : ¬ 200 ≤ M.length := by have := of_decide_eq_false hx; simp only [Int.ofNat_eq_natCast] at this; omega
  have he : mputE M id p = 0 := by unfold mputE; rw [if_neg hneg, if_neg (by simp [hon]), if_neg hno, if_neg hlt]
  have gp2 := (h2.get _ hp).trans gp1
  have hp2 := h2.has _ hp
  have np2 : ¬ O gp := fun h => np (mt.has _ h)
  refine joinX_w (fun x Hx => Hx = H2 ∧ ∃ k : Nat, x = (.at g 0, id, .at gp 0, (k : Int)) ∧ M.take k ++ (id, p) :: M.drop k = insM (id, p) M ∧ k ≤ M.length) ?_ ?_
  · rintro x Hx ⟨rfl, k, rfl, hins, hk'⟩
    simp only [pR_, nilK_at, fN_eq, Nat.add_eq, Nat.zero_add, Nat.add_zero]
    refine rowK_w m.get (ldSl_w rfl ?_)
    refine fL_w ?_
    rw [ap_eq, List.append_nil]
    refine okK_w rfl (newK_w (elK_w (ys := mksC [(0, ⟨0, 0⟩)]) (get_new _ _) (by simp) rfl ?_))
    have h3 := Le.new Hx (.row [.int .i64 (Int.ofNat 0), .int .i64 (Int.ofNat 0), .int .i64 (Int.ofNat 0)])
    generalize Hx.new (.row [.int .i64 (Int.ofNat 0), .int .i64 (Int.ofNat 0), .int .i64 (Int.ofNat 0)]) = H3 at *
    refine appM_w (m.row.fr (h3.fr fun _ => False) fun _ _ h => h) rfl rfl (by decide) (by omega) fun b H4 nb f4 hb gb => ?_
    have hgb : g ≠ b := fun e => nb (h3.has _ (e ▸ m.has))
    have f34 : Fr (ownP q) Hx H4 := (h3.fr _).trans f4 fun a ha => .inl ha
    have gg4 := (f34.get _ m.has m.off).trans m.get
    refine sto1_w gg4 (by simp) ?_
    have f5 : Fr O Hx (H4.put g (.row [.slice (.at b 0) (M.length + 1) (.of b 0) 3])) := (f34.mono fun a ha => by rw [hO]; exact .inr ha).put (.inl (by rw [hO]; exact .inl rfl)) _
    have hbO : ¬ O b := fun h => nb (h3.has _ (h12.has _ (mt.has _ h)))
    have hbg : b ≠ gp := fun e => nb (h3.has _ (e ▸ hp2))
    have hb5 : (H4.put g (.row [.slice (.at b 0) (M.length + 1) (.of b 0) 3])).has b := hb
    have gb5 : (H4.put g (.row [.slice (.at b 0) (M.length + 1) (.of b 0) 3])).get b = some (.row (mksC (M ++ [(0, ⟨0, 0⟩)]))) := (get_put_ne (Ne.symm hgb)).trans gb
    have gg5 : (H4.put g (.row [.slice (.at b 0) (M.length + 1) (.of b 0) 3])).get g = some (.row [.slice (.at b 0) (M.length + 1) (.of b 0) 3]) := get_put _ _ _
    have hsl : ([AS.slice q M.length c z].set 0 (.slice (.at b 0) (M.length + 1) (.of b 0) 3)) = [.slice (.at b 0) (M.length + 1) (.of b 0) 3] := rfl
    rw [hsl]
    have nbx : ¬ Hx.has b := fun h => nb (h3.has _ h)
    generalize H4.put g (.row [.slice (.at b 0) (M.length + 1) (.of b 0) 3]) = H5 at *
    clear gb gg4 f34 f4 hb
    refine rowK_w gg5 (ldSl_w rfl ?_)
    rw [iSub_]
    refine w64_w (by simp only [Int.ofNat_eq_natCast]; omega) (by simp only [Int.ofNat_eq_natCast]; omega) ?_
    refine loopX_w (fun x Hy => ∃ (j : Nat) (w : Int × Pt), x = (.at g 0, id, .at gp 0, (k : Int), (j : Int)) ∧ k ≤ j ∧ j ≤ M.length ∧ Fr (fun a => O a ∨ a = b) Hx Hy ∧ Hy.has b ∧ Hy.get b = some (.row (mksC (M.take j ++ w :: M.drop j))) ∧ Hy.get g = some (.row [.slice (.at b 0) (M.length + 1) (.of b 0) 3])) (fun x => x.2.2.2.2.toNat)
      ⟨M.length, (0, ⟨0, 0⟩), by simp, hk', Nat.le_refl _, f5.mono fun a h => .inl h, hb5, by rw [List.take_length, List.drop_length]; exact gb5, gg5⟩ (by simp; omega) ?_
    rintro self x Hy ⟨j, w, rfl, hkj, hjn, fy, hby, gby, ggy⟩ ih
    simp only [pR_, fB_eq, iLt_dec, nilK_at, fN_eq, Nat.add_eq, Nat.zero_add, Nat.add_zero]
    have elj : (M.take j).length = j := by simp; omega
    refine ifA_w (fun hx => ?_) (fun hx => ?_)
    · have hx : k < j := by have h : (k : Int) < (j : Int) := of_decide_eq_true hx; omega
      refine rowK_w ggy (ldSl_w rfl (rowK_w ggy (ldSl_w rfl ?_)))
      rw [iSub_]
      refine w64_w (by simp only [Int.ofNat_eq_natCast]; omega) (by simp only [Int.ofNat_eq_natCast]; omega) ?_
      have ej : (j : Int) - Int.ofNat 1 = ((j - 1 : Nat) : Int) := by simp only [Int.ofNat_eq_natCast]; omega
      rw [ej]
      simp only [nilK_at, Nat.mul_eq, Nat.zero_add]
      refine idxK_w (by omega) (by omega) ?_
      rw [Int.toNat_natCast]
      have hj1 : j - 1 < M.length := by omega
      have e1 : M.take j = M.take (j - 1) ++ [M[j - 1]] := by
        have := List.take_succ_eq_append_getElem hj1
        rwa [show j - 1 + 1 = j by omega] at this
      have e2 : M.drop (j - 1) = M[j - 1] :: M.drop j := by
        have := List.drop_eq_getElem_cons hj1
        rwa [show j - 1 + 1 = j by omega] at this
      have elj1 : (M.take (j - 1)).length = j - 1 := by simp; omega
      have e3 : M.take j ++ w :: M.drop j = M.take (j - 1) ++ M[j - 1] :: (w :: M.drop j) := by rw [e1, List.append_assoc]; rfl
      have rd := mks_all (A := M.take (j - 1)) (B := w :: M.drop j) (m := M[j - 1]) elj1
      have rl := mks_lt (A := M.take (j - 1)) (B := w :: M.drop j) (m := M[j - 1]) elj1
      rw [← e3] at rd rl
      refine rowK_w gby (ldG_we rl (by decide) rd ?_)
      refine idxK_w (by omega) (by omega) ?_
      rw [Int.toNat_natCast]
      refine stoN_we (ds := mksC (M.take j ++ M[j - 1] :: M.drop j)) gby rfl (mks_lt elj) (mks_put elj) ?_
      refine w64_w (by omega) (by omega) (ih _ _ ⟨j - 1, M[j - 1], rfl, by omega, by omega, fy.put (.inl (.inr rfl)) _, hby, ?_, (get_put_ne hgb).trans ggy⟩ (by simp; omega))
      rw [get_put]
      have e4 : M.take (j - 1) ++ M[j - 1] :: M.drop (j - 1) = M.take j ++ M[j - 1] :: M.drop j := by rw [e1, e2, List.append_assoc]; rfl
      rw [e4]
    · have hx : j = k := by have h : ¬ (k : Int) < (j : Int) := of_decide_eq_false hx; omega
      subst hx
      refine rowK_w ggy (ldSl_w rfl ?_)
      have gpy := (fy.get _ hp2 fun h => h.elim np2 fun e => hbg e.symm).trans gp2
      refine rowK_w gpy (ldG_we (ys := ptC p) (Nat.le_refl 2) (by decide) rfl ?_)
      refine okK_w rfl (fL_w ?_)
      rw [ap_eq, List.append_nil]
      simp only [nilK_at, Nat.mul_eq, Nat.zero_add]
      refine idxK_w (by omega) (by omega) ?_
      rw [Int.toNat_natCast]
      refine stoN_we (ds := mksC (M.take j ++ (id, p) :: M.drop j)) gby rfl (mks_lt elj) (mks_put (v := (id, p)) elj) ?_
      have hl : (mputL M id p).length = M.length + 1 := by
        unfold mputL
        rw [if_pos he, ← hins, List.length_append, List.length_cons]; simp; omega
      have f6 : Fr (fun a => O a ∨ a = b) Hx (Hy.put b (.row (mksC (M.take j ++ (id, p) :: M.drop j)))) := fy.put (.inl (.inr rfl)) _
      have f7 : Fr O H (Hy.put b (.row (mksC (M.take j ++ (id, p) :: M.drop j)))) := (h12.fr O).trans f6 fun a ha => ha.imp (fun h => h) fun (h : a = b) hh => nbx (h ▸ h12.has a hh)
      have := hk _ (fun a => a = g ∨ ownP (.at b 0) a) f7 ⟨.at b 0, .of b 0, 3, ⟨f6.has _ m.has, ?_, trivial, .inr ⟨b, rfl, rfl, hby, ?_⟩, fun ⟨o, e⟩ => hgb (by cases e; rfl)⟩, rfl⟩ ?_
      · rwa [he] at this
      · rw [hl]; exact (get_put_ne hgb).trans ggy
      · unfold mputL
        rw [get_put, if_pos he, hins]
      · rintro a (rfl | ⟨o, e⟩)
        · exact .inl (by rw [hO]; exact .inl rfl)
        · cases e; exact .inr fun h => nbx (h12.has _ h)
  · intro J hJ
    refine loopX_w (fun x Hx => Hx = H2 ∧ ∃ k : Nat, x = (.at g 0, id, .at gp 0, (k : Int)) ∧ k ≤ M.length ∧ ∀ j (h : j < M.length), j < k → M[j].1 < id) (fun x => M.length - x.2.2.2.toNat) ⟨rfl, 0, rfl, by omega, fun j _ h => by omega⟩ (by simp; omega) ?_
    rintro self x Hx ⟨rfl, k, rfl, hk', hlt'⟩ ih
    simp only [pR_, fB_eq, iLt_dec, nilK_at, fN_eq, Nat.add_eq, Nat.zero_add, Nat.add_zero]
    refine rowK_w m.get (ldSl_w rfl ?_)
    refine ifA_w (fun hx => ?_) (fun hx => ?_)
    · have hx : k < M.length := by have := of_decide_eq_true hx; simp only [Int.ofNat_eq_natCast] at this; omega
      refine rowK_w m.get (ldSl_w rfl ?_)
      rcases m.row with ⟨h0, rfl⟩ | ⟨b, rfl, rfl, hb, gb⟩
      · rw [h0] at hx; simp at hx
      obtain ⟨es, el⟩ := at_split hx
      simp only [nilK_at, Nat.mul_eq, Nat.zero_add, Nat.add_zero]
      refine idxK_w (by omega) (by omega) ?_
      rw [Int.toNat_natCast]
      have gid : (mksC M)[k * 3]? = some (.int .i64 (M[k]).1) := by
        have := mks_id (m := M[k]) (B := M.drop (k + 1)) el
        rwa [← es] at this
      refine rowK_w gb (ldI_w gid ?_)
      refine ifA_w (fun h => ?_) (fun h => hJ _ _ ⟨rfl, k, rfl, insM_at hk' hlt' fun _ => of_decide_eq_false h, hk'⟩)
      rw [iAdd_]
      refine w64_w (by simp only [Int.ofNat_eq_natCast]; omega) (by simp only [Int.ofNat_eq_natCast]; omega) (ih _ _ ⟨rfl, k + 1, by simp, by omega, fun j hj hjk => ?_⟩ (by simp; omega))
      by_cases e : j = k
      · subst e; exact of_decide_eq_true h
      · exact hlt' j hj (by omega)
    · have hx : ¬ k < M.length := by have := of_decide_eq_false hx; simp only [Int.ofNat_eq_natCast] at this; omega
      exact hJ _ _ ⟨rfl, k, rfl, insM_at hk' hlt' fun h => absurd h hx, hk'⟩
/-! Move. -/
def CMMove (cl : Cl) : Prop := ∀ H g M O id p K, MT H g M O → M.length < 10000 → (∀ H' O', Fr O H H' → MT H' g (moveL M id p) O' → (∀ a, O' a → O a ∨ ¬ H.has a) → K (.s (.int .i64 (moveE M id p))) H' = true) →
  cl i_ref8_Tree_Move [.s (.ptr (.at g 0)), .s (.int .i64 id), .agg (ptC p)] H K = true
theorem B_ref8_Tree_Move_ {lf : Nat} {cl : Cl} (hOn : CPtB i_ref3_On On cl) (hat : CMat cl) {H : AH} {g : Pn} {M : List (Int × Pt)} {O : Pn → Prop} {id : Int} {p : Pt} {K : AV → AH → Bool} (mt : MT H g M O) (hn : M.length < 10000)
    (hk : ∀ H' O', Fr O H H' → MT H' g (moveL M id p) O' → (∀ a, O' a → O a ∨ ¬ H.has a) → K (.s (.int .i64 (moveE M id p))) H' = true) : B_ref8_Tree_Move lf cl (.at g 0) id (ptC p) H K = true := by
  unfold B_ref8_Tree_Move
  have keep : ∀ {H'} {e : Int}, Le H H' → moveE M id p = e → e ≠ 0 → K (.s (.int .i64 e)) H' = true := by
    intro H' e hl he hn
    have := hk H' O (hl.fr _) (by unfold moveL; rw [he, if_neg hn]; exact mt.le hl) (fun a h => .inl h)
    rwa [he] at this
  refine new_w fun gp H1 h1 hp np gp1 => ?_
  refine hat H1 g M O id _ (mt.le h1) hn fun r hr => arI_w ?_
  have hs := hr.some
  simp only [fB_eq, iLt_dec]
  refine ifA_w (fun hx => keep h1 (e := 15) (by
    have h := of_decide_eq_true hx
    simp only [Int.ofNat_eq_natCast] at h
    unfold moveE
    rw [if_pos]
    cases e : (aGet M id).isSome with
    | false => rfl
    | true => have := hs.2 e; omega) (by decide)) (fun hx => ?_)
  have hx : 0 ≤ r := by have h := of_decide_eq_false hx; simp only [Int.ofNat_eq_natCast] at h; omega
  have hyes := hs.1 hx
  refine rowK_w gp1 (ldG_we (ys := ptC p) (Nat.le_refl 2) (by decide) rfl ?_)
  refine hOn _ _ _ fun H2 h2 => arB_w ?_
  have h12 := h1.trans h2
  refine ifA_w (fun hx => keep h12 (e := 14) (by unfold moveE; rw [if_neg (by simp [hyes]), if_pos (by simpa using hx)]) (by decide)) (fun hx2 => ?_)
  have hon : On p = true := by simpa using hx2
  have he : moveE M id p = 0 := by unfold moveE; rw [if_neg (by simp [hyes]), if_neg (by simp [hon])]
  have gp2 := (h2.get _ hp).trans gp1
  have mt2 := mt.le h12
  rcases hr with ⟨A, q, B, rfl, rfl, hA⟩ | ⟨rfl, _⟩
  · obtain ⟨q', c, z, m, hO⟩ := mt2
    simp only [nilK_at, fN_eq, Nat.add_eq, Nat.zero_add, Nat.add_zero]
    refine rowK_w m.get (ldSl_w rfl ?_)
    refine rowK_w gp2 (ldG_we (ys := ptC p) (Nat.le_refl 2) (by decide) rfl ?_)
    rcases m.row with ⟨h0, rfl⟩ | ⟨b, rfl, rfl, hb, gb⟩
    · simp at h0
    simp only [nilK_at, Nat.mul_eq, Nat.zero_add]
    refine idxK_w (by omega) (by simp; omega) ?_
    rw [Int.toNat_natCast]
    have hbg : b ≠ g := fun e => m.off ⟨0, by rw [e]⟩
    refine stoN_we (ds := mksC (A ++ (id, p) :: B)) gb rfl (by have := mks_lt (A := A) (B := B) (m := (id, q)) rfl; omega) (mks_mov rfl) ?_
    have e : moveL (A ++ (id, q) :: B) id p = A ++ (id, p) :: B := by
      unfold moveL
      rw [if_pos he, aSet_app hA, aSet, if_pos rfl]
    have f : Fr O H (H2.put b (.row (mksC (A ++ (id, p) :: B)))) := (h12.fr O).put (.inl (by rw [hO]; exact .inr ⟨0, rfl⟩)) _
    have := hk _ O f ⟨.at b 0, c, 3, ⟨m.has, ?_, ?_, .inr ⟨b, rfl, rfl, hb, ?_⟩, m.off⟩, hO⟩ fun a h => .inl h
    · rwa [he] at this
    · rw [e, get_put_ne (Ne.symm hbg), m.get]; simp
    · rw [e]
      have := m.cap
      simpa using this
    · rw [e, get_put]
  · omega
/-! Drop. -/
theorem slcA_end_w {g : Pn} {o n z : Nat} {c : ACap} {K : AP → Nat → ACap → Nat → Bool} (hc : CapOk c n) (hk : ∀ p' c', (p' = .at g o ∨ p' = .at g (o + n * z) ∨ p' = .edge g (o + n * z)) → K p' 0 c' z = true) : slcA (.at g o) n c z n n K = true := by
  rw [slcA_eq0]
  unfold slcA0
  rw [Nat.ble_eq_true_of_le (Nat.le_refl n)]
  refine fN_w ?_
  rw [Nat.sub_self]
  cases c with
  | lit k =>
    dsimp only
    cases Nat.beq k n
    · exact fN_w (fN_w (hk _ _ (.inr (.inl rfl))))
    · exact hk _ _ (.inl rfl)
  | of b k =>
    refine fN_w (fN_w ?_)
    rw [Nat.beq_refl]
    dsimp only
    cases Nat.beq n 0
    · exact hk _ _ (.inr (.inr rfl))
    · exact hk _ _ (.inl rfl)
theorem elK_end {H : AH} {g : Pn} {n : Nat} {cs : List AS} {p : AP} {K : List AS → Bool} (hg : H.get g = some (.row cs)) (hp : p = .at g 0 ∨ p = .at g (0 + n * 3) ∨ p = .edge g (0 + n * 3)) (hl : cs.length = n * 3) (hk : K [] = true) : elK H p 0 3 K = true := by
  rw [elK_eq0]
  rcases hp with rfl | rfl | rfl
  · exact rowK_w hg (ldN_w (by omega) (by simp) hk)
  · exact rowK_w hg (ldN_w (by omega) (by simp) hk)
  · exact okK_w rfl (rowK_w hg (okK_w (by rw [ln_eq]; exact Nat.ble_eq_true_of_le (by omega)) hk))
theorem app0_w {H : AH} {p : AP} {n z : Nat} {ys : List AS} {c : ACap} {K : AP → Nat → ACap → Nat → AH → Bool} (hn : n ≤ 1000000) (hk : K p n c z H = true) : appA H p n z 3 24 ys 0 c K = true := by
  rw [appA_eq0]
  unfold appA0
  refine fN_w (okK_w (by rw [Nat.ble_eq_true_of_le (by omega), Nat.ble_eq_true_of_le (by omega)]; rfl) ?_)
  exact hk
def CMDrop (cl : Cl) : Prop := ∀ H g M O id K, MT H g M O → M.length < 10000 → (aKeys M).Nodup → (∀ H' O', Fr O H H' → MT H' g (aDel M id) O' → (∀ a, O' a → O a ∨ ¬ H.has a) → K (.s (.int .i64 (if (aGet M id).isSome = true then 0 else 15))) H' = true) →
  cl i_ref8_Tree_Drop [.s (.ptr (.at g 0)), .s (.int .i64 id)] H K = true
theorem B_ref8_Tree_Drop_ {lf : Nat} {cl : Cl} (hat : CMat cl) {H : AH} {g : Pn} {M : List (Int × Pt)} {O : Pn → Prop} {id : Int} {K : AV → AH → Bool} (mt : MT H g M O) (hn : M.length < 10000) (hnod : (aKeys M).Nodup)
    (hk : ∀ H' O', Fr O H H' → MT H' g (aDel M id) O' → (∀ a, O' a → O a ∨ ¬ H.has a) → K (.s (.int .i64 (if (aGet M id).isSome = true then 0 else 15))) H' = true) : B_ref8_Tree_Drop lf cl (.at g 0) id H K = true := by
  unfold B_ref8_Tree_Drop
  refine hat H g M O id _ mt hn fun r hr => arI_w ?_
  have hs := hr.some
  simp only [fB_eq, iLt_dec]
  refine ifA_w (fun hx => ?_) (fun hx => ?_)
  · have hno : aGet M id = none := by
      have h := of_decide_eq_true hx
      simp only [Int.ofNat_eq_natCast] at h
      cases e : aGet M id with
      | none => rfl
      | some v => rw [e] at hs; have := hs.2 rfl; omega
    have := hk H O (Fr.refl _ _) (by rw [aDel_none hno]; exact mt) fun a h => .inl h
    rw [hno] at this
    exact this
  have hx : 0 ≤ r := by have h := of_decide_eq_false hx; simp only [Int.ofNat_eq_natCast] at h; omega
  have hyes := hs.1 hx
  rw [if_pos hyes] at hk
  rcases hr with ⟨A, q, B, rfl, rfl, hA⟩ | ⟨rfl, _⟩
  rotate_left
  · omega
  have hB : id ∉ aKeys B := by
    simp only [aKeys, List.map_append, List.map_cons] at hnod
    exact (List.nodup_cons.1 (List.nodup_append.1 hnod).2.1).1
  have eD : aDel (A ++ (id, q) :: B) id = A ++ B := by rw [aDel_app, aDel_out hA, aDel, if_pos rfl, aDel_out hB]
  rw [eD] at hk
  have hlen : (A ++ (id, q) :: B).length = A.length + 1 + B.length := by simp; omega
  obtain ⟨p, c, z, m, hO⟩ := mt
  simp only [nilK_at, fN_eq, Nat.add_eq, Nat.zero_add, Nat.add_zero]
  refine rowK_w m.get (ldSl_w rfl ?_)
  rcases m.row with ⟨h0, rfl⟩ | ⟨b, rfl, rfl, hb, gb⟩
  · simp at h0
  have hgb : g ≠ b := fun e => m.off ⟨0, by rw [e]⟩
  refine okK_w rfl (natK_w (by omega) ?_)
  rw [Int.toNat_natCast]
  refine slcA_at_w (Nat.zero_le _) (by omega) (by omega) m.cap fun c1 hc1 => ?_
  refine getK_w m.get (rowK_w m.get (ldSl_w rfl ?_))
  rw [iAdd_]
  refine w64_w (by simp only [Int.ofNat_eq_natCast]; omega) (by simp only [Int.ofNat_eq_natCast]; omega) ?_
  refine okK_w rfl (natK_w (by simp only [Int.ofNat_eq_natCast]; omega) ?_)
  have e1 : ((A.length : Int) + Int.ofNat 1).toNat = A.length + 1 := by simp only [Int.ofNat_eq_natCast]; omega
  rw [e1]
  have hrd : ((mksC (A ++ (id, q) :: B)).drop (0 + 0 * 3)).take ((A.length - 0) * 3) = mksC A := by
    have := mks_take A ((id, q) :: B) 0
    simpa using this
  have hrb : ((mksC (A ++ (id, q) :: B)).drop (0 + (A.length + 1) * 3)).take (B.length * 3) = mksC B := by
    have := mks_drop A ((id, q) :: B) 3
    rw [show 0 + (A.length + 1) * 3 = A.length * 3 + 3 by omega, this]
    show (mksC B).take (B.length * 3) = mksC B
    rw [← mksC_len, List.take_length]
  have hml := mksC_len (A ++ (id, q) :: B)
  have f0 : ∀ {Hy : AH} {b' : Pn} {c' : ACap} {z' : Nat} {p' : AP} {n' : Nat}, Fr (fun _ => False) H Hy → Fr O H (Hy.put g (.row [.slice p' n' c' z'])) := fun k => (k.mono fun _ h => h.elim).put (.inl (by rw [hO]; exact .inl rfl)) _
  -- the end, behind both appends
  have fin : ∀ {Hy : AH} {p' : AP} {n' : Nat} {c' : ACap} {z' : Nat}, Le H Hy → MP Hy p' z' (A ++ B) → n' = (A ++ B).length → CapOk c' (A ++ B).length → (∀ a, ownP p' a → ¬ H.has a) →
      sto1 Hy g 0 (.slice p' n' c' z') (fun h30 => K (.s (.int .i64 (Int.ofNat 0))) h30) = true := by
    intro Hy p' n' c' z' hl hp hn' hc' ho
    subst hn'
    refine sto1_w ((hl.get _ m.has).trans m.get) (by simp) ?_
    refine hk _ (fun a => a = g ∨ ownP p' a) ((hl.fr O).put (.inl (by rw [hO]; exact .inl rfl)) _) ⟨p', c', z', ⟨hl.has _ m.has, get_put _ _ _, hc', ?_, fun h => ho _ h m.has⟩, rfl⟩ fun a h => h.imp (fun e => by rw [hO]; exact .inl e) (ho a)
    exact hp.imp (fun h => h) fun ⟨b', e, hz, hb', gb'⟩ => ⟨b', e, hz, hb', (get_put_ne fun e' => ho g ⟨0, by rw [e, e']⟩ m.has).trans gb'⟩
  have two : ∀ {Hy : AH} {p2 : AP} {n2 : Nat} {c2 : ACap} {z2 : Nat}, Le H Hy → MP Hy p2 z2 A → n2 = A.length → CapOk c2 A.length → (∀ a, ownP p2 a → ¬ H.has a) → (A = [] → B = [] → z2 = 1) →
      ∀ (p20 : AP) (l20 : Nat), l20 = B.length → (∀ K', K' (mksC B) = true → elK Hy p20 l20 3 K' = true) →
      elK Hy p20 l20 3 (fun ys24 => appA Hy p2 n2 z2 3 24 ys24 l20 c2 fun p26 l26 c26 z26 h25 => sto1 h25 g 0 (.slice p26 l26 c26 z26) fun h30 => K (.s (.int .i64 (Int.ofNat 0))) h30) = true := by
    intro Hy p2 n2 c2 z2 hl hp hn2 hc2 ho _ p20 l20 hl20 hel
    refine hel _ ?_
    rcases Nat.eq_zero_or_pos B.length with h0 | h0
    · have : B = [] := List.length_eq_zero_iff.1 h0
      subst this
      rw [hl20]
      refine app0_w (by omega) (fin hl (by rw [List.append_nil]; exact hp) (by rw [List.append_nil]; exact hn2) (by rw [List.append_nil]; exact hc2) ho)
    · refine appM_w hp hn2 hl20 (by omega) (by omega) fun g' H' ng' f' hg' gg' => ?_
      have hl' : Le H H' := ⟨fun a ha => f'.has a (hl.has a ha), fun a ha => (f'.get a (hl.has a ha) fun h => ho a h ha).trans (hl.get a ha)⟩
      exact fin hl' (.inr ⟨g', rfl, rfl, hg', gg'⟩) (by rw [List.length_append, hn2, hl20]) trivial fun a ⟨o, e⟩ ha => (by cases e; exact ng' (hl.has _ ha))
  have one : ∀ (p20 : AP) (l20 : Nat) (c20 : ACap), l20 = B.length → (∀ Hy K', Le H Hy → K' (mksC B) = true → elK Hy p20 l20 3 K' = true) →
      elK H (.at b (0 + 0 * 3)) (A.length - 0) 3 (fun ys21 => ofKP (some ((g, .row [.slice (.at b 0) (A ++ (id, q) :: B).length c 3]) :: [])) H AP.nil (appA H AP.nil 0 1 3 24 ys21 (A.length - 0) (.lit 0) fun p23 l23 c23 z23 h22 => elK h22 p20 l20 3 fun ys24 => appA h22 p23 l23 z23 3 24 ys24 l20 c23 fun p26 l26 c26 z26 h25 => sto1 h25 g 0 (.slice p26 l26 c26 z26) fun h30 => K (.s (.int .i64 (Int.ofNat 0))) h30)) = true := by
    intro p20 l20 c20 hl20 hel
    refine elK_w gb (by rw [hml]; omega) hrd ?_
    unfold ofKP
    dsimp only
    rw [Nat.sub_zero]
    rcases Nat.eq_zero_or_pos A.length with h0 | h0
    · have hA0 : A = [] := List.length_eq_zero_iff.1 h0
      rw [h0]
      refine app0_w (by omega) (two (Le.refl H) (.inl ⟨hA0, rfl⟩) h0.symm (by rw [h0]; exact Nat.le_refl 0) (fun a ⟨o, e⟩ => by cases e) (fun _ _ => rfl) p20 l20 hl20 fun K' => hel H K' (Le.refl H))
    · refine appM_w (.inl ⟨rfl, rfl⟩) rfl rfl h0 (by omega) fun g' H' ng' f' hg' gg' => ?_
      have hl' : Le H H' := ⟨f'.has, fun a ha => f'.get a ha fun ⟨o, e⟩ => by cases e⟩
      rw [Nat.zero_add]
      exact two (c2 := .of g' 0) hl' (.inr ⟨g', rfl, rfl, hg', gg'⟩) rfl trivial (fun a ⟨o, e⟩ ha => by cases e; exact ng' ha) (fun e => by rw [e] at h0; simp at h0) p20 l20 hl20 fun K' => hel H' K' hl'
  rcases Nat.eq_zero_or_pos B.length with h0 | h0
  · have hB0 : B = [] := List.length_eq_zero_iff.1 h0
    have hn1 : (A ++ (id, q) :: B).length = A.length + 1 := by omega
    rw [← hn1]
    refine slcA_end_w m.cap fun p' c' hp' => ?_
    refine one p' 0 c' h0.symm fun Hy K' hl hk' => elK_end ((hl.get _ hb).trans gb) hp' hml (by rw [hB0] at hk'; exact hk')
  · refine slcA_at_w (by omega) (Nat.le_refl _) (by omega) m.cap fun c2 hc2 => ?_
    have e2 : (A ++ (id, q) :: B).length - (A.length + 1) = B.length := by omega
    rw [e2]
    refine one _ _ c2 rfl fun Hy K' hl hk' => elK_w ((hl.get _ hb).trans gb) (by rw [hml]; omega) hrb hk'
end Go.Proofs
end
section
/- The reference's tree of marks: how deep; two rows of numbers alike; the marks of a tree. -/
namespace Go.Proofs
open Go Go.Vw Go.Vw.Ev
set_option linter.unusedVariables false
set_option linter.unusedSimpArgs false

/-! Rows of marks that rise. -/
def UpM (M : List (Int × Pt)) : Prop := (aKeys M).Pairwise (· < ·)
theorem UpM.nod {M : List (Int × Pt)} (h : UpM M) : (aKeys M).Nodup := List.Pairwise.imp (fun h e => by omega) h
theorem mIn_keys : ∀ {M : List (Int × Pt)} (h : (aKeys M).Nodup) (r : Rc), mIn M r = (aKeys M).filter fun id => RIn r (posOf M id)
  | [], _, _ => rfl
  | (k, q) :: M, h, r => by
    have h' := List.nodup_cons.1 (show (k :: aKeys M).Nodup from h)
    have ih := mIn_keys h'.2 r
    show mIn ((k, q) :: M) r = (k :: aKeys M).filter _
    have e : (aKeys M).filter (fun id => RIn r (posOf ((k, q) :: M) id)) = (aKeys M).filter fun id => RIn r (posOf M id) := List.filter_congr fun id hid => by
      unfold posOf
      rw [aGet, if_neg (show ¬ (k, q).1 = id from fun e => h'.1 (by rw [show k = id from e]; exact hid))]
    have ek : posOf ((k, q) :: M) k = q := by unfold posOf; rw [aGet, if_pos rfl]; rfl
    rw [List.filter_cons, e, ← ih, ek]
    unfold mIn
    rw [List.filter_cons]
    split <;> rfl
theorem rin_sq {x y : Int} {d : Nat} {p : Pt} : RIn (sqR x y d) p = true ↔ InSq p x y d := by
  unfold RIn sqR InSq
  simp only [Bool.and_eq_true, decide_eq_true_eq]
theorem mIn_kid {M : List (Int × Pt)} (h : (aKeys M).Nodup) {x y : Int} {d i : Nat} (hd : d < 4) (hi : i < 4) : (mIn M (sqR x y d)).filter (inK (posOf M) x y d i) = mIn M (sqR (kx x d i) (ky y d i) (d + 1)) := by
  rw [mIn_keys h, mIn_keys h, List.filter_filter]
  refine List.filter_congr fun id _ => ?_
  rw [Bool.eq_iff_iff, Bool.and_eq_true, rin_sq, rin_sq]
  unfold inK
  rw [beq_iff_eq]
  constructor
  · rintro ⟨h1, h2⟩
    have := h2.kid (by omega)
    rwa [h1] at this
  · intro h1
    have := h1.up (by omega) hi
    exact ⟨this.2, this.1⟩
/-! How deep. -/
def mx4 (f : Nat → Nat) : Nat → Nat
  | 0 => 0
  | i + 1 => max (mx4 f i) (1 + f i)
def dkid (M : List (Int × Pt)) (h : Nat) (x y : Int) (d i : Nat) : Nat := deepN (posOf M) h (mIn M (sqR (kx x d i) (ky y d i) (d + 1))) (kx x d i) (ky y d i) (d + 1)
theorem deepN_mx {M : List (Int × Pt)} (hn : (aKeys M).Nodup) {h : Nat} {x y : Int} {d : Nat} (hd : d < 4) (hl : ¬ (mIn M (sqR x y d)).length ≤ 4) : deepN (posOf M) (h + 1) (mIn M (sqR x y d)) x y d = mx4 (dkid M h x y d) 4 := by
  rw [deepN, if_neg hl, mIn_kid hn hd (by decide), mIn_kid hn hd (by decide), mIn_kid hn hd (by decide), mIn_kid hn hd (by decide)]
  rfl
def CMDeep (h : Nat) (cl : Cl) : Prop := ∀ H g M O x y d K, MT H g M O → M.length < 10000 → (aKeys M).Nodup → Good x y d → d + h = 4 →
  (∀ H', Le H H' → K (.s (.int .i64 ((d + deepN (posOf M) h (mIn M (sqR x y d)) x y d : Nat) : Int))) H' = true) → cl i_ref8_Tree_deep [.s (.ptr (.at g 0)), .agg (rcC (sqR x y d)), .s (.int .i64 (d : Nat))] H K = true
theorem B_ref8_Tree_deep_ {lf : Nat} {cl : Cl} (hlf : 100000 ≤ lf) {h : Nat} (hin : CMIn cl) (hdeep : ∀ k, k < h → CMDeep k cl) {H : AH} {g : Pn} {M : List (Int × Pt)} {O : Pn → Prop} {x y : Int} {d : Nat} {K : AV → AH → Bool}
    (mt : MT H g M O) (hn : M.length < 10000) (hnod : (aKeys M).Nodup) (hg : Good x y d) (hd : d + h = 4)
    (hk : ∀ H', Le H H' → K (.s (.int .i64 ((d + deepN (posOf M) h (mIn M (sqR x y d)) x y d : Nat) : Int))) H' = true) : B_ref8_Tree_deep lf cl (.at g 0) (rcC (sqR x y d)) (d : Nat) H K = true := by
  unfold B_ref8_Tree_deep
  refine new_w fun gr H1 h1 hgr ngr ggr => ?_
  simp only [fB_eq, iEq_dec]
  refine ifA_w (fun hx => ?_) (fun hx => ?_)
  · have hx : d = 4 := by have h : (d : Int) = 4 := of_decide_eq_true hx; omega
    obtain rfl : h = 0 := by omega
    exact hk H1 h1
  have hx : d < 4 := by have h : ¬ (d : Int) = 4 := of_decide_eq_false hx; omega
  obtain ⟨h, rfl⟩ : ∃ h', h = h' + 1 := ⟨h - 1, by omega⟩
  refine rowK_w ggr (ldG_we (ys := rcC (sqR x y d)) (Nat.le_refl 4) (by decide) rfl ?_)
  refine hin H1 g M O _ _ (mt.le h1) hn fun H2 p c z h2 _ => ?_
  rw [asSl_]
  simp only [iLe_dec]
  have h12 := h1.trans h2
  refine ifA_w (fun hx2 => ?_) (fun hx2 => ?_)
  · have hl : (mIn M (sqR x y d)).length ≤ 4 := by have h := of_decide_eq_true hx2; simp only [Int.ofNat_eq_natCast] at h; omega
    have := hk H2 h12
    rw [deepN, if_pos hl] at this
    exact this
  have hl : ¬ (mIn M (sqR x y d)).length ≤ 4 := by have h := of_decide_eq_false hx2; simp only [Int.ofNat_eq_natCast] at h; omega
  rw [deepN_mx hnod hx hl] at hk
  have gr2 := (h2.get _ hgr).trans ggr
  have hs := sd_half (d := d) (by omega)
  have hp := sd_pos (d + 1)
  have hp0 := sd_pos d
  obtain ⟨g1, g2, g3, g4⟩ := hg
  refine rowK_w gr2 (ldI_w (n := x + sd d) rfl (rowK_w gr2 (ldI_w (n := x) rfl ?_)))
  rw [iSub_]
  refine w64_w (by omega) (by omega) ?_
  have e1 : Int.tdiv (x + sd d - x) 2 = sd (d + 1) := td2 (by omega) (by omega)
  show w64 (Int.tdiv (x + sd d - x) 2) _ = true
  rw [e1]
  refine w64_w (by omega) (by omega) ?_
  have mt2 := mt.le h12
  have dle : ∀ i, dkid M h x y d i ≤ h := fun i => deepN_le h _ _ _ _
  have mle : ∀ i, mx4 (dkid M h x y d) i ≤ h + 1 := fun i => by
    induction i with
    | zero => exact Nat.zero_le _
    | succ i ih => have := dle i; show max _ _ ≤ _; omega
  refine loopX_w (fun z Hx => Le H2 Hx ∧ ∃ i : Nat, z = (.at g 0, (d : Int), .at gr 0, sd (d + 1), ((d + mx4 (dkid M h x y d) i : Nat) : Int), (i : Int)) ∧ i ≤ 4) (fun z => 4 - z.2.2.2.2.2.toNat) ⟨Le.refl _, 0, rfl, by omega⟩ (by simp; omega) ?_
  rintro self z' Hx ⟨hL, i, rfl, hi⟩ ih
  simp only [pR_, fB_eq, iLt_dec, nilK_at, fN_eq, Nat.add_eq, Nat.zero_add, Nat.add_zero]
  refine ifA_w (fun hx3 => ?_) (fun hx3 => ?_)
  · have hi4 : i < 4 := by have h : (i : Int) < 4 := of_decide_eq_true hx3; omega
    have grx := (hL.get _ (h2.has _ hgr)).trans gr2
    refine rowK_w grx (ldI_w (n := x) rfl ?_)
    have m2 : Int.tmod (i : Int) (Int.ofNat 2) = ((i % 2 : Nat) : Int) := rfl
    have d2 : Int.tdiv (i : Int) (Int.ofNat 2) = ((i / 2 : Nat) : Int) := rfl
    have hm : i % 2 = 0 ∨ i % 2 = 1 := by omega
    have hdv : i / 2 = 0 ∨ i / 2 = 1 := by omega
    simp only [m2, d2, fI_eq, iMul_, iAdd_, Int.mul_comm _ (sd (d + 1))]
    have b1 : 0 ≤ sd (d + 1) * ((i % 2 : Nat) : Int) ∧ sd (d + 1) * ((i % 2 : Nat) : Int) ≤ sd (d + 1) := by rcases hm with e | e <;> rw [e] <;> simp <;> omega
    have b2 : 0 ≤ sd (d + 1) * ((i / 2 : Nat) : Int) ∧ sd (d + 1) * ((i / 2 : Nat) : Int) ≤ sd (d + 1) := by rcases hdv with e | e <;> rw [e] <;> simp <;> omega
    refine w64_w (by omega) (by omega) (w64_w (by omega) (by omega) ?_)
    refine rowK_w grx (ldI_w (n := y) rfl ?_)
    refine w64_w (by omega) (by omega) (w64_w (by omega) (by omega) (w64_w (by omega) (by omega) (w64_w (by omega) (by omega) (w64_w (by omega) (by omega) (w64_w (by simp only [Int.ofNat_eq_natCast]; omega) (by simp only [Int.ofNat_eq_natCast]; omega) ?_)))))
    refine hdeep h (by omega) Hx g M O (kx x d i) (ky y d i) (d + 1) _ (mt2.le hL) hn hnod (Good.kid ⟨g1, g2, g3, g4⟩ (by omega) hi4) (by omega) fun H3 h3 => arI_w ?_
    rw [mxA_]
    refine w64_w (by simp only [Int.ofNat_eq_natCast]; omega) (by simp only [Int.ofNat_eq_natCast]; omega) (ih _ _ ⟨hL.trans h3, i + 1, ?_, by omega⟩ (by simp; omega))
    have em : max ((d + mx4 (dkid M h x y d) i : Nat) : Int) ((d + 1 + dkid M h x y d i : Nat) : Int) = ((d + mx4 (dkid M h x y d) (i + 1) : Nat) : Int) := by
      show _ = ((d + max (mx4 (dkid M h x y d) i) (1 + dkid M h x y d i) : Nat) : Int)
      omega
    have em' : max ((d + mx4 (dkid M h x y d) i : Nat) : Int) ((d + 1 + deepN (posOf M) h (mIn M (sqR (kx x d i) (ky y d i) (d + 1))) (kx x d i) (ky y d i) (d + 1) : Nat) : Int) = ((d + mx4 (dkid M h x y d) (i + 1) : Nat) : Int) := em
    rw [em']
    rfl
  · have hi4 : i = 4 := by have h : ¬ (i : Int) < 4 := of_decide_eq_false hx3; omega
    subst hi4
    exact hk Hx (h12.trans hL)
def depM (M : List (Int × Pt)) : Nat := deepN (posOf M) 4 (mIn M ⟨0, 0, 64, 64⟩) 0 0 0
def CMDepth (cl : Cl) : Prop := ∀ H g M O K, MT H g M O → M.length < 10000 → (aKeys M).Nodup → (∀ H', Le H H' → K (.s (.int .i64 (depM M : Nat))) H' = true) → cl i_ref8_Tree_Depth [.s (.ptr (.at g 0))] H K = true
theorem B_ref8_Tree_Depth_ {lf : Nat} {cl : Cl} (hmap : CRc0 i_ref3_Map ⟨0, 0, 64, 64⟩ cl) (hdeep : CMDeep 4 cl) {H : AH} {g : Pn} {M : List (Int × Pt)} {O : Pn → Prop} {K : AV → AH → Bool} (mt : MT H g M O) (hn : M.length < 10000) (hnod : (aKeys M).Nodup)
    (hk : ∀ H', Le H H' → K (.s (.int .i64 (depM M : Nat))) H' = true) : B_ref8_Tree_Depth lf cl (.at g 0) H K = true := by
  unfold B_ref8_Tree_Depth
  refine hmap _ _ fun H1 h1 => ?_
  rw [asG_]
  refine hdeep H1 g M O 0 0 0 _ (mt.le h1) hn hnod good0 (by omega) fun H2 h2 => arI_w ?_
  have := hk H2 (h1.trans h2)
  rw [Nat.zero_add]
  exact this
/-! Rows of numbers alike. -/
def CSame8 (cl : Cl) : Prop := ∀ H p n c z ks p' n' c' z' js K, IS H p n z ks → IS H p' n' z' js → n < 10000 → K (.s (.bool (decide (ks = js)))) H = true → cl i_law8_same [.s (.slice p n c z), .s (.slice p' n' c' z')] H K = true
theorem B_law8_same_ {lf : Nat} {cl : Cl} (hlf : 100000 ≤ lf) {H : AH} {p p' : AP} {n n' z z' : Nat} {c c' : ACap} {ks js : List Int} {K : AV → AH → Bool} (h : IS H p n z ks) (h' : IS H p' n' z' js) (hn : n < 10000)
    (hk : K (.s (.bool (decide (ks = js)))) H = true) : B_law8_same lf cl p n c z p' n' c' z' H K = true := by
  unfold B_law8_same
  have e1 := h.1
  have e2 := h'.1
  simp only [fB_eq, iEq_dec]
  refine ifA_w (fun hx => ?_) (fun hx => ?_)
  · have hne : ks ≠ js := fun e => by
      subst e
      have : n = n' := by omega
      subst this
      simp at hx
    rw [decide_eq_false hne] at hk
    exact hk
  have hnn : n = n' := by
    have : decide (Int.ofNat n = Int.ofNat n') = true := by simpa using hx
    have := of_decide_eq_true this
    simp only [Int.ofNat_eq_natCast] at this
    omega
  subst hnn
  refine loopX_w (fun x Hx => Hx = H ∧ ∃ i : Nat, x = ((p, n, c, z), (p', n, c', z'), (i : Int)) ∧ i ≤ n ∧ ks.take i = js.take i) (fun x => n - x.2.2.toNat) ⟨rfl, 0, rfl, by omega, rfl⟩ (by simp; omega) ?_
  rintro self x Hx ⟨rfl, i, rfl, hi, ht⟩ ih
  simp only [pR_, fB_eq, iLt_dec]
  refine ifA_w (fun hx => ?_) (fun hx => ?_)
  · have hx : i < n := by have := of_decide_eq_true hx; simp only [Int.ofNat_eq_natCast] at this; omega
    have hik : i < ks.length := by omega
    have hij : i < js.length := by omega
    obtain ⟨b1, cs1, rfl, hb1, gb1, i1⟩ := h.at hik
    obtain ⟨b2, cs2, rfl, hb2, gb2, i2⟩ := h'.at hij
    simp only [nilK_at, fN_eq, Nat.add_eq, Nat.mul_eq, Nat.zero_add, Nat.mul_one]
    refine idxK_w (by omega) (by omega) (rowK_w gb1 (ldI_w (by rw [Int.toNat_natCast]; exact i1) ?_))
    refine idxK_w (by omega) (by omega) (rowK_w gb2 (ldI_w (by rw [Int.toNat_natCast]; exact i2) ?_))
    refine ifA_w (fun hy => ?_) (fun hy => ?_)
    · have hne : ks ≠ js := fun e => by
        subst e
        simp at hy
      rw [decide_eq_false hne] at hk
      exact hk
    · have hy : ks[i] = js[i] := by simpa using hy
      rw [iAdd_]
      refine w64_w (by simp only [Int.ofNat_eq_natCast]; omega) (by simp only [Int.ofNat_eq_natCast]; omega) (ih _ _ ⟨rfl, i + 1, by simp, by omega, ?_⟩ (by simp; omega))
      rw [List.take_succ_eq_append_getElem hik, List.take_succ_eq_append_getElem hij, ht, hy]
  · have hx : i = n := by have := of_decide_eq_false hx; simp only [Int.ofNat_eq_natCast] at this; omega
    rw [hx, List.take_of_length_le (by omega), List.take_of_length_le (by omega)] at ht
    rw [decide_eq_true ht] at hk
    exact hk
/-! The marks of a tree. -/
structure MOf (L M : List (Int × Pt)) : Prop where
  up : UpM M
  get : ∀ i, aGet M i = aGet L i
theorem mem_getM {L : List (Int × Pt)} {k : Int} : k ∈ aKeys L ↔ (aGet L k).isSome = true := by
  constructor
  · intro h
    cases e : aGet L k with
    | none => exact absurd h (aGet_none.1 e)
    | some v => rfl
  · intro h
    obtain ⟨v, e⟩ := Option.isSome_iff_exists.1 h
    exact aGet_some_mem e
theorem MOf.keys {L M : List (Int × Pt)} (h : MOf L M) (hn : (aKeys L).Nodup) : (aKeys M).Perm (aKeys L) :=
  (List.perm_ext_iff_of_nodup h.up.nod hn).2 fun k => by rw [mem_getM, mem_getM, h.get]
theorem MOf.len {L M : List (Int × Pt)} (h : MOf L M) (hn : (aKeys L).Nodup) : M.length = L.length := by
  have := (h.keys hn).length_eq
  simpa [aKeys] using this
theorem MOf.pos {L M : List (Int × Pt)} (h : MOf L M) : posOf M = posOf L := by funext i; unfold posOf; rw [h.get]
theorem MOf.nil : MOf [] [] := ⟨List.Pairwise.nil, fun _ => rfl⟩
theorem ins_keys {x : Int × Pt} : ∀ {M : List (Int × Pt)} {k : Int}, k ∈ aKeys (insM x M) ↔ k = x.1 ∨ k ∈ aKeys M
  | [], k => by simp [insM, aKeys]
  | m :: r, k => by
    unfold insM
    split
    · have := ins_keys (x := x) (M := r) (k := k)
      simp only [aKeys, List.map_cons, List.mem_cons] at *
      rw [this]
      constructor
      · rintro (h | h | h)
        · exact .inr (.inl h)
        · exact .inl h
        · exact .inr (.inr h)
      · rintro (h | h | h)
        · exact .inr (.inl h)
        · exact .inl h
        · exact .inr (.inr h)
    · simp [aKeys]
theorem ins_up {x : Int × Pt} : ∀ {M : List (Int × Pt)}, UpM M → x.1 ∉ aKeys M → UpM (insM x M)
  | [], _, _ => by simp [insM, UpM, aKeys]
  | m :: r, h, hn => by
    have h' := List.pairwise_cons.1 (show (m.1 :: aKeys r).Pairwise (· < ·) from h)
    simp only [aKeys, List.map_cons, List.mem_cons, not_or] at hn
    unfold insM
    split
    · rename_i hlt
      refine List.pairwise_cons.2 ⟨fun k hk => ?_, ins_up h'.2 hn.2⟩
      rcases ins_keys.1 hk with rfl | hk
      · exact hlt
      · exact h'.1 k hk
    · rename_i hnl
      refine List.pairwise_cons.2 ⟨fun k hk => ?_, h⟩
      show x.1 < k
      rcases List.mem_cons.1 (show k ∈ m.1 :: aKeys r from hk) with rfl | hk
      · omega
      · have := h'.1 k hk; omega
theorem ins_get {id : Int} {p : Pt} : ∀ {M : List (Int × Pt)}, id ∉ aKeys M → ∀ j, aGet (insM (id, p) M) j = if id = j then some p else aGet M j
  | [], _, j => by simp [insM, aGet]
  | m :: r, hn, j => by
    simp only [aKeys, List.map_cons, List.mem_cons, not_or] at hn
    unfold insM
    split
    · rw [aGet, aGet, ins_get hn.2 j]
      by_cases e : m.1 = j
      · rw [if_pos e, if_pos e, if_neg]
        intro e2; exact hn.1 (e2.trans e.symm)
      · rw [if_neg e, if_neg e]
    · rw [aGet]
theorem MOf.put {L M : List (Int × Pt)} (h : MOf L M) (hn : (aKeys L).Nodup) (id : Int) (p : Pt) : MOf (putL L id p) (mputL M id p) ∧ mputE M id p = putE L id p := by
  have e : mputE M id p = putE L id p := by unfold mputE putE; rw [h.get, h.len hn]
  refine ⟨?_, e⟩
  unfold putL mputL
  rw [e]
  split
  · rename_i h0
    have hno : id ∉ aKeys M := by
      intro hm
      have := mem_getM.1 hm
      rw [h.get] at this
      unfold putE at h0
      rw [if_pos this] at h0
      split at h0
      · cases h0
      · split at h0 <;> cases h0
    refine ⟨ins_up h.up hno, fun j => ?_⟩
    rw [ins_get hno]
    by_cases e : id = j
    · subst e; rw [if_pos rfl, aGet_set_same]
    · rw [if_neg e, aGet_set_ne _ _ (fun e' => e e'.symm), h.get]
  · exact h
theorem MOf.move {L M : List (Int × Pt)} (h : MOf L M) (id : Int) (p : Pt) : MOf (moveL L id p) (moveL M id p) ∧ moveE M id p = moveE L id p := by
  have e : moveE M id p = moveE L id p := by unfold moveE; rw [h.get]
  refine ⟨?_, e⟩
  unfold moveL
  rw [e]
  split
  · rename_i h0
    have hm : id ∈ aKeys M := by
      rw [mem_getM, h.get]
      unfold moveE at h0
      cases e : (aGet L id).isSome with
      | true => rfl
      | false => rw [e] at h0; simp at h0
    refine ⟨by unfold UpM; rw [aKeys_set_old _ _ hm]; exact h.up, fun j => ?_⟩
    by_cases e : j = id
    · subst e; rw [aGet_set_same, aGet_set_same]
    · rw [aGet_set_ne _ _ e, aGet_set_ne _ _ e, h.get]
  · exact h
theorem MOf.drop {L M : List (Int × Pt)} (h : MOf L M) (id : Int) : MOf (aDel L id) (aDel M id) := by
  refine ⟨by unfold UpM; rw [aKeys_del]; exact h.up.filter _, fun j => ?_⟩
  by_cases e : j = id
  · subst e; rw [aGet_del_same, aGet_del_same]
  · rw [aGet_del_ne _ e, aGet_del_ne _ e, h.get]
theorem lt_ext : ∀ {a b : List Int}, a.Pairwise (· < ·) → b.Pairwise (· < ·) → a.Perm b → a = b
  | [], b, _, _, h => (List.nil_perm.1 h).symm
  | x :: a, b, ha, hb, h => by
    cases b with
    | nil => exact absurd h.length_eq (by simp)
    | cons y b =>
      have ha' := List.pairwise_cons.1 ha
      have hb' := List.pairwise_cons.1 hb
      have e : x = y := by
        have hx : x ∈ y :: b := h.mem_iff.1 (by simp)
        have hy : y ∈ x :: a := h.mem_iff.2 (by simp)
        rcases List.mem_cons.1 hx with e | h1
        · exact e
        · rcases List.mem_cons.1 hy with e | h2
          · exact e.symm
          · have := hb'.1 x h1; have := ha'.1 y h2; omega
      subst e
      rw [lt_ext ha'.2 hb'.2 ((List.perm_cons x).1 h)]
theorem srt_lt {l : List Int} (hn : l.Nodup) : (srtI l).Pairwise (· < ·) := by
  have h1 := srtI_sorted l
  have h2 : (srtI l).Nodup := (srtI_perm l).nodup_iff.2 hn
  exact (h1.and h2).imp fun h => by obtain ⟨h1, h2⟩ := h; omega
theorem MOf.inn {L M : List (Int × Pt)} (h : MOf L M) (hn : (aKeys L).Nodup) (r : Rc) : mIn M r = inL L r := by
  rw [mIn_keys h.up.nod, h.pos]
  unfold inL inSel
  refine lt_ext (h.up.filter _) (srt_lt (hn.filter _)) (((h.keys hn).filter _).trans (srtI_perm _).symm)
theorem on_all {p : Pt} (h : On p = true) : RIn ⟨0, 0, 64, 64⟩ p = true := h
theorem MOf.dep {L M : List (Int × Pt)} (h : MOf L M) (hn : (aKeys L).Nodup) (ho : ∀ k ∈ aKeys L, On (posOf L k) = true) : depM M = depL L := by
  unfold depM depL
  rw [mIn_keys h.up.nod, h.pos]
  have e : (aKeys M).filter (fun id => RIn ⟨0, 0, 64, 64⟩ (posOf L id)) = aKeys M := List.filter_eq_self.2 fun id hid => on_all (ho id ((h.keys hn).mem_iff.1 hid))
  rw [e]
  exact deepN_perm 4 0 0 0 (h.keys hn)
end Go.Proofs
end
section
/- QuadPlays: the walk. -/
namespace Go.Proofs
open Go Go.Vw Go.Vw.Ev
set_option linter.unusedVariables false
set_option linter.unusedSimpArgs false

/-! A step, rows of steps. -/
structure S8 where
  w : Int
  id : Int
  p : Pt
  r : Rc
def s8C (s : S8) : List AS := .int .i64 s.w :: .int .i64 s.id :: (ptC s.p ++ rcC s.r)
theorem s8C_len (s : S8) : (s8C s).length = 8 := rfl
theorem s8C_p (s : S8) : ((s8C s).drop 2).take 2 = ptC s.p := rfl
theorem s8C_r (s : S8) : ((s8C s).drop 4).take 4 = rcC s.r := rfl
def s8sC (l : List S8) : List AS := l.flatMap s8C
theorem s8sC_len : ∀ l : List S8, (s8sC l).length = l.length * 8
  | [] => rfl
  | r :: l => by have := s8sC_len l; simp only [s8sC, List.flatMap_cons, List.length_append] at *; rw [this, s8C_len, List.length_cons]; omega
theorem s8sC_at : ∀ (l : List S8) (i : Nat) (h : i < l.length), ((s8sC l).drop (i * 8)).take 8 = s8C l[i]
  | p :: l, 0, _ => rfl
  | p :: l, i + 1, h => by
    have := s8sC_at l i (by simpa using h)
    simp only [List.getElem_cons_succ, s8sC, List.flatMap_cons] at *
    rw [← this, show (i + 1) * 8 = (s8C p).length + i * 8 by rw [s8C_len]; omega, ← List.drop_drop, List.drop_left]
def InS8 (H : AH) (p : AP) (n : Nat) (ts : List S8) : Prop := ts.length = n ∧ (n ≠ 0 → ∃ g, p = .at g 0 ∧ H.has g ∧ H.get g = some (.fix (s8sC ts))) ∧ ∀ s ∈ ts, s.id ≤ 9223372036854775807
theorem InS8.le {H H' : AH} {p : AP} {n : Nat} {ts : List S8} (h : InS8 H p n ts) (k : Le H H') : InS8 H' p n ts :=
  ⟨h.1, fun hn => (h.2.1 hn).imp fun g hg => ⟨hg.1, k.has g hg.2.1, (k.get g hg.2.1).trans hg.2.2⟩, h.2.2⟩
theorem InS8.read {H : AH} {p : AP} {n : Nat} {ts : List S8} (h : InS8 H p n ts) {i : Nat} (hi : i < n) {K : List AS → Bool} (hk : K (s8C (ts[i]'(by rw [h.1]; exact hi))) = true) :
    nilK p (fun g o => idxK (i : Int) n fun m => fN (Nat.add o (Nat.mul m 8)) fun o => rowK H g fun cs => ldG cs o 8 K) = true := by
  obtain ⟨g, rfl, hg, hrow⟩ := h.2.1 (by omega)
  simp only [nilK_at, fN_eq, Nat.add_eq, Nat.mul_eq, Nat.zero_add]
  have hl : (s8sC ts).length = n * 8 := by rw [s8sC_len, h.1]
  exact idxK_w (by omega) (by omega) (rowK_wf hrow (ldG_we (by rw [hl, Int.toNat_natCast]; omega) (by decide) (by rw [Int.toNat_natCast]; exact s8sC_at ts i _) hk))
theorem leafy_s8 (s : S8) : (s8C s).all leafy = true := rfl
theorem cells_pt (p : Pt) : cellsEqA (ptC p) (ptC p) = true := by simp only [ptC, cellsEqA, cellEqA, iEq_dec, decide_true]
/-- What stands at a step. -/
structure QS (H1 H : AH) (gs : Pn) (cs : List AS) (gc : Pn) (Lc : List (Int × Pt)) (Oc : Pn → Prop) (g : Pn) (L : List (Int × Pt)) (O : Pn → Prop) (gm : Pn) (M : List (Int × Pt)) (Om : Pn → Prop) : Prop where
  le : Le H1 H
  tr : TR H g L O
  trn : ∀ a, O a → ¬ H1.has a
  mt : MT H gm M Om
  mtn : ∀ a, Om a → ¬ H1.has a
  ap : ∀ a, O a → ¬ Om a
  hgs : H.has gs
  get : H.get gs = some (.row cs)
  gsO : ¬ O gs
  gsM : ¬ Om gs
  gs1 : ¬ H1.has gs
  tc : TR H gc Lc Oc
  ac : ∀ a, Oc a → ¬ O a ∧ ¬ Om a ∧ a ≠ gs ∧ ¬ H1.has a
theorem QS.le' {H1 H H' : AH} {gs : Pn} {cs : List AS} {gc : Pn} {Lc : List (Int × Pt)} {Oc : Pn → Prop} {g : Pn} {L : List (Int × Pt)} {O : Pn → Prop} {gm : Pn} {M : List (Int × Pt)} {Om : Pn → Prop}
    (s : QS H1 H gs cs gc Lc Oc g L O gm M Om) (k : Le H H') : QS H1 H' gs cs gc Lc Oc g L O gm M Om :=
  ⟨s.le.trans k, s.tr.le k, s.trn, s.mt.le k, s.mtn, s.ap, k.has _ s.hgs, (k.get _ s.hgs).trans s.get, s.gsO, s.gsM, s.gs1, s.tc.le k, s.ac⟩
theorem QS.op {H1 H H' : AH} {gs : Pn} {cs : List AS} {gc : Pn} {Lc : List (Int × Pt)} {Oc : Pn → Prop} {g : Pn} {L L' : List (Int × Pt)} {O O' : Pn → Prop} {gm : Pn} {M : List (Int × Pt)} {Om : Pn → Prop}
    (s : QS H1 H gs cs gc Lc Oc g L O gm M Om) (f : Fr O H H') (t : TR H' g L' O') (o : ∀ a, O' a → O a ∨ ¬ H.has a) : QS H1 H' gs cs gc Lc Oc g L' O' gm M Om :=
  ⟨⟨fun a ha => f.has a (s.le.has a ha), fun a ha => (f.get a (s.le.has a ha) fun h => s.trn a h ha).trans (s.le.get a ha)⟩, t,
    fun a ha h => (o a ha).elim (fun h' => s.trn a h' h) fun h' => h' (s.le.has a h), s.mt.fr f fun a ha h => s.ap a h ha, s.mtn,
    fun a ha h => (o a ha).elim (fun h' => s.ap a h' h) fun h' => h' (s.mt.has a h), f.has _ s.hgs, (f.get _ s.hgs s.gsO).trans s.get,
    fun h => (o _ h).elim s.gsO fun h' => h' s.hgs, s.gsM, s.gs1, s.tc.fr f fun a ha h => (s.ac a ha).1 h,
    fun a ha => ⟨fun h => (o a h).elim (s.ac a ha).1 fun h' => h' (s.tc.has a ha), (s.ac a ha).2⟩⟩
theorem QS.opm {H1 H H' : AH} {gs : Pn} {cs : List AS} {gc : Pn} {Lc : List (Int × Pt)} {Oc : Pn → Prop} {g : Pn} {L : List (Int × Pt)} {O : Pn → Prop} {gm : Pn} {M M' : List (Int × Pt)} {Om Om' : Pn → Prop}
    (s : QS H1 H gs cs gc Lc Oc g L O gm M Om) (f : Fr Om H H') (t : MT H' gm M' Om') (o : ∀ a, Om' a → Om a ∨ ¬ H.has a) : QS H1 H' gs cs gc Lc Oc g L O gm M' Om' :=
  ⟨⟨fun a ha => f.has a (s.le.has a ha), fun a ha => (f.get a (s.le.has a ha) fun h => s.mtn a h ha).trans (s.le.get a ha)⟩, s.tr.fr f fun a ha h => s.ap a ha h, s.trn, t,
    fun a ha h => (o a ha).elim (fun h' => s.mtn a h' h) fun h' => h' (s.le.has a h),
    fun a ha h => (o a h).elim (fun h' => s.ap a ha h') fun h' => h' (s.tr.has a ha), f.has _ s.hgs, (f.get _ s.hgs s.gsM).trans s.get,
    s.gsO, fun h => (o _ h).elim s.gsM fun h' => h' s.hgs, s.gs1, s.tc.fr f fun a ha h => (s.ac a ha).2.1 h,
    fun a ha => ⟨(s.ac a ha).1, fun h => (o a h).elim (s.ac a ha).2.1 fun h' => h' (s.tc.has a ha), (s.ac a ha).2.2⟩⟩
theorem QS.tab {H1 H H' : AH} {gs : Pn} {cs : List AS} {gc : Pn} {Lc : List (Int × Pt)} {Oc : Pn → Prop} {g g' : Pn} {L L' : List (Int × Pt)} {O O' : Pn → Prop} {gm : Pn} {M : List (Int × Pt)} {Om : Pn → Prop}
    (s : QS H1 H gs cs gc Lc Oc g L O gm M Om) (k : Le H H') (t : TR H' g' L' O') (ho : ∀ a, O' a → ¬ H.has a) : QS H1 H' gs cs gc Lc Oc g' L' O' gm M Om :=
  ⟨s.le.trans k, t, fun a ha h => ho a ha (s.le.has a h), s.mt.le k, s.mtn, fun a ha h => ho a ha (s.mt.has a h), k.has _ s.hgs, (k.get _ s.hgs).trans s.get, fun h => ho _ h s.hgs, s.gsM, s.gs1, s.tc.le k,
    fun a ha => ⟨fun h => ho a h (s.tc.has a ha), (s.ac a ha).2⟩⟩
theorem B_law8_QuadPlays_ {lf : Nat} {cl : Cl} (hlf : 1000 ≤ lf) (hkn : CTrue i_law8_known cl) (hnew : CNewQ cl) (hcopy : CQCopy cl) (hput : CPut cl) (hmove : CMove cl) (hdrop : CDrop cl) (hat : CAt cl) (hin : CInT cl) (hlen : CLen cl) (hdep : CDepthL cl)
    (mput : CMPut cl) (mmove : CMMove cl) (mdrop : CMDrop cl) (mat : CMAt cl) (min' : CMIn cl) (mdep : CMDepth cl) (hsame : CSame8 cl)
    {H : AH} {q : AP} {m : Nat} {qc : ACap} {l : List S8} (hI : InS8 H q m l) : B_law8_QuadPlays lf cl q m qc 8 H isT = true := by
  unfold B_law8_QuadPlays
  rw [hkn]
  refine arB_w ?_
  simp only [fB_eq, iLt_dec]
  refine ifA_w (fun h => by cases h) (fun _ => ?_)
  refine ifA_w (fun _ => rfl) (fun hm => ?_)
  have hm : m ≤ 60 := by have := of_decide_eq_false hm; simp only [Int.ofNat_eq_natCast] at this; omega
  refine hnew _ _ fun H1 g O h1 tr hz => ?_
  rw [asP_]
  refine new_w fun gm H2 h2 hgm ngm ggm => ?_
  have mt0 : MT H2 gm [] (fun a => a = gm ∨ ownP .nil a) := ⟨.nil, .lit 0, 1, ⟨hgm, ggm, Nat.zero_le _, .inl ⟨rfl, rfl⟩, fun ⟨o, e⟩ => by cases e⟩, rfl⟩
  refine loopX_w (fun x Hx => ∃ (i : Nat) (g : Pn) (L : List (Int × Pt)) (O : Pn → Prop) (M : List (Int × Pt)) (Om : Pn → Prop), x = ((q, m, qc, 8), .at g 0, .at gm 0, (i : Int)) ∧ i ≤ m ∧ Le H Hx ∧ TR Hx g L O ∧ (∀ a, O a → ¬ H.has a) ∧ MT Hx gm M Om ∧ (∀ a, Om a → ¬ H.has a) ∧ (∀ a, O a → ¬ Om a) ∧ MOf L M) (fun x => 100 - x.2.2.2.toNat)
    ⟨0, g, [], O, [], _, rfl, by omega, h1.trans h2, tr.le h2, hz, mt0, ?_, ?_, MOf.nil⟩ (by simp; omega) ?_
  · rintro a (rfl | ⟨o, e⟩) h
    · exact ngm (h1.has _ h)
    · cases e
  · rintro a ha (rfl | ⟨o, e⟩)
    · exact ngm (tr.has _ ha)
    · cases e
  clear tr hz h1 h2 hgm ngm ggm mt0 H1 H2 O g
  rintro self x Hx ⟨i, g, L, O, M, Om, rfl, hi, hL, tr, trn, mt, mtn, ap, mof⟩ ih
  simp only [pR_, fB_eq, iLt_dec]
  have hnod := tr.nodK
  have hml := mof.len hnod
  have hL4 := tr.len
  refine ifA_w (fun hx => ?_) (fun hx => rfl)
  have hx : i < m := by have := of_decide_eq_true hx; simp only [Int.ofNat_eq_natCast] at this; omega
  refine (hI.le hL).read hx ?_
  have hid := hI.2.2 _ (List.getElem_mem (by rw [hI.1]; exact hx))
  generalize (l[i]'(by rw [hI.1]; exact hx)) = s at hid ⊢
  refine tmp_w rfl (s8C_len s) fun gs H2 h2 hgs ngs ggs => ?_
  refine hcopy H2 g L O _ (tr.le h2) fun H3 gc Lc Oc h3 tc zc _ => ?_
  rw [asP_]
  have h23 := h2.trans h3
  have gs3 := (h3.get _ hgs).trans ggs
  have qs : QS H H3 gs (s8C s) gc Lc Oc g L O gm M Om := ⟨hL.trans h23, tr.le h23, trn, mt.le h23, mtn, ap, h3.has _ hgs, gs3, fun h => ngs (tr.has _ h), fun h => ngs (mt.has _ h), fun h => ngs (hL.has _ h), tc,
    fun a ha => ⟨fun h => zc a ha (h2.has _ (tr.has a h)), fun h => zc a ha (h2.has _ (mt.has a h)), fun e => zc a ha (e ▸ hgs), fun h => zc a ha (h2.has _ (hL.has a h))⟩⟩
  clear tr trn mt mtn ap gs3 tc zc h3 h23 ggs ngs hgs
  refine joinX_w (fun x Hy => ∃ (g : Pn) (L : List (Int × Pt)) (O : Pn → Prop) (M : List (Int × Pt)) (Om : Pn → Prop) (e : Int), x = ((q, m, qc, 8), .at g 0, .at gm 0, (i : Int), .at gs 0, .at gc 0, e, e) ∧ QS H Hy gs (s8C s) gc Lc Oc g L O gm M Om ∧ MOf L M) ?_ ?_
  · rintro x H4 ⟨g, L, O, M, Om, e, rfl, qs, mof⟩
    have hnod := qs.tr.nodK
    have hml := mof.len hnod
    have hL4 := qs.tr.len
    simp only [pR_]
    refine hput H4 gc Lc Oc 777777 ⟨0, 0⟩ _ qs.tc (by omega) fun H5 O5 f5 t5 o5 => arI_w ?_
    have le5 : Le H H5 := ⟨fun a ha => f5.has a (qs.le.has a ha), fun a ha => (f5.get a (qs.le.has a ha) fun h => (qs.ac a h).2.2.2 ha).trans (qs.le.get a ha)⟩
    have tr5 := qs.tr.fr f5 fun a ha h => (qs.ac a h).1 ha
    have mt5 := qs.mt.fr f5 fun a ha h => (qs.ac a h).2.1 ha
    have gs5 := (f5.get _ qs.hgs fun h => (qs.ac _ h).2.2.1 rfl).trans qs.get
    have hgs5 := f5.has _ qs.hgs
    have trn := qs.trn
    have mtn := qs.mtn
    have ap := qs.ap
    clear t5 o5 f5 qs
    simp only [nilK_at, fN_eq, Nat.add_eq, Nat.zero_add, Nat.add_zero]
    refine rowK_w gs5 (ldI_w (n := s.id) rfl ?_)
    refine hat H5 g L O s.id _ tr5 fun H6 h6 => ?_
    rw [tup2_, asG_]
    refine arB_w (tmp_w rfl rfl fun ga H7 h7 hga nga gga => ?_)
    have h57 := h6.trans h7
    have gs7 := (h57.get _ hgs5).trans gs5
    refine rowK_w gs7 (ldI_w (n := s.id) rfl ?_)
    refine mat H7 gm M Om s.id _ (mt5.le h57) (by omega) fun H8 h8 => ?_
    rw [tup2_, asG_, mof.pos, mof.get]
    refine arB_w (tmp_w rfl rfl fun gb H9 h9 hgb ngb ggb => ?_)
    have h79 := h8.trans h9
    have h59 := h57.trans h79
    have gs9 := (h59.get _ hgs5).trans gs5
    have ga9 := (h79.get _ hga).trans gga
    rw [iEq_dec, decide_eq_true rfl]
    refine ifA_w (fun h => by cases h) (fun _ => ?_)
    refine rowK_w gs9 (ldG_we (ys := rcC s.r) (by rw [s8C_len]; decide) (by decide) (s8C_r s) ?_)
    refine getK_w gs9 (rowK_w gs9 (ldG_we (ys := rcC s.r) (by rw [s8C_len]; decide) (by decide) (s8C_r s) ?_))
    refine hin H9 g L O s.r _ (tr5.le h59) fun H10 p1 c1 z1 h10 is1 _ _ => ?_
    have gs10 := (h10.get _ (h59.has _ hgs5)).trans gs9
    refine okK_w (kSame_row gs10 (leafy_s8 s) rfl) ?_
    rw [asSl_]
    refine min' H10 gm M Om s.r _ (mt5.le (h59.trans h10)) (by omega) fun H11 p2 c2 z2 h11 is2 => ?_
    rw [asSl_, mof.inn hnod]
    rw [mof.inn hnod] at is2
    have hil : (inL L s.r).length < 10000 := by
      have := List.length_filter_le (fun id => RIn s.r (posOf L id)) (aKeys L)
      unfold inL inSel
      rw [srtI_len]
      have : (aKeys L).length = L.length := by simp [aKeys]
      omega
    refine hsame H11 _ _ _ _ _ _ _ _ _ _ _ (is1.fr (h11.fr fun _ => False) fun _ _ => id) is2 hil (arB_w ?_)
    rw [decide_eq_true rfl]
    refine ifA_w (fun h => by cases h) (fun _ => ?_)
    have h911 := h10.trans h11
    have h511 := h59.trans h911
    have tr11 := tr5.le h511
    have mt11 := mt5.le h511
    have ga11 := (h911.get _ (h79.has _ hga)).trans ga9
    have gb11 := (h911.get _ hgb).trans ggb
    have hga11 := h911.has _ (h79.has _ hga)
    have hgb11 := h911.has _ hgb
    have dl := mof.dep hnod fun k hk => (TR.onKC tr11 k hk).1
    obtain ⟨pp, cc, zz, mr, hOm⟩ := mt11
    have mt11' : MT H11 gm M Om := ⟨pp, cc, zz, mr, hOm⟩
    have eb : ∀ b : Bool, bEq b b = true := fun b => by cases b <;> rfl
    have fin : ∀ {H12 : AH}, Le H11 H12 → Le H H12 ∧ TR H12 g L O ∧ MT H12 gm M Om := fun k => ⟨(le5.trans h511).trans k, tr11.le k, mt11'.le k⟩
    refine okK_w ?_ ?_
    · refine hlen H11 g L O _ tr11 (arI_w ?_)
      refine rowK_w mr.get (ldSl_w rfl ?_)
      rw [hml, Int.ofNat_eq_natCast, iEq_dec, decide_eq_true rfl]
      refine ifA_w (fun h => by cases h) (fun _ => ?_)
      refine hdep H11 g L O _ tr11 (arI_w ?_)
      refine mdep H11 gm M Om _ mt11' (by omega) mof.up.nod fun H12 h12 => arI_w ?_
      rw [dl, iEq_dec, decide_eq_true rfl]
      refine ifA_w (fun h => by cases h) (fun _ => ?_)
      refine rowK_w ((h12.get _ hga11).trans ga11) (ldG_we (ys := ptC (posOf L s.id)) (Nat.le_refl 2) (by decide) rfl ?_)
      refine rowK_w ((h12.get _ hgb11).trans gb11) (ldG_we (ys := ptC (posOf L s.id)) (Nat.le_refl 2) (by decide) rfl ?_)
      refine okK_w rfl ?_
      rw [cells_pt, eb]
      refine ifA_w (fun h => by cases h) (fun _ => ifA_w (fun h => by cases h) (fun _ => ?_))
      rw [iAdd_]
      obtain ⟨k1, k2, k3⟩ := fin h12
      exact w64_w (by simp only [Int.ofNat_eq_natCast]; omega) (by simp only [Int.ofNat_eq_natCast]; omega) (ih _ _ ⟨i + 1, g, L, O, M, Om, by simp, by omega, k1, k2, trn, k3, mtn, ap, mof⟩ (by simp; omega))
    · refine rowK_w mr.get (ldSl_w rfl ?_)
      refine hlen H11 g L O _ tr11 (arI_w ?_)
      rw [hml, Int.ofNat_eq_natCast, iEq_dec, decide_eq_true rfl]
      refine ifA_w (fun h => by cases h) (fun _ => ?_)
      refine hdep H11 g L O _ tr11 (arI_w ?_)
      refine mdep H11 gm M Om _ mt11' (by omega) mof.up.nod fun H12 h12 => arI_w ?_
      rw [dl, iEq_dec, decide_eq_true rfl]
      refine ifA_w (fun h => by cases h) (fun _ => ?_)
      refine rowK_w ((h12.get _ hga11).trans ga11) (ldG_we (ys := ptC (posOf L s.id)) (Nat.le_refl 2) (by decide) rfl ?_)
      refine rowK_w ((h12.get _ hgb11).trans gb11) (ldG_we (ys := ptC (posOf L s.id)) (Nat.le_refl 2) (by decide) rfl ?_)
      refine okK_w rfl ?_
      rw [cells_pt, eb]
      refine ifA_w (fun h => by cases h) (fun _ => ifA_w (fun h => by cases h) (fun _ => ?_))
      rw [iAdd_]
      obtain ⟨k1, k2, k3⟩ := fin h12
      exact w64_w (by simp only [Int.ofNat_eq_natCast]; omega) (by simp only [Int.ofNat_eq_natCast]; omega) (ih _ _ ⟨i + 1, g, L, O, M, Om, by simp, by omega, k1, k2, trn, k3, mtn, ap, mof⟩ (by simp; omega))
  · intro J hJ
    have ldp : ∀ {Hy : AH} {K : List AS → Bool}, Hy.get gs = some (.row (s8C s)) → K (ptC s.p) = true → rowK Hy gs (fun cs => ldG cs 2 2 K) = true := fun k h => rowK_w k (ldG_we (by rw [s8C_len]; decide) (by decide) (s8C_p s) h)
    have ldi : ∀ {Hy : AH} {K : Int → Bool}, Hy.get gs = some (.row (s8C s)) → K s.id = true → rowK Hy gs (fun cs => ldI cs 1 .i64 K) = true := fun k h => rowK_w k (ldI_w (n := s.id) rfl h)
    have kid : ∀ {Hy}, Hy.get gs = some (.row (s8C s)) → kSame ((gs, .row (s8C s)) :: []) Hy = true := fun h => kSame_row h (leafy_s8 s) rfl
    have kid2 : ∀ {Hy}, Hy.get gs = some (.row (s8C s)) → kSame ((gs, .row (s8C s)) :: (gs, .row (s8C s)) :: []) Hy = true := fun h => kSame_row h (leafy_s8 s) (kSame_row h (leafy_s8 s) rfl)
    refine rowK_w qs.get (ldI_w (n := s.w) rfl ?_)
    simp only [iLe_dec, iEq_dec]
    refine ifA_w (fun _ => ?_) (fun _ => rowK_w qs.get (ldI_w (n := s.w) rfl ?_))
    · refine ldi qs.get (ldp qs.get (getK_w qs.get (ldi qs.get (getK_w qs.get (ldp qs.get ?_)))))
      refine hput H3 g L O s.id s.p _ qs.tr hid fun H4 O4 f4 t4 o4 => ?_
      have q4 := qs.op f4 t4 o4
      refine okK_w (kid2 q4.get) (arI_w ?_)
      refine mput H4 gm M Om s.id s.p _ q4.mt (by omega) fun H5 O5 f5 t5 o5 => arI_w ?_
      obtain ⟨m1, m2⟩ := mof.put hnod s.id s.p
      rw [m2]
      exact hJ _ _ ⟨g, _, O4, _, O5, _, rfl, q4.opm f5 t5 o5, m1⟩
    · refine ifA_w (fun _ => ?_) (fun _ => rowK_w qs.get (ldI_w (n := s.w) rfl ?_))
      · refine ldi qs.get (ldp qs.get (getK_w qs.get (ldi qs.get (getK_w qs.get (ldp qs.get ?_)))))
        refine hmove H3 g L O s.id s.p _ qs.tr fun H4 O4 f4 t4 o4 => ?_
        have q4 := qs.op f4 t4 o4
        refine okK_w (kid2 q4.get) (arI_w ?_)
        refine mmove H4 gm M Om s.id s.p _ q4.mt (by omega) fun H5 O5 f5 t5 o5 => arI_w ?_
        obtain ⟨m1, m2⟩ := mof.move s.id s.p
        rw [m2]
        exact hJ _ _ ⟨g, _, O4, _, O5, _, rfl, q4.opm f5 t5 o5, m1⟩
      · refine ifA_w (fun _ => ?_) (fun _ => ?_)
        · refine ldi qs.get (getK_w qs.get (ldi qs.get ?_))
          refine hdrop H3 g L O s.id _ qs.tr fun H4 O4 f4 t4 o4 => ?_
          have q4 := qs.op f4 t4 o4
          refine okK_w (kid q4.get) (arI_w ?_)
          refine mdrop H4 gm M Om s.id _ q4.mt (by omega) mof.up.nod fun H5 O5 f5 t5 o5 => arI_w ?_
          rw [mof.get]
          exact hJ _ _ ⟨g, _, O4, _, O5, _, rfl, q4.opm f5 t5 o5, mof.drop s.id⟩
        · refine hcopy H3 g L O _ qs.tr fun H4 g' L' O' h4 t4 z4 hsm => ?_
          rw [asP_]
          exact hJ _ _ ⟨g', L', O', M, Om, 0, rfl, qs.tab h4 t4 z4, ⟨mof.up, fun i => by rw [hsm, mof.get]⟩⟩
end Go.Proofs
end
section
/- Rows of steps of the quadtree that come in. -/
namespace Go.Proofs
open Go Go.Vw Go.Vw.Ev
set_option linter.unusedVariables false
theorem leaf_b {x : AS} (h : LeafV (.int .i64) x) : ∃ n : Int, x = .int .i64 n ∧ n ≤ 9223372036854775807 := by
  cases x <;> first | exact h.elim | skip
  obtain ⟨rfl, hw⟩ := h
  exact ⟨_, rfl, (bounds_i64 hw).2⟩
theorem sl_s8 : ∀ (n : Nat) (cs : List AS), LeavesV (List.replicate n [Leaf.int .i64, Leaf.int .i64, Leaf.int .i64, Leaf.int .i64, Leaf.int .i64, Leaf.int .i64, Leaf.int .i64, Leaf.int .i64]).flatten cs → ∃ l : List S8, cs = s8sC l ∧ l.length = n ∧ ∀ s ∈ l, s.id ≤ 9223372036854775807
  | 0, [], _ => ⟨[], rfl, rfl, fun _ h => by cases h⟩
  | 0, _ :: _, h => h.elim
  | n + 1, cs, h => by
    rw [List.replicate_succ, List.flatten_cons] at h
    obtain ⟨x0, r0, e0, h0, t0⟩ := leaf_cons h
    obtain ⟨x1, r1, e1, h1, t1⟩ := leaf_cons t0
    obtain ⟨x2, r2, e2, h2, t2⟩ := leaf_cons t1
    obtain ⟨x3, r3, e3, h3, t3⟩ := leaf_cons t2
    obtain ⟨x4, r4, e4, h4, t4⟩ := leaf_cons t3
    obtain ⟨x5, r5, e5, h5, t5⟩ := leaf_cons t4
    obtain ⟨x6, r6, e6, h6, t6⟩ := leaf_cons t5
    obtain ⟨x7, r7, e7, h7, t7⟩ := leaf_cons t6
    obtain ⟨v0, w0, b0⟩ := leaf_b h0
    obtain ⟨v1, w1, b1⟩ := leaf_b h1
    obtain ⟨v2, w2, b2⟩ := leaf_b h2
    obtain ⟨v3, w3, b3⟩ := leaf_b h3
    obtain ⟨v4, w4, b4⟩ := leaf_b h4
    obtain ⟨v5, w5, b5⟩ := leaf_b h5
    obtain ⟨v6, w6, b6⟩ := leaf_b h6
    obtain ⟨v7, w7, b7⟩ := leaf_b h7
    obtain ⟨l, el, hl, hb⟩ := sl_s8 n r7 t7
    refine ⟨⟨v0, v1, ⟨v2, v3⟩, ⟨v4, v5, v6, v7⟩⟩ :: l, ?_, by simp [hl], fun s hs => ?_⟩
    · rw [e0, e1, e2, e3, e4, e5, e6, e7, el, w0, w1, w2, w3, w4, w5, w6, w7]
      rfl
    · rcases List.mem_cons.1 hs with rfl | hs
      · exact b1
      · exact hb s hs
end Go.Proofs
end
