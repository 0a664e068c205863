import Derived.Test.YtmdidmoffcinjaaGreatDX
import Derived.Test.YtmdidmoffcinjaaGreatDT
import Derived.Test.YtmdidmoffcinjaaGreatBR
import Derived.Test.YtmdidmoffcinjaaGreatDCopyT
section
namespace Go.Proofs
open Go Go.Vw Go.Vw.Ev
set_option linter.unusedVariables false
set_option linter.unusedSimpArgs false
theorem flat_len {α : Type} {f : α → List AS} {sz : Nat} (hf : ∀ a, (f a).length = sz) : ∀ l : List α, (l.flatMap f).length = l.length * sz
 | [] => by simp
 | a :: l => by rw [List.flatMap_cons, List.length_append, hf, flat_len hf l, List.length_cons, Nat.add_mul]; omega
theorem flat_at {α : Type} {f : α → List AS} {sz : Nat} (hf : ∀ a, (f a).length = sz) : ∀ (l : List α) (i : Nat) (h : i < l.length), ((l.flatMap f).drop (i * sz)).take sz = f l[i]
 | a :: l, 0, _ => by
  rw [List.flatMap_cons, Nat.zero_mul, List.drop_zero, ← hf a, List.take_left]; rfl
 | a :: l, i + 1, h => by
  have := flat_at hf l i (by simpa using h)
  rw [List.flatMap_cons, show (i + 1) * sz = (f a).length + i * sz by rw [hf, Nat.add_mul]; omega, ← List.drop_drop, List.drop_left, this]
  rfl
theorem flat_cell {α : Type} {f : α → List AS} {sz : Nat} (hf : ∀ a, (f a).length = sz) {l : List α} {i k : Nat} (h : i < l.length) (hk : k < sz) : (l.flatMap f)[i * sz + k]? = (f l[i])[k]? := by
 rw [← flat_at hf l i h, List.getElem?_take_of_lt hk, List.getElem?_drop]
def SR (sz : Nat) (H : AH) (p : AP) (n z : Nat) (cs : List AS) : Prop := cs.length = n * sz ∧ ((n = 0 ∧ p = .nil) ∨ ∃ b, p = .at b 0 ∧ z = sz ∧ H.has b ∧ H.get b = some (.row cs))
theorem SR.nil {sz : Nat} {H : AH} {z : Nat} : SR sz H .nil 0 z [] := ⟨by simp, .inl ⟨rfl, rfl⟩⟩
theorem SR.fr {sz : Nat} {F : Pn → Prop} {H H' : AH} {p : AP} {n z : Nat} {cs : List AS} (h : SR sz H p n z cs) (k : Fr F H H') (hf : ∀ a, ownP p a → ¬ F a) : SR sz H' p n z cs :=
 ⟨h.1, h.2.imp (fun h => h) fun ⟨b, e, hz, hb, gb⟩ => ⟨b, e, hz, k.has b hb, (k.get b hb (hf b ⟨0, e⟩)).trans gb⟩⟩
theorem SR.le {sz : Nat} {H H' : AH} {p : AP} {n z : Nat} {cs : List AS} (h : SR sz H p n z cs) (k : Le H H') : SR sz H' p n z cs := h.fr (k.fr fun _ => False) fun _ _ h => h
theorem SR.has {sz : Nat} {H : AH} {p : AP} {n z : Nat} {cs : List AS} (h : SR sz H p n z cs) (a : Pn) (ha : ownP p a) : H.has a := by
 obtain ⟨o, rfl⟩ := ha
 rcases h.2 with ⟨_, e⟩ | ⟨b, e, _, hb, _⟩
 ·cases e
 ·cases e; exact hb
theorem SR.at {sz : Nat} {H : AH} {p : AP} {n z : Nat} {cs : List AS} (h : SR sz H p n z cs) (hn : 0 < n) : ∃ b, p = .at b 0 ∧ H.has b ∧ H.get b = some (.row cs) := by
 rcases h.2 with ⟨h0, _⟩ | ⟨b, e, _, hb, gb⟩
 ·omega
 ·exact ⟨b, e, hb, gb⟩
theorem Sl.sr {H0 H : AH} {p : AP} {n z sz : Nat} {cs : List AS} (h : Sl H0 H p n z cs sz) : SR sz H p n z cs := ⟨h.len, h.rep.imp (fun h => h) fun ⟨g, h1, h2, h3, h4, _⟩ => ⟨g, h1, h2, h4, h3⟩⟩
theorem appS_w {sz bytes : Nat} {H : AH} {p : AP} {n z m : Nat} {cs ys : List AS} {c : ACap} {K : AP → Nat → ACap → Nat → AH → Bool} (h : SR sz H p n z cs) (hy : ys.length = m * sz) (hpos : 0 < m) (hb : (n + m) * bytes ≤ 140737488355328) (hb2 : n + m ≤ 140737488355328)
  (hk : ∀ g' H', ¬ H.has g' → Fr (ownP p) H H' → SR sz H' (.at g' 0) (n + m) sz (cs ++ ys) → K (.at g' 0) (n + m) (.of g' 0) sz H' = true) : appA H p n z sz bytes ys m c K = true := by
 rw [appA_eq0]
 unfold appA0
 refine fN_w (okK_w (by rw [Nat.ble_eq_true_of_le hb, Nat.ble_eq_true_of_le hb2]; rfl) ?_)
 have hm0 : Nat.beq m 0 = false := by
  cases h : Nat.beq m 0
  ·rfl
  ·have := Nat.eq_of_beq_eq_true h; omega
 rw [hm0]
 dsimp only
 have hl : (cs ++ ys).length = (n + m) * sz := by rw [List.length_append, h.1, hy, Nat.add_mul]
 rcases h.2 with ⟨rfl, rfl⟩ | ⟨b, rfl, rfl, hh, hg⟩
 ·have h0 : cs = [] := List.length_eq_zero_iff.1 (by rw [h.1]; simp)
  subst h0
  refine newK_w (hk _ _ (not_has_nx H) ((Le.new H _).fr _) ⟨hl, .inr ⟨_, rfl, rfl, has_new_self _ _, ?_⟩⟩)
  rw [get_new]; rfl
 ·dsimp only
  refine okK_w (Nat.beq_refl _) ?_
  rw [rowW_row hg]
  refine ldN_w (ys := cs) (by rw [h.1]; omega) (by rw [List.drop_zero, ← h.1, List.take_length]) (fL_w ?_)
  rw [ap_eq, wrK_none]
  refine newK_w (hk _ _ (fun hx => not_has_nx (H.del b) (has_del hx)) ⟨fun a ha => has_new (has_del ha), fun a ha hn => ?_⟩ ⟨hl, .inr ⟨_, rfl, rfl, has_new_self _ _, get_new _ _⟩⟩)
  exact (get_new_has (has_del ha)).trans (get_del_ne fun e => hn ⟨0, by rw [e]⟩)
def hdC (h : Int × Int) : List AS := [.int .i64 h.1, .int .i64 h.2]
def hdsC (l : List (Int × Int)) : List AS := l.flatMap hdC
theorem hdC_len (h : Int × Int) : (hdC h).length = 2 := rfl
def PredH (cl : Cl) (v : AV) (P : Int × Int → Bool) (H : AH) : Prop := ∀ h H' K, Le H H' → (∀ H'', Le H' H'' → K (.s (.bool (P h))) H'' = true) → callV PG cl none v [.agg (hdC h)] H' K = true
def CIndexH (PR : AV → (Int × Int → Bool) → AH → Prop) (cl : Cl) : Prop := ∀ H p n c z hs v P K, SR 2 H p n z (hdsC hs) → n < 10000 → PR v P H →
 (∀ H' (r : Int), Le H H' → (0 ≤ r ↔ hs.any P = true) → K (.s (.int .i64 r)) H' = true) → cl i_slices_IndexFunc_Hand [.s (.slice p n c z), v] H K = true
theorem hds_n {sz : Nat} {α : Type} {f : α → List AS} (hf : ∀ a, (f a).length = sz) (hsz : 0 < sz) {H : AH} {p : AP} {n z : Nat} {l : List α} (h : SR sz H p n z (l.flatMap f)) : l.length = n := by
 have := h.1
 rw [flat_len hf] at this
 exact Nat.eq_of_mul_eq_mul_right hsz this
theorem B_slices_IndexFunc_Hand_ {lf : Nat} {cl : Cl} (hlf : 100000 ≤ lf) {H : AH} {p : AP} {n z : Nat} {c : ACap} {hs : List (Int × Int)} {v : AV} {P : Int × Int → Bool} {K : AV → AH → Bool} (sr : SR 2 H p n z (hdsC hs)) (hn : n < 10000) (hp : PredH cl v P H)
  (hk : ∀ H' (r : Int), Le H H' → (0 ≤ r ↔ hs.any P = true) → K (.s (.int .i64 r)) H' = true) : B_slices_IndexFunc_Hand lf cl p n c z v H K = true := by
 unfold B_slices_IndexFunc_Hand
 have hl := hds_n hdC_len (by decide) sr
 refine loopX_w (fun x Hx => Le H Hx ∧ ∃ i : Nat, x = ((p, n, c, z), v, (n : Int), (i : Int)) ∧ i ≤ n ∧ (hs.take i).any P = false) (fun x => n - x.2.2.2.toNat) ⟨Le.refl _, 0, rfl, by omega, rfl⟩ (by simp; omega) ?_
 rintro self x Hx ⟨hL, i, rfl, hi, hno⟩ ih
 simp only [pR_, fB_eq, iLt_dec]
 refine ifA_w (fun hx => ?_) (fun hx => ?_)
 ·have hx : i < n := by have := of_decide_eq_true hx; omega
  have hxl : i < hs.length := by omega
  obtain ⟨b, rfl, hb, gb⟩ := sr.at (by omega)
  simp only [nilK_at, fN_eq, Nat.add_eq, Nat.mul_eq, Nat.zero_add]
  refine idxK_w (by omega) (by omega) ?_
  rw [Int.toNat_natCast]
  have hln := sr.1
  refine rowK_w ((hL.get _ hb).trans gb) (ldG_we (ys := hdC (hs[i]'hxl)) (by omega) (by decide) (flat_at hdC_len hs i hxl) ?_)
  refine hp _ _ _ hL fun H2 h2 => ?_
  show asB (.s (.bool _)) _ = true
  have tk : (hs.take (i + 1)).any P = ((hs.take i).any P || P hs[i]) := by rw [List.take_succ_eq_append_getElem hxl, List.any_append]; simp
  refine (show ifA (P (hs[i]'hxl)) _ _ = true from ifA_w (fun hb' => ?_) (fun hb' => ?_))
  ·exact hk _ _ (hL.trans h2) ⟨fun _ => List.any_eq_true.2 ⟨_, List.getElem_mem hxl, hb'⟩, fun _ => by omega⟩
  ·rw [iAdd_]
   exact w64_w (by simp only [Int.ofNat_eq_natCast]; omega) (by simp only [Int.ofNat_eq_natCast]; omega) (ih _ _ ⟨hL.trans h2, i + 1, by simp, by omega, by rw [tk, hno, hb']; rfl⟩ (by simp; omega))
 ·have hx : i = n := by have := of_decide_eq_false hx; omega
  rw [hx, ← hl, List.take_length] at hno
  exact hk _ _ hL ⟨fun h => absurd h (by decide), fun h => by rw [hno] at h; cases h⟩
def CContH (PR : AV → (Int × Int → Bool) → AH → Prop) (cl : Cl) : Prop := ∀ H p n c z hs v P K, SR 2 H p n z (hdsC hs) → n < 10000 → PR v P H →
 (∀ H', Le H H' → K (.s (.bool (hs.any P))) H' = true) → cl i_slices_ContainsFunc_Hand [.s (.slice p n c z), v] H K = true
theorem B_slices_ContainsFunc_Hand_ {lf : Nat} {cl : Cl} {PR : AV → (Int × Int → Bool) → AH → Prop} (hix : CIndexH PR cl) {H : AH} {p : AP} {n z : Nat} {c : ACap} {hs : List (Int × Int)} {v : AV} {P : Int × Int → Bool} {K : AV → AH → Bool} (sr : SR 2 H p n z (hdsC hs)) (hn : n < 10000) (hp : PR v P H)
  (hk : ∀ H', Le H H' → K (.s (.bool (hs.any P))) H' = true) : B_slices_ContainsFunc_Hand lf cl p n c z v H K = true := by
 unfold B_slices_ContainsFunc_Hand
 refine hix _ _ _ _ _ _ _ _ _ sr hn hp fun H' r hL hr => arI_w ?_
 rw [fB_eq, iLe_dec]
 have e : decide (Int.ofNat 0 ≤ r) = hs.any P := by
  rw [Bool.eq_iff_iff, decide_eq_true_eq]
  exact hr
 rw [e]
 exact hk _ hL
def CHanded1 (cl : Cl) : Prop := ∀ h g k H K, H.has g → H.get g = some (.row [.int .i64 k]) → (∀ H', Le H H' → K (.s (.bool (decide (h.1 = k)))) H' = true) → cl i_region_handed_1 [.agg (hdC h), .s (.ptr (.at g 0))] H K = true
theorem B_region_handed_1_ {lf : Nat} {cl : Cl} {h : Int × Int} {g : Pn} {k : Int} {H : AH} {K : AV → AH → Bool} (hh : H.has g) (hg : H.get g = some (.row [.int .i64 k])) (hk : ∀ H', Le H H' → K (.s (.bool (decide (h.1 = k)))) H' = true) :
  B_region_handed_1 lf cl (hdC h) (.at g 0) H K = true := by
 unfold B_region_handed_1
 refine new_w fun g1 H1 h1 hg1 ng1 gg1 => ?_
 refine rowK_w gg1 (ldI_w (n := h.1) rfl ?_)
 simp only [nilK_at]
 refine rowK_w ((h1.get _ hh).trans hg) (ldI_w (n := k) rfl ?_)
 rw [fB_eq, iEq_dec]
 exact hk _ h1
def isH (v : AV) (P : Int × Int → Bool) (H : AH) : Prop := ∃ g k, v = .s (.func i_region_handed_1 [] [.ptr (.at g 0)]) ∧ H.has g ∧ H.get g = some (.row [.int .i64 k]) ∧ P = fun h => decide (h.1 = k)
def BoolF (f : Nat) : Prop := ∃ t, callable PG f = some [t] ∧ PG.underlying t = some .bool
theorem isH_pred {cl : Cl} (hc : BoolF i_region_handed_1) (h1 : CHanded1 cl) {v : AV} {P : Int × Int → Bool} {H : AH} (h : isH v P H) : PredH cl v P H := by
 obtain ⟨g, k, rfl, hh, hg, rfl⟩ := h
 obtain ⟨t, c1, c2⟩ := hc
 intro h H' K hL hk
 refine callV_bool c1 c2 ?_
 exact h1 h g k H' _ (hL.has _ hh) ((hL.get _ hh).trans hg) fun H2 h2 => arB_w (hk _ h2)
def handB (hs : List (Int × Int)) (k : Int) : Bool := hs.any fun h => decide (h.1 = k)
def CHanded (cl : Cl) : Prop := ∀ H p n c z hs k K, SR 2 H p n z (hdsC hs) → n < 10000 → (∀ H', Le H H' → K (.s (.bool (handB hs k))) H' = true) → cl i_region_handed [.s (.slice p n c z), .s (.int .i64 k)] H K = true
theorem B_region_handed_ {lf : Nat} {cl : Cl} (hct : CContH isH cl) {H : AH} {p : AP} {n z : Nat} {c : ACap} {hs : List (Int × Int)} {k : Int} {K : AV → AH → Bool} (sr : SR 2 H p n z (hdsC hs)) (hn : n < 10000) (hk : ∀ H', Le H H' → K (.s (.bool (handB hs k))) H' = true) :
  B_region_handed lf cl p n c z k H K = true := by
 unfold B_region_handed
 refine new_w fun g H1 h1 hg ng gg => ?_
 exact hct _ _ _ _ _ _ _ _ _ (sr.le h1) hn ⟨g, k, rfl, hg, gg, rfl⟩ fun H2 h2 => arB_w (hk _ (h1.trans h2))
structure OM (H : AH) (g : Pn) (n : Int) (l : List (Int × Int)) : Prop where
 has : H.has g
 get : H.get g = some (.row (.int .i64 n :: hdsC l))
 len : l.length = 16
theorem OM.fr {F : Pn → Prop} {H H' : AH} {g : Pn} {n : Int} {l : List (Int × Int)} (h : OM H g n l) (k : Fr F H H') (hf : ¬ F g) : OM H' g n l := ⟨k.has g h.has, (k.get g h.has hf).trans h.get, h.len⟩
theorem OM.le {H H' : AH} {g : Pn} {n : Int} {l : List (Int × Int)} (h : OM H g n l) (k : Le H H') : OM H' g n l := h.fr (k.fr fun _ => False) fun h => h
def owAt (l : List (Int × Int)) (c : Int) : Int × Int := if isC c = true then l.getD c.toNat (0, 0) else (0, 0)
theorem isC_iff {c : Int} : isC c = true ↔ 0 ≤ c ∧ c < 16 := by unfold isC; rw [Bool.and_eq_true, decide_eq_true_eq, decide_eq_true_eq]
theorem ow_cell {H : AH} {g : Pn} {n : Int} {l : List (Int × Int)} (h : OM H g n l) {c : Int} (hc : isC c = true) : ((AS.int .i64 n :: hdsC l).drop (0 + 1 + c.toNat * 2)).take 2 = hdC (owAt l c) ∧ 0 + 1 + c.toNat * 2 + 2 ≤ (AS.int .i64 n :: hdsC l).length := by
 have hb := isC_iff.1 hc
 have hl := h.len
 have hi : c.toNat < l.length := by omega
 refine ⟨?_, by rw [List.length_cons, hdsC, flat_len hdC_len]; omega⟩
 unfold owAt
 rw [if_pos hc, show 0 + 1 + c.toNat * 2 = c.toNat * 2 + 1 by omega, List.drop_succ_cons, hdsC, flat_at hdC_len l _ hi]
 simp [hi]
def COwOf (cl : Cl) : Prop := ∀ H g n l c K, OM H g n l → (∀ H', Le H H' → K (.tup [.agg (hdC (owAt l c)), .s (.bool (isC c))]) H' = true) → cl i_owner_Map_Of [.s (.ptr (.at g 0)), .s (.int .i64 c)] H K = true
theorem B_owner_Map_Of_ {lf : Nat} {cl : Cl} (his : CIsC cl) {H : AH} {g : Pn} {n : Int} {l : List (Int × Int)} {c : Int} {K : AV → AH → Bool} (om : OM H g n l) (hk : ∀ H', Le H H' → K (.tup [.agg (hdC (owAt l c)), .s (.bool (isC c))]) H' = true) :
  B_owner_Map_Of lf cl (.at g 0) c H K = true := by
 unfold B_owner_Map_Of
 refine newK_w ?_
 have h1 := Le.new H (.row [.int .i64 (Int.ofNat 0), .int .i64 (Int.ofNat 0)])
 have g1 := get_new H (.row [.int .i64 (Int.ofNat 0), .int .i64 (Int.ofNat 0)])
 have n1 := not_has_nx H
 generalize H.new (.row [.int .i64 (Int.ofNat 0), .int .i64 (Int.ofNat 0)]) = H1 at *
 generalize H.nx = gn at *
 refine his _ _ _ (arB_w ?_)
 rw [fB_eq]
 refine ifA_w (fun hx => ?_) (fun hx => ?_)
 ·have hc : isC c = false := by simpa using hx
  have e : owAt l c = (0, 0) := by unfold owAt; rw [hc]; rfl
  refine stoN_we (ds := hdC (0, 0)) g1 rfl (by simp) rfl (rowK_w (get_put _ _ _) (ldG_we (ys := hdC (0, 0)) (Nat.le_refl 2) (by decide) rfl ?_))
  have := hk _ (h1.put n1 (.row (hdC (0, 0))))
  rw [e, hc] at this
  exact this
 ·have hc : isC c = true := by simpa using hx
  have hb := isC_iff.1 hc
  obtain ⟨e1, e2⟩ := ow_cell om hc
  simp only [nilK_at, fN_eq, Nat.add_eq, Nat.mul_eq]
  refine idxK_w (by omega) (by omega) (rowK_w ((h1.get _ om.has).trans om.get) (ldG_we (ys := hdC (owAt l c)) e2 (by decide) e1 ?_))
  refine stoN_we (ds := hdC (owAt l c)) g1 rfl (by simp) (by simp [hdC]) (rowK_w (get_put _ _ _) (ldG_we (ys := hdC (owAt l c)) (Nat.le_refl 2) (by decide) rfl ?_))
  have := hk _ (h1.put n1 (.row (hdC (owAt l c))))
  rw [hc] at this
  exact this
def clamp4 (n : Int) : Int := min (max n 1) 4
def owInit (n : Int) : List (Int × Int) := (List.range 16).map fun c : Nat => (Int.tmod (c : Int) n, (0 : Int))
def COwNew (cl : Cl) : Prop := ∀ n H K, (∀ H' g, Le H H' → OM H' g (clamp4 n) (owInit (clamp4 n)) → ¬ H.has g → K (.s (.ptr (.at g 0))) H' = true) → cl i_owner_New [.s (.int .i64 n)] H K = true
theorem hds_set {A B : List (Int × Int)} {a b v n : Int} {i : Nat} (h : A.length = i) : (AS.int .i64 n :: hdsC (A ++ (a, b) :: B)).set (0 + 1 + i * 2 + 0) (.int .i64 v) = .int .i64 n :: hdsC (A ++ (v, b) :: B) := by
 have e : (hdsC A).length = i * 2 := by rw [hdsC, flat_len hdC_len, h]
 have ea : ∀ X : List (Int × Int), hdsC (A ++ X) = hdsC A ++ hdsC X := fun X => List.flatMap_append
 rw [show 0 + 1 + i * 2 + 0 = (i * 2) + 1 by omega, List.set_cons_succ, ea, ea, List.set_append_right _ _ (by omega), e, Nat.sub_self]
 rfl
theorem B_owner_New_ {lf : Nat} {cl : Cl} (hlf : 1000 ≤ lf) {n : Int} {H : AH} {K : AV → AH → Bool} (hk : ∀ H' g, Le H H' → OM H' g (clamp4 n) (owInit (clamp4 n)) → ¬ H.has g → K (.s (.ptr (.at g 0))) H' = true) : B_owner_New lf cl n H K = true := by
 unfold B_owner_New
 rw [mxA_, fI_eq, mnA_, fI_eq]
 show newK H (.row (.int .i64 (clamp4 n) :: hdsC (List.replicate 16 (0, 0)))) _ = true
 have hc : 1 ≤ clamp4 n ∧ clamp4 n ≤ 4 := by unfold clamp4; omega
 generalize clamp4 n = m at *
 refine new_w fun g H1 h1 hg ng gg => ?_
 refine loopX_w (fun x Hx => ∃ i : Nat, x = (.at g 0, (i : Int)) ∧ i ≤ 16 ∧ Le H Hx ∧ Hx.has g ∧ Hx.get g = some (.row (.int .i64 m :: hdsC (((List.range i).map fun c : Nat => (Int.tmod (c : Int) m, (0 : Int))) ++ List.replicate (16 - i) (0, 0))))) (fun x => 16 - x.2.toNat)
  ⟨0, rfl, by omega, h1, hg, by simpa using gg⟩ (by simp; omega) ?_
 rintro self x Hx ⟨i, rfl, hi, hL, hgx, ggx⟩ ih
 simp only [pR_, fB_eq, iLt_dec, nilK_at, fN_eq, Nat.add_eq, Nat.mul_eq]
 refine ifA_w (fun hx => ?_) (fun hx => ?_)
 ·have hx : i < 16 := by have := of_decide_eq_true hx; simp only [Int.ofNat_eq_natCast] at this; omega
  refine rowK_w ggx (ldI_w (n := m) rfl ?_)
  refine okK_w (by rw [iEq_dec, decide_eq_false (show ¬ m = Int.ofNat 0 by simp only [Int.ofNat_eq_natCast]; omega)]; rfl) ?_
  rw [fI_eq]
  refine idxK_w (by omega) (by omega) ?_
  rw [Int.toNat_natCast]
  have e1 : List.replicate (16 - i) ((0 : Int), (0 : Int)) = (0, 0) :: List.replicate (16 - (i + 1)) (0, 0) := by rw [show 16 - i = (16 - (i + 1)) + 1 by omega, List.replicate_succ]
  have el : ((List.range i).map fun c : Nat => (Int.tmod (c : Int) m, (0 : Int))).length = i := by simp
  rw [e1] at ggx
  refine sto1_w ggx (by rw [List.length_cons, hdsC, flat_len hdC_len]; simp; omega) ?_
  rw [hds_set el, iAdd_]
  refine w64_w (by simp only [Int.ofNat_eq_natCast]; omega) (by simp only [Int.ofNat_eq_natCast]; omega) (ih _ _ ⟨i + 1, by simp, by omega, hL.put ng _, hgx, ?_⟩ (by simp; omega))
  rw [get_put, List.range_succ, List.map_append, List.append_assoc]
  rfl
 ·have hx : i = 16 := by have := of_decide_eq_false hx; simp only [Int.ofNat_eq_natCast] at this; omega
  subst hx
  refine hk _ _ hL ⟨hgx, ?_, by simp [owInit]⟩ ng
  rw [ggx]
  simp [owInit]
def numE (id given : Int) : Int := 4 * min (max given 0) 200000 + min (max id 0) 3
def CNumber (cl : Cl) : Prop := ∀ id given H K, K (.s (.int .i64 (numE id given))) H = true → cl i_thing_Number [.s (.int .i64 id), .s (.int .i64 given)] H K = true
theorem B_thing_Number_ {lf : Nat} {cl : Cl} {id given : Int} {H : AH} {K : AV → AH → Bool} (hk : K (.s (.int .i64 (numE id given))) H = true) : B_thing_Number lf cl id given H K = true := by
 unfold B_thing_Number
 simp only [mxA_, mnA_, fI_eq, iMul_, iAdd_, Int.ofNat_eq_natCast]
 refine w64_w (by omega) (by omega) (w64_w (by omega) (by omega) ?_)
 exact hk
def watB (c : Cm) : Bool := decide (6 ≤ c.kind) && decide (c.kind ≤ 8)
def CWat (cl : Cl) : Prop := ∀ c H K, (∀ H', Le H H' → K (.s (.bool (watB c))) H' = true) → cl i_cmd_Watches [.agg (cmC c)] H K = true
theorem B_cmd_Watches_ {lf : Nat} {cl : Cl} {c : Cm} {H : AH} {K : AV → AH → Bool} (hk : ∀ H', Le H H' → K (.s (.bool (watB c))) H' = true) : B_cmd_Watches lf cl (cmC c) H K = true := by
 unfold B_cmd_Watches
 refine new_w fun g H1 h1 hg ng gg => ?_
 refine rowK_w gg (ldI_w (n := c.kind) rfl ?_)
 have := hk H1 h1
 unfold watB at this
 simp only [fB_eq, iLe_dec, Int.ofNat_eq_natCast]
 refine ifA_w (fun hx => ?_) (fun hx => ?_)
 ·refine rowK_w gg (ldI_w (n := c.kind) rfl ?_)
  rw [show decide (6 ≤ c.kind) = true from hx, Bool.true_and] at this
  exact this
 ·rw [show decide (6 ≤ c.kind) = false from hx, Bool.false_and] at this
  exact this
structure Wt where
 on : Bool
 ses : Int
 start : Int
 r : Rc
def wtC (w : Wt) : List AS := [.bool w.on, .int .i64 w.ses, .int .i64 w.start, .int .i64 w.r.x0, .int .i64 w.r.y0, .int .i64 w.r.x1, .int .i64 w.r.y1]
def wtsC (l : List Wt) : List AS := l.flatMap wtC
theorem wtC_len (w : Wt) : (wtC w).length = 7 := rfl
def wt0 : Wt := ⟨false, 0, 0, ⟨0, 0, 0, 0⟩⟩
structure BK (H : AH) (g : Pn) (l : List Wt) : Prop where
 has : H.has g
 get : H.get g = some (.row (wtsC l))
 len : l.length = 4
theorem BK.fr {F : Pn → Prop} {H H' : AH} {g : Pn} {l : List Wt} (h : BK H g l) (k : Fr F H H') (hf : ¬ F g) : BK H' g l := ⟨k.has g h.has, (k.get g h.has hf).trans h.get, h.len⟩
def CBkNew (cl : Cl) : Prop := ∀ H K, (∀ H' g, Le H H' → BK H' g (List.replicate 4 wt0) → ¬ H.has g → K (.s (.ptr (.at g 0))) H' = true) → cl i_watch_New [] H K = true
theorem B_watch_New_ {lf : Nat} {cl : Cl} {H : AH} {K : AV → AH → Bool} (hk : ∀ H' g, Le H H' → BK H' g (List.replicate 4 wt0) → ¬ H.has g → K (.s (.ptr (.at g 0))) H' = true) : B_watch_New lf cl H K = true := by
 unfold B_watch_New
 exact new_w fun g H1 h1 hg ng gg => hk _ _ h1 ⟨hg, gg, rfl⟩ ng
end Go.Proofs
end
section
namespace Go.Proofs
open Go Go.Vw Go.Vw.Ev
set_option linter.unusedVariables false
set_option linter.unusedSimpArgs false
def c48 (f : Nat → AS) : List AS := (List.range 48).map f
def updA {α : Type} (f : Nat → α) (k : Nat) (x : α) : Nat → α := fun i => if i = k then x else f i
theorem updA_same {α : Type} (f : Nat → α) (k : Nat) (x : α) : updA f k x k = x := by simp [updA]
theorem updA_ne {α : Type} (f : Nat → α) {k i : Nat} (x : α) (h : i ≠ k) : updA f k x i = f i := by simp [updA, h]
theorem c48_len (f : Nat → AS) : (c48 f).length = 48 := by simp [c48]
theorem c48_get (f : Nat → AS) {i : Nat} (h : i < 48) : (c48 f)[i]? = some (f i) := by simp [c48, h]
theorem c48_set (f : Nat → AS) (k : Nat) (u : AS) : (c48 f).set k u = c48 (updA f k u) := by
 refine List.ext_getElem? fun i => ?_
 rw [List.getElem?_set]
 by_cases hi : i < 48
 ·rw [c48_get _ hi, c48_get _ hi, c48_len]
  by_cases e : k = i
  ·subst e; rw [if_pos rfl, if_pos hi, updA_same]
  ·rw [if_neg e, updA_ne _ _ (fun h => e h.symm)]
 ·have h1 : ∀ g : Nat → AS, (c48 g)[i]? = none := fun g => List.getElem?_eq_none (by rw [c48_len]; omega)
  rw [h1, h1, c48_len]
  by_cases e : k = i
  ·subst e; rw [if_pos rfl, if_neg hi]
  ·rw [if_neg e]
structure Tkn where
 beat : Int
 srv : Int
 id : Int
 c : Cm
def tkC (t : Tkn) : List AS := .int .i64 t.beat :: .int .i64 t.srv :: .int .i64 t.id :: cmC t.c
theorem tkC_len (t : Tkn) : (tkC t).length = 25 := rfl
theorem thC_len' (t : Th) : (thC t).length = 11 := rfl
structure Nt where
 src : Int
 beat : Int
 moved : List Th
 hands : List (Int × Int)
 given : List Th
 watch : List Cm
structure RgSt where
 id : Int
 n : Int
 beat : Int
 given : Int
 took : Int
 th : List (Int × Th)
 ow : List (Int × Int)
 wat : List Wt
 was : List Th
 watch : List Cm
 hands : List (Int × Int)
 order : List Tkn
 last : Nt
def SF {α : Type} (sz : Nat) (fc : α → List AS) (H : AH) (x : AS) (l : List α) : Prop := ∃ p c z, x = .slice p l.length c z ∧ CapOk c l.length ∧ SR sz H p l.length z (l.flatMap fc)
def ownA (x : AS) (a : Pn) : Prop := match x with
 | .slice p _ _ _ => ownP p a
 | _ => False
theorem SF.fr {α : Type} {sz : Nat} {fc : α → List AS} {F : Pn → Prop} {H H' : AH} {x : AS} {l : List α} (h : SF sz fc H x l) (k : Fr F H H') (hf : ∀ a, ownA x a → ¬ F a) : SF sz fc H' x l := by
 obtain ⟨p, c, z, rfl, hc, sr⟩ := h
 exact ⟨p, c, z, rfl, hc, sr.fr k hf⟩
theorem SF.nil {α : Type} {sz : Nat} {fc : α → List AS} {H : AH} {z : Nat} : SF sz fc H (.slice .nil 0 (.lit 0) z) ([] : List α) := ⟨.nil, .lit 0, z, rfl, Nat.le_refl 0, SR.nil⟩
def SW {α : Type} (sz : Nat) (fc : α → List AS) (H : AH) (x : AS) (l : List α) : Prop := ∃ p c z, x = .slice p l.length c z ∧ SR sz H p l.length z (l.flatMap fc)
theorem SW.fr {α : Type} {sz : Nat} {fc : α → List AS} {F : Pn → Prop} {H H' : AH} {x : AS} {l : List α} (h : SW sz fc H x l) (k : Fr F H H') (hf : ∀ a, ownA x a → ¬ F a) : SW sz fc H' x l := by
 obtain ⟨p, c, z, rfl, sr⟩ := h
 exact ⟨p, c, z, rfl, sr.fr k hf⟩
theorem SW.nil {α : Type} {sz : Nat} {fc : α → List AS} {H : AH} {z : Nat} : SW sz fc H (.slice .nil 0 (.lit 0) z) ([] : List α) := ⟨.nil, .lit 0, z, rfl, SR.nil⟩
structure RB (H : AH) (s : RgSt) (f : Nat → AS) (Q : Nat → Pn → Prop) : Prop where
 i0 : f 0 = .int .i64 s.id
 i1 : f 1 = .int .i64 s.n
 i2 : f 2 = .int .i64 s.beat
 i34 : f 34 = .int .i64 s.given
 i37 : f 37 = .int .i64 s.took
 i39 : f 39 = .int .i64 s.last.src
 i40 : f 40 = .int .i64 s.last.beat
 s4 : SW 11 thC H (f 4) s.was
 s35 : SF 22 cmC H (f 35) s.watch
 s36 : SF 2 hdC H (f 36) s.hands
 s38 : SF 25 tkC H (f 38) s.order
 s41 : SF 11 thC H (f 41) s.last.moved
 s42 : SF 2 hdC H (f 42) s.last.hands
 s43 : SF 11 thC H (f 43) s.last.given
 s44 : SF 22 cmC H (f 44) s.last.watch
 tab : ∃ gt, f 45 = .ptr (.at gt 0) ∧ TT H gt s.th (Q 45)
 own : ∃ go, f 46 = .ptr (.at go 0) ∧ OM H go s.n s.ow ∧ ∀ a, Q 46 a ↔ a = go
 book : ∃ gb, f 47 = .ptr (.at gb 0) ∧ BK H gb s.wat ∧ ∀ a, Q 47 a ↔ a = gb
 q4 : ∀ a, Q 4 a ↔ ownA (f 4) a
 q35 : ∀ a, Q 35 a ↔ ownA (f 35) a
 q36 : ∀ a, Q 36 a ↔ ownA (f 36) a
 q38 : ∀ a, Q 38 a ↔ ownA (f 38) a
 q41 : ∀ a, Q 41 a ↔ ownA (f 41) a
 q42 : ∀ a, Q 42 a ↔ ownA (f 42) a
 q43 : ∀ a, Q 43 a ↔ ownA (f 43) a
 q44 : ∀ a, Q 44 a ↔ ownA (f 44) a
 dis : ∀ i j a, Q i a → Q j a → i = j
 qh : ∀ i a, Q i a → H.has a
 pl : (c48 f).all plain = true
theorem pl_upd {f : Nat → AS} {k : Nat} {u : AS} (h : (c48 f).all plain = true) (hu : plain u = true) : (c48 (updA f k u)).all plain = true := by rw [← c48_set]; exact set_plain h hu k
theorem RB.fr {F : Pn → Prop} {H H' : AH} {s : RgSt} {f : Nat → AS} {Q : Nat → Pn → Prop} (r : RB H s f Q) (k : Fr F H H') (hf : ∀ i a, i ≠ 0 → Q i a → ¬ F a) : RB H' s f Q :=
 {r with
  s4 := r.s4.fr k fun a h => hf 4 a (by decide) ((r.q4 a).2 h)
  s35 := r.s35.fr k fun a h => hf 35 a (by decide) ((r.q35 a).2 h)
  s36 := r.s36.fr k fun a h => hf 36 a (by decide) ((r.q36 a).2 h)
  s38 := r.s38.fr k fun a h => hf 38 a (by decide) ((r.q38 a).2 h)
  s41 := r.s41.fr k fun a h => hf 41 a (by decide) ((r.q41 a).2 h)
  s42 := r.s42.fr k fun a h => hf 42 a (by decide) ((r.q42 a).2 h)
  s43 := r.s43.fr k fun a h => hf 43 a (by decide) ((r.q43 a).2 h)
  s44 := r.s44.fr k fun a h => hf 44 a (by decide) ((r.q44 a).2 h)
  tab := r.tab.imp fun gt h => ⟨h.1, h.2.fr k fun a ha => hf 45 a (by decide) ha⟩
  own := r.own.imp fun go h => ⟨h.1, h.2.1.fr k (hf 46 go (by decide) ((h.2.2 go).2 rfl)), h.2.2⟩
  book := r.book.imp fun gb h => ⟨h.1, h.2.1.fr k (hf 47 gb (by decide) ((h.2.2 gb).2 rfl)), h.2.2⟩
  qh := fun i a h => k.has a (r.qh i a h) }
theorem dis_upd {H : AH} {Q : Nat → Pn → Prop} {k : Nat} {X : Pn → Prop} (hd : ∀ i j a, Q i a → Q j a → i = j) (hh : ∀ i a, Q i a → H.has a) (hx : ∀ a, X a → Q k a ∨ ¬ H.has a) : ∀ i j a, updA Q k X i a → updA Q k X j a → i = j := by
 intro i j a h1 h2
 by_cases ei : i = k
 ·by_cases ej : j = k
  ·rw [ei, ej]
  ·subst ei
   rw [updA_same] at h1
   rw [updA_ne _ _ ej] at h2
   exact (hx a h1).elim (fun h => hd _ _ a h h2) fun h => absurd (hh j a h2) h
 ·rw [updA_ne _ _ ei] at h1
  by_cases ej : j = k
  ·subst ej
   rw [updA_same] at h2
   exact (hx a h2).elim (fun h => hd _ _ a h1 h) fun h => absurd (hh i a h1) h
  ·rw [updA_ne _ _ ej] at h2
   exact hd i j a h1 h2
theorem RB.tabOp {H H' : AH} {s : RgSt} {f : Nat → AS} {Q : Nat → Pn → Prop} {gt : Pn} {L' : List (Int × Th)} {O' : Pn → Prop} (r : RB H s f Q) (e : f 45 = .ptr (.at gt 0)) (k : Fr (Q 45) H H') (t : TT H' gt L' O') (o : ∀ a, O' a → Q 45 a ∨ ¬ H.has a) :
  RB H' { s with th := L' } f (updA Q 45 O') :=
 have hne : ∀ i a, i ≠ 45 → Q i a → ¬ Q 45 a := fun i a hi h h' => hi (r.dis i 45 a h h')
 {i0 := r.i0, i1 := r.i1, i2 := r.i2, i34 := r.i34, i37 := r.i37, i39 := r.i39, i40 := r.i40
  s4 := r.s4.fr k fun a h => hne 4 a (by decide) ((r.q4 a).2 h)
  s35 := r.s35.fr k fun a h => hne 35 a (by decide) ((r.q35 a).2 h)
  s36 := r.s36.fr k fun a h => hne 36 a (by decide) ((r.q36 a).2 h)
  s38 := r.s38.fr k fun a h => hne 38 a (by decide) ((r.q38 a).2 h)
  s41 := r.s41.fr k fun a h => hne 41 a (by decide) ((r.q41 a).2 h)
  s42 := r.s42.fr k fun a h => hne 42 a (by decide) ((r.q42 a).2 h)
  s43 := r.s43.fr k fun a h => hne 43 a (by decide) ((r.q43 a).2 h)
  s44 := r.s44.fr k fun a h => hne 44 a (by decide) ((r.q44 a).2 h)
  tab := ⟨gt, e, t⟩
  own := r.own.imp fun go h => ⟨h.1, h.2.1.fr k (hne 46 go (by decide) ((h.2.2 go).2 rfl)), h.2.2⟩
  book := r.book.imp fun gb h => ⟨h.1, h.2.1.fr k (hne 47 gb (by decide) ((h.2.2 gb).2 rfl)), h.2.2⟩
  q4 := r.q4, q35 := r.q35, q36 := r.q36, q38 := r.q38, q41 := r.q41, q42 := r.q42, q43 := r.q43, q44 := r.q44
  pl := r.pl
  dis := dis_upd r.dis r.qh o
  qh := fun i a h => by
   by_cases ei : i = 45
   ·subst ei
    rw [updA_same] at h
    exact t.has a h
   ·rw [updA_ne _ _ ei] at h
    exact k.has a (r.qh i a h) }
def RgS (H : AH) (g : Pn) (s : RgSt) (O : Pn → Prop) : Prop := ∃ f Q, RB H s f Q ∧ H.has g ∧ H.get g = some (.row (c48 f)) ∧ (∀ a, Q 0 a ↔ a = g) ∧ ∀ a, O a ↔ ∃ i, Q i a
theorem RgS.fr {F : Pn → Prop} {H H' : AH} {g : Pn} {s : RgSt} {O : Pn → Prop} (h : RgS H g s O) (k : Fr F H H') (hf : ∀ a, O a → ¬ F a) : RgS H' g s O := by
 obtain ⟨f, Q, r, hg, gg, q0, ho⟩ := h
 exact ⟨f, Q, r.fr k fun i a _ hi => hf a ((ho a).2 ⟨i, hi⟩), k.has g hg, (k.get g hg (hf g ((ho g).2 ⟨0, (q0 g).2 rfl⟩))).trans gg, q0, ho⟩
theorem RgS.le {H H' : AH} {g : Pn} {s : RgSt} {O : Pn → Prop} (h : RgS H g s O) (k : Le H H') : RgS H' g s O := h.fr (k.fr fun _ => False) fun _ _ h => h
theorem RgS.has {H : AH} {g : Pn} {s : RgSt} {O : Pn → Prop} (h : RgS H g s O) (a : Pn) (ha : O a) : H.has a := by
 obtain ⟨f, Q, r, hg, gg, q0, ho⟩ := h
 obtain ⟨i, hi⟩ := (ho a).1 ha
 exact r.qh i a hi
def hasB (s : RgSt) (c : Int) : Bool := isC c && decide ((owAt s.ow c).1 = s.id)
def mineB (s : RgSt) (c : Int) : Bool := hasB s c && (!handB s.hands c && !handB s.last.hands c)
def CHas (cl : Cl) : Prop := ∀ H g s O c K, RgS H g s O → (∀ H', Le H H' → K (.s (.bool (hasB s c))) H' = true) → cl i_region_Region_has [.s (.ptr (.at g 0)), .s (.int .i64 c)] H K = true
theorem B_region_Region_has_ {lf : Nat} {cl : Cl} (hof : COwOf cl) {H : AH} {g : Pn} {s : RgSt} {O : Pn → Prop} {c : Int} {K : AV → AH → Bool} (r : RgS H g s O) (hk : ∀ H', Le H H' → K (.s (.bool (hasB s c))) H' = true) : B_region_Region_has lf cl (.at g 0) c H K = true := by
 unfold B_region_Region_has
 obtain ⟨f, Q, r, hg, gg, q0, ho⟩ := r
 obtain ⟨go, e46, om, _⟩ := r.own
 simp only [nilK_at, fN_eq, Nat.add_eq, Nat.zero_add, Nat.add_zero]
 refine rowK_w gg (ldP_w (p := .at go 0) (by rw [c48_get _ (by decide), e46]) ?_)
 refine hof _ _ _ _ _ _ om fun H1 h1 => ?_
 rw [tup2_, asG_]
 refine arB_w (tmp_w rfl rfl fun g2 H2 h2 hg2 ng2 gg2 => ?_)
 have h12 := h1.trans h2
 refine ifA_w (fun hx => ?_) (fun hx => ?_)
 ·refine rowK_w gg2 (ldI_w (n := (owAt s.ow c).1) rfl ?_)
  refine rowK_w ((h12.get _ hg).trans gg) (ldI_w (n := s.id) (by rw [c48_get _ (by decide), r.i0]) ?_)
  rw [fB_eq, iEq_dec]
  have := hk H2 h12
  unfold hasB at this
  rw [hx, Bool.true_and] at this
  exact this
 ·have := hk H2 h12
  unfold hasB at this
  rw [hx, Bool.false_and] at this
  exact this
structure Sm (s : RgSt) : Prop where
 th : s.th.length < 9000
 g0 : 0 ≤ s.given
 g1 : s.given ≤ 1000000
 hl : s.hands.length < 10000
 lhl : s.last.hands.length < 10000
 ol : s.order.length ≤ 1000000
 t0 : 0 ≤ s.took
def CMine (cl : Cl) : Prop := ∀ H g s O c K, RgS H g s O → Sm s → (∀ H', Le H H' → K (.s (.bool (mineB s c))) H' = true) → cl i_region_Region_Mine [.s (.ptr (.at g 0)), .s (.int .i64 c)] H K = true
theorem B_region_Region_Mine_ {lf : Nat} {cl : Cl} (hh : CHas cl) (hd : CHanded cl) {H : AH} {g : Pn} {s : RgSt} {O : Pn → Prop} {c : Int} {K : AV → AH → Bool} (rg : RgS H g s O) (sm : Sm s) (hk : ∀ H', Le H H' → K (.s (.bool (mineB s c))) H' = true) :
  B_region_Region_Mine lf cl (.at g 0) c H K = true := by
 unfold B_region_Region_Mine
 refine hh _ _ _ _ _ _ rg fun H1 h1 => arB_w ?_
 have no : ∀ {H'}, Le H H' → mineB s c = false → K (.s (.bool false)) H' = true := fun h e => by have := hk _ h; rw [e] at this; exact this
 refine ifA_w (fun hx => ?_) (fun hx => no h1 (by unfold mineB; rw [hx]; rfl))
 obtain ⟨f, Q, r, hg, gg, q0, ho⟩ := rg
 obtain ⟨p, cc, z, e36, hc, sr⟩ := r.s36
 simp only [nilK_at, fN_eq, Nat.add_eq, Nat.zero_add, Nat.add_zero]
 refine rowK_w ((h1.get _ hg).trans gg) (ldSl_w (by rw [c48_get _ (by decide), e36]) ?_)
 refine hd _ _ _ _ _ _ _ _ (sr.le h1) sm.hl fun H2 h2 => arB_w ?_
 have h12 := h1.trans h2
 rw [fB_eq]
 refine ifA_w (fun hy => ?_) (fun hy => no h12 (by unfold mineB; rw [hx, hy]; rfl))
 obtain ⟨p2, c2, z2, e42, hc2, sr2⟩ := r.s42
 refine rowK_w ((h12.get _ hg).trans gg) (ldSl_w (by rw [c48_get _ (by decide), e42]) ?_)
 refine hd _ _ _ _ _ _ _ _ (sr2.le h12) sm.lhl fun H3 h3 => arB_w ?_
 rw [fB_eq]
 have := hk H3 (h12.trans h3)
 unfold mineB at this
 rw [hx, hy, Bool.true_and, Bool.true_and] at this
 exact this
def putN (s : RgSt) : Int := numE s.id s.given
theorem putN_nonneg (s : RgSt) : 0 ≤ putN s := by unfold putN numE; omega
noncomputable def doesE (s : RgSt) (c : Cm) : Int :=
 if c.kind = 1 ∧ ofE c.pt ≠ 0 then ofE c.pt else
 if c.kind = 1 ∧ mineB s (ofC c.pt) = false then 17 else
 if checkE s.th c = 16 ∧ (c.kind = 2 ∧ mineB s (ofC c.pt) = false) then 0 else
 if checkE s.th c ≠ 0 then checkE s.th c else
 if c.kind = 1 ∧ 1000000 < putN s then 16 else 0
noncomputable def doesI (s : RgSt) (c : Cm) : Int := if doesE s c ≠ 0 then 0 else if c.kind = 1 then putN s else c.id
noncomputable def doesS (s : RgSt) (c : Cm) : RgSt := if doesE s c ≠ 0 then s else if c.kind = 1 then { s with th := aSet s.th (putN s) (putT c (putN s)), given := s.given + 1 } else { s with th := doneL s.th c 0 }
def CDoes (cl : Cl) : Prop := ∀ H g s O c K, RgS H g s O → Sm s → (∀ H' O', Fr O H H' → RgS H' g (doesS s c) O' → (∀ a, O' a → O a ∨ ¬ H.has a) → K (.tup [.s (.int .i64 (doesI s c)), .s (.int .i64 (doesE s c))]) H' = true) →
 cl i_region_Region_does [.s (.ptr (.at g 0)), .agg (cmC c)] H K = true
theorem fr_q {Q : Nat → Pn → Prop} {O : Pn → Prop} (ho : ∀ a, O a ↔ ∃ i, Q i a) {H H' : AH} {i : Nat} (k : Fr (Q i) H H') : Fr O H H' := k.mono fun a h => (ho a).2 ⟨i, h⟩
theorem B_region_Region_does_ {lf : Nat} {cl : Cl} (hof : COfC cl) (hmine : CMine cl) (hnum : CNumber cl) (hcheck : CCheck cl) (hlay : CTLay cl) (hdone : CDone cl) {H : AH} {g : Pn} {s : RgSt} {O : Pn → Prop} {c : Cm} {K : AV → AH → Bool} (rg : RgS H g s O) (sm : Sm s)
  (hk : ∀ H' O', Fr O H H' → RgS H' g (doesS s c) O' → (∀ a, O' a → O a ∨ ¬ H.has a) → K (.tup [.s (.int .i64 (doesI s c)), .s (.int .i64 (doesE s c))]) H' = true) : B_region_Region_does lf cl (.at g 0) (cmC c) H K = true := by
 unfold B_region_Region_does
 have keep : ∀ {H'} {e : Int}, Le H H' → doesE s c = e → e ≠ 0 → K (.tup [.s (.int .i64 (Int.ofNat 0)), .s (.int .i64 e)]) H' = true := by
  intro H' e hl he hn
  have := hk H' O (hl.fr _) (by unfold doesS; rw [he, if_pos hn]; exact rg.le hl) (fun a h => .inl h)
  unfold doesI at this
  rw [he, if_pos hn] at this
  exact this
 refine new_w fun gc H1 h1 hgc ngc ggc => ?_
 refine rowK_w ggc (ldG_we (ys := ptC c.pt) (lb rfl) (by decide) rfl ?_)
 refine hof _ _ _ fun H2 h2 => ?_
 rw [tup2_]
 refine arI_w (arI_w ?_)
 have h12 := h1.trans h2
 refine hmine H2 g s O _ _ (rg.le h12) sm fun H3 h3 => arB_w ?_
 have h13 := h12.trans h3
 have gc3 := ((h2.trans h3).get _ hgc).trans ggc
 have hgc3 := (h2.trans h3).has _ hgc
 refine joinX_w (fun x Hx => Hx = H3 ∧ ∃ idn : Int, x = (.at g 0, .at gc 0, mineB s (ofC c.pt), idn) ∧ (c.kind = 1 → idn = putN s ∧ ofE c.pt = 0 ∧ mineB s (ofC c.pt) = true) ∧ (c.kind ≠ 1 → idn = 0)) ?_ ?_
 ·rintro x Hx ⟨rfl, idn, rfl, k1, k2⟩
  obtain ⟨f, Q, rb, hg, gg, q0, ho⟩ := rg.le h13
  obtain ⟨gt, e45, tt⟩ := rb.tab
  have ngcO : ¬ O gc := fun h => ngc (rg.has _ h)
  simp only [pR_, nilK_at, fN_eq, Nat.add_eq, Nat.zero_add, Nat.add_zero, fB_eq, iEq_dec, iLt_dec]
  refine rowK_w gg (ldP_w (p := .at gt 0) (by rw [c48_get _ (by decide), e45]) ?_)
  refine rowK_w gc3 (ldG_we (ys := cmC c) (lb rfl) (by decide) rfl ?_)
  refine hcheck Hx gt s.th _ c _ tt sm.th fun H4 h4 => arI_w ?_
  have h14 := h13.trans h4
  have gc4 := (h4.get _ hgc3).trans gc3
  have hgc4 := h4.has _ hgc3
  have gg4 := (h4.get _ hg).trans gg
  have hg4 := h4.has _ hg
  have rb4 : RB H4 s f Q := rb.fr (h4.fr fun _ => False) fun _ _ _ _ h => h
  obtain ⟨gt', e45', tt4⟩ := rb4.tab
  obtain rfl : gt' = gt := by rw [e45] at e45'; cases e45'; rfl
  clear gc3 hgc3 gg hg rb tt h13 h12 h1 h2 h3 ggc hgc e45'
  refine joinX_w (fun x Hx => Hx = H4 ∧ x = (.at g 0, .at gc 0, idn) ∧ doesE s c = 0 ∧ (checkE s.th c = 0 ∨ checkE s.th c = 16)) ?_ ?_
  ·rintro x Hx ⟨rfl, rfl, hz, hpre⟩
   simp only [pR_, nilK_at, fN_eq, Nat.add_eq, Nat.zero_add, Nat.add_zero, fB_eq, iEq_dec]
   refine rowK_w gc4 (ldI_w (n := c.kind) rfl ?_)
   have pre := pre_of hpre
   refine ifA_w (fun hx => ?_) (fun hx => ?_)
   ·have hx : c.kind = 1 := of_decide_eq_true hx
    obtain ⟨rfl, hof0, hm⟩ := k1 hx
    have hle : putN s ≤ 1000000 := by
     unfold doesE at hz
     rw [if_neg (fun h => h.2 hof0), if_neg (fun h => by rw [hm] at h; cases h.2), if_neg (fun h => by omega)] at hz
     split at hz
     ·rename_i h; exact absurd hz h
     ·split at hz
      ·cases hz
      ·rename_i h; exact Int.not_lt.1 fun h' => h ⟨hx, h'⟩
    refine rowK_w gg4 (ldP_w (p := .at gt' 0) (by rw [c48_get _ (by decide), e45]) ?_)
    refine rowK_w gc4 (ldG_we (ys := ptC c.pt) (lb rfl) (by decide) rfl ?_)
    refine rowK_w gc4 (ldG_we (ys := fdC c.f0 ++ (fdC c.f1 ++ (fdC c.f2 ++ fdC c.f3))) (lb rfl) (by decide) rfl ?_)
    refine okK_w rfl (okK_w rfl (fL_w ?_))
    refine hlay Hx gt' s.th _ (putT c (putN s)) _ tt4 (pre.put hx) (putN_nonneg s) (by show putN s ≤ _; omega) sm.th fun H5 O5 f5 t5 o5 => ?_
    rw [tup0_]
    have rb5 := rb4.tabOp e45 f5 t5 o5
    have hne0 : ¬ Q 45 g := fun h => absurd (rb4.dis 0 45 g ((q0 g).2 rfl) h) (by decide)
    have gg5 := (f5.get _ hg4 hne0).trans gg4
    refine rowK_w gg5 (ldI_w (n := s.given) (by rw [c48_get _ (by decide), rb4.i34]) ?_)
    have b0 := sm.g0
    have b1 := sm.g1
    rw [iAdd_]
    refine w64_w (by simp only [Int.ofNat_eq_natCast]; omega) (by simp only [Int.ofNat_eq_natCast]; omega) ?_
    refine sto1_w gg5 (by rw [c48_len]; decide) ?_
    rw [c48_set]
    have fp : Fr (fun a => a = g) H5 (H5.put g (.row (c48 (updA f 34 (.int .i64 (s.given + Int.ofNat 1)))))) := (Fr.refl (fun a => a = g) _).put (.inl rfl) _
    have rb6 := rb5.fr fp fun i a hi ha e => by
     subst e
     refine hi ?_
     by_cases e45i : i = 45
     ·subst e45i
      rw [updA_same] at ha
      exact absurd ((o5 _ ha).elim (fun h => hne0 h) fun h => h hg4) (fun h => h)
     ·rw [updA_ne _ _ e45i] at ha
      exact rb4.dis i 0 _ ha ((q0 _).2 rfl)
    have rb7 : RB (H5.put g (.row (c48 (updA f 34 (.int .i64 (s.given + Int.ofNat 1)))))) { s with th := aSet s.th (putN s) (putT c (putN s)), given := s.given + 1 } (updA f 34 (.int .i64 (s.given + Int.ofNat 1))) (updA Q 45 O5) := { rb6 with i34 := rfl, pl := pl_upd rb6.pl rfl }
    have := hk _ (fun a => ∃ i, updA Q 45 O5 i a) ((h14.fr O).trans ((fr_q ho f5).trans (fp.mono fun a e => by subst e; exact (ho a).2 ⟨0, (q0 a).2 rfl⟩) fun _ h => .inl h) fun _ h => .inl h)
     (by
      unfold doesS
      rw [if_neg (fun h => h hz), if_pos hx]
      exact ⟨_, _, rb7, f5.has _ hg4, get_put _ _ _, fun a => by rw [updA_ne _ _ (by decide)]; exact q0 a, fun _ => Iff.rfl⟩)
     (fun a ⟨i, hi⟩ => by
      by_cases e45i : i = 45
      ·subst e45i
       rw [updA_same] at hi
       exact (o5 a hi).imp (fun h => (ho a).2 ⟨45, h⟩) fun h h' => h (h14.has a h')
      ·rw [updA_ne _ _ e45i] at hi
       exact .inl ((ho a).2 ⟨i, hi⟩))
    unfold doesI at this
    rw [hz, if_neg (fun h => h rfl), if_pos hx] at this
    exact this
   ·have hx : ¬ c.kind = 1 := of_decide_eq_false hx
    refine rowK_w gg4 (ldP_w (p := .at gt' 0) (by rw [c48_get _ (by decide), e45]) ?_)
    refine rowK_w gc4 (ldG_we (ys := cmC c) (lb rfl) (by decide) rfl ?_)
    refine hdone Hx gt' s.th _ c _ _ tt4 sm.th pre fun H5 O5 f5 t5 o5 => ?_
    rw [tup2_]
    refine arI_w (arB_w ?_)
    have rb5 := rb4.tabOp e45 f5 t5 o5
    have hne0 : ¬ Q 45 g := fun h => absurd (rb4.dis 0 45 g ((q0 g).2 rfl) h) (by decide)
    have gg5 := (f5.get _ hg4 hne0).trans gg4
    have hgcQ : ¬ Q 45 gc := fun h => ngcO ((ho gc).2 ⟨45, h⟩)
    refine rowK_w ((f5.get _ hgc4 hgcQ).trans gc4) (ldI_w (n := c.id) rfl ?_)
    have := hk H5 (fun a => ∃ i, updA Q 45 O5 i a) ((h14.fr O).trans (fr_q ho f5) fun _ h => .inl h)
     (by
      unfold doesS
      rw [if_neg (fun h => h hz), if_neg hx]
      exact ⟨_, _, rb5, f5.has _ hg4, gg5, fun a => by rw [updA_ne _ _ (by decide)]; exact q0 a, fun _ => Iff.rfl⟩)
     (fun a ⟨i, hi⟩ => by
      by_cases e45i : i = 45
      ·subst e45i
       rw [updA_same] at hi
       exact (o5 a hi).imp (fun h => (ho a).2 ⟨45, h⟩) fun h h' => h (h14.has a h')
      ·rw [updA_ne _ _ e45i] at hi
       exact .inl ((ho a).2 ⟨i, hi⟩))
    unfold doesI at this
    rw [hz, if_neg (fun h => h rfl), if_neg hx] at this
    exact this
  ·intro J hJ
   have e1 : ¬ (c.kind = 1 ∧ ofE c.pt ≠ 0) := fun h => h.2 (k1 h.1).2.1
   have e2 : ¬ (c.kind = 1 ∧ mineB s (ofC c.pt) = false) := fun h => by rw [(k1 h.1).2.2] at h; cases h.2
   refine joinX_w (fun x Hx => Hx = H4 ∧ x = (.at g 0, .at gc 0, idn, checkE s.th c, decide (checkE s.th c = 16 ∧ (c.kind = 2 ∧ mineB s (ofC c.pt) = false)))) ?_ ?_
   ·rintro x Hx ⟨rfl, rfl⟩
    simp only [pR_]
    refine ifA_w (fun hx => ?_) (fun hx => ?_)
    ·have hx := of_decide_eq_true hx
     exact hJ _ _ ⟨rfl, rfl, by unfold doesE; rw [if_neg e1, if_neg e2, if_pos hx], .inr hx.1⟩
    ·have hx := of_decide_eq_false hx
     refine ifA_w (fun hy => keep h14 (e := checkE s.th c) (by unfold doesE; rw [if_neg e1, if_neg e2, if_neg hx, if_pos (by simpa using hy)]) (by simpa using hy)) (fun hy => ?_)
     have hy : checkE s.th c = 0 := by simpa using hy
     refine ifA_w (fun hw => ?_) (fun hw => ?_)
     ·have hw := of_decide_eq_true hw
      have hk1 : c.kind = 1 := by
       rcases Classical.em (c.kind = 1) with h | h
       ·exact h
       ·rw [k2 h] at hw; exact absurd hw (by decide)
      have : doesE s c = 16 := by
       unfold doesE
       rw [if_neg e1, if_neg e2, if_neg hx, if_neg (fun h => h hy), if_pos ⟨hk1, by rw [← (k1 hk1).1]; exact hw⟩]
      exact keep h14 this (by decide)
     ·have hw := of_decide_eq_false hw
      have : doesE s c = 0 := by
       unfold doesE
       rw [if_neg e1, if_neg e2, if_neg hx, if_neg (fun h => h hy), if_neg (fun h => hw (by rw [(k1 h.1).1]; exact h.2))]
      exact hJ _ _ ⟨rfl, rfl, this, .inl hy⟩
   ·intro J2 hJ2
    refine ifA_w (fun hx => ?_) (fun hx => ?_)
    ·have hx : checkE s.th c = 16 := of_decide_eq_true hx
     refine rowK_w gc4 (ldI_w (n := c.kind) rfl ?_)
     refine ifA_w (fun hy => ?_) (fun hy => ?_)
     ·have hy : c.kind = 2 := of_decide_eq_true hy
      refine hJ2 _ _ ⟨rfl, ?_⟩
      cases e : mineB s (ofC c.pt) <;> simp [hx, hy]
     ·have hy : ¬ c.kind = 2 := of_decide_eq_false hy
      exact hJ2 _ _ ⟨rfl, by rw [decide_eq_false (fun h => hy h.2.1)]⟩
    ·have hx : ¬ checkE s.th c = 16 := of_decide_eq_false hx
     exact hJ2 _ _ ⟨rfl, by rw [decide_eq_false (fun h => hx h.1)]⟩
 ·intro J hJ
  refine rowK_w gc3 (ldI_w (n := c.kind) rfl ?_)
  simp only [fB_eq, iEq_dec]
  refine ifA_w (fun hx => ?_) (fun hx => hJ _ _ ⟨rfl, 0, rfl, fun h => absurd h (of_decide_eq_false hx), fun _ => rfl⟩)
  have hx : c.kind = 1 := of_decide_eq_true hx
  obtain ⟨f, Q, rb, hg, gg, q0, ho⟩ := rg.le h13
  simp only [nilK_at, fN_eq, Nat.add_eq, Nat.zero_add, Nat.add_zero]
  refine rowK_w gg (ldI_w (n := s.id) (by rw [c48_get _ (by decide), rb.i0]) ?_)
  refine rowK_w gg (ldI_w (n := s.given) (by rw [c48_get _ (by decide), rb.i34]) ?_)
  refine hnum _ _ _ _ (arI_w ?_)
  refine ifA_w (fun hy => ?_) (fun hy => ?_)
  ·have hy : ofE c.pt ≠ 0 := by simpa using hy
   exact keep h13 (by unfold doesE; rw [if_pos ⟨hx, hy⟩]) hy
  ·have hy : ofE c.pt = 0 := by simpa using hy
   refine ifA_w (fun hw => ?_) (fun hw => ?_)
   ·have hw : mineB s (ofC c.pt) = false := by simpa using hw
    exact keep h13 (e := 17) (by unfold doesE; rw [if_neg (fun h => h.2 hy), if_pos ⟨hx, hw⟩]) (by decide)
   ·have hw : mineB s (ofC c.pt) = true := by simpa using hw
    exact hJ _ _ ⟨rfl, putN s, rfl, fun _ => ⟨rfl, hy, hw⟩, fun h => absurd hx h⟩
end Go.Proofs
end
section
namespace Go.Proofs
open Go Go.Vw Go.Vw.Ev
set_option linter.unusedVariables false
set_option linter.unusedSimpArgs false
def nt0 : Nt := ⟨0, 0, [], [], [], []⟩
def newS (id n : Int) : RgSt := { id := min (max id 0) (clamp4 n - 1), n := clamp4 n, beat := 0, given := 0, took := 0, th := [], ow := owInit (clamp4 n), wat := List.replicate 4 wt0, was := [], watch := [], hands := [], order := [], last := nt0 }
theorem clamp4_idem (n : Int) : clamp4 (clamp4 n) = clamp4 n := by unfold clamp4; omega
def CRgNew (cl : Cl) : Prop := ∀ id n H K, (∀ H' g O, Le H H' → RgS H' g (newS id n) O → (∀ a, O a → ¬ H.has a) → K (.s (.ptr (.at g 0))) H' = true) → cl i_region_New [.s (.int .i64 id), .s (.int .i64 n)] H K = true
def row0 (id n : Int) (gt go gb : Pn) : List AS := [AS.int .i64 id, AS.int .i64 n, AS.int .i64 (Int.ofNat 0), AS.slice AP.nil 0 (.lit 0) 1, AS.slice AP.nil 0 (.lit 0) 1, AS.slice AP.nil 0 (.lit 0) 1, AS.bool false, AS.int .i64 (Int.ofNat 0), AS.int .i64 (Int.ofNat 0), AS.int .i64 (Int.ofNat 0), AS.int .i64 (Int.ofNat 0), AS.int .i64 (Int.ofNat 0), AS.int .i64 (Int.ofNat 0), AS.bool false, AS.int .i64 (Int.ofNat 0), AS.int .i64 (Int.ofNat 0), AS.int .i64 (Int.ofNat 0), AS.int .i64 (Int.ofNat 0), AS.int .i64 (Int.ofNat 0), AS.int .i64 (Int.ofNat 0), AS.bool false, AS.int .i64 (Int.ofNat 0), AS.int .i64 (Int.ofNat 0), AS.int .i64 (Int.ofNat 0), AS.int .i64 (Int.ofNat 0), AS.int .i64 (Int.ofNat 0), AS.int .i64 (Int.ofNat 0), AS.bool false, AS.int .i64 (Int.ofNat 0), AS.int .i64 (Int.ofNat 0), AS.int .i64 (Int.ofNat 0), AS.int .i64 (Int.ofNat 0), AS.int .i64 (Int.ofNat 0), AS.int .i64 (Int.ofNat 0), AS.int .i64 (Int.ofNat 0), AS.slice AP.nil 0 (.lit 0) 1, AS.slice AP.nil 0 (.lit 0) 1, AS.int .i64 (Int.ofNat 0), AS.slice AP.nil 0 (.lit 0) 1, AS.int .i64 (Int.ofNat 0), AS.int .i64 (Int.ofNat 0), AS.slice AP.nil 0 (.lit 0) 1, AS.slice AP.nil 0 (.lit 0) 1, AS.slice AP.nil 0 (.lit 0) 1, AS.slice AP.nil 0 (.lit 0) 1, AS.ptr (.at gt 0), AS.ptr (.at go 0), AS.ptr (.at gb 0)]
def f0 (id n : Int) (gt go gb : Pn) : Nat → AS := fun i => (row0 id n gt go gb).getD i (.bool false)
def Q0 (g go gb : Pn) (Ot : Pn → Prop) : Nat → Pn → Prop := fun i a => if i = 0 then a = g else if i = 45 then Ot a else if i = 46 then a = go else if i = 47 then a = gb else False
theorem Q0_col {g go gb : Pn} {Ot : Pn → Prop} (h1 : g ≠ go) (h2 : g ≠ gb) (h3 : go ≠ gb) (h4 : ¬ Ot g) (h5 : ¬ Ot go) (h6 : ¬ Ot gb) {i : Nat} {a : Pn} (h : Q0 g go gb Ot i a) : i = (open Classical in if a = g then 0 else if a = go then 46 else if a = gb then 47 else 45) := by
 unfold Q0 at h
 split at h
 ·rename_i e; rw [if_pos h, e]
 split at h
 ·rename_i e
  have n1 : a ≠ g := fun e' => h4 (by rw [← e']; exact h)
  have n2 : a ≠ go := fun e' => h5 (by rw [← e']; exact h)
  have n3 : a ≠ gb := fun e' => h6 (by rw [← e']; exact h)
  rw [if_neg n1, if_neg n2, if_neg n3, e]
 split at h
 ·rename_i e
  have n1 : a ≠ g := fun e' => h1 (e'.symm.trans h)
  rw [if_neg n1, if_pos h, e]
 split at h
 ·rename_i e
  have n1 : a ≠ g := fun e' => h2 (e'.symm.trans h)
  have n2 : a ≠ go := fun e' => h3 (e'.symm.trans h)
  rw [if_neg n1, if_neg n2, if_pos h, e]
 ·exact h.elim
theorem nil_own {n z : Nat} {c : ACap} {a : Pn} : False ↔ ownA (.slice .nil n c z) a := ⟨fun h => h.elim, fun ⟨o, e⟩ => by cases e⟩
theorem B_region_New_ {lf : Nat} {cl : Cl} (how : COwNew cl) (htn : CTNew cl) (hbk : CBkNew cl) {id n : Int} {H : AH} {K : AV → AH → Bool}
  (hk : ∀ H' g O, Le H H' → RgS H' g (newS id n) O → (∀ a, O a → ¬ H.has a) → K (.s (.ptr (.at g 0))) H' = true) : B_region_New lf cl id n H K = true := by
 unfold B_region_New
 simp only [mxA_, mnA_, fI_eq]
 show cl i_owner_New [.s (.int .i64 (clamp4 n))] H _ = true
 have hc : 1 ≤ clamp4 n ∧ clamp4 n ≤ 4 := by unfold clamp4; omega
 refine how _ _ _ fun H1 go h1 om ngo => ?_
 rw [clamp4_idem] at om
 rw [asP_, iSub_]
 show w64 (clamp4 n - 1) _ = true
 refine w64_w (by omega) (by omega) ?_
 refine htn _ _ fun H2 gt Ot h2 tt ht => ?_
 rw [asP_]
 refine hbk _ _ fun H3 gb h3 bk ngb => ?_
 rw [asP_]
 refine fL_w (new_w fun g H4 h4 hg ng gg => ?_)
 replace gg : H4.get g = some (.row (c48 (f0 (min (max id 0) (clamp4 n - 1)) (clamp4 n) gt go gb))) := gg
 have h14 := h2.trans (h3.trans h4)
 have om4 := om.le h14
 have tt4 := tt.le (h3.trans h4)
 have bk4 := bk.fr (h4.fr fun _ => False) fun h => h
 have d1 : g ≠ go := fun e => ng ((h2.trans h3).has _ (e ▸ om.has))
 have d2 : g ≠ gb := fun e => ng (e ▸ bk.has)
 have d3 : go ≠ gb := fun e => ngb (h2.has _ (e ▸ om.has))
 have d4 : ¬ Ot g := fun h => ng (h3.has _ (tt.has _ h))
 have d5 : ¬ Ot go := fun h => ht _ h om.has
 have d6 : ¬ Ot gb := fun h => ngb (tt.has _ h)
 refine hk H4 g (fun a => ∃ i, Q0 g go gb Ot i a) (h1.trans h14) ⟨_, Q0 g go gb Ot, ?_, hg, gg, fun _ => Iff.rfl, fun _ => Iff.rfl⟩ ?_
 ·exact
   {i0 := rfl, i1 := rfl, i2 := rfl, i34 := rfl, i37 := rfl, i39 := rfl, i40 := rfl
    s4 := SW.nil, s35 := SF.nil, s36 := SF.nil, s38 := SF.nil, s41 := SF.nil, s42 := SF.nil, s43 := SF.nil, s44 := SF.nil
    tab := ⟨gt, rfl, tt4⟩, own := ⟨go, rfl, om4, fun _ => Iff.rfl⟩, book := ⟨gb, rfl, bk4, fun _ => Iff.rfl⟩
    q4 := fun _ => nil_own, q35 := fun _ => nil_own, q36 := fun _ => nil_own, q38 := fun _ => nil_own, q41 := fun _ => nil_own, q42 := fun _ => nil_own, q43 := fun _ => nil_own, q44 := fun _ => nil_own
    pl := rfl
    dis := fun i j a hi hj => (Q0_col d1 d2 d3 d4 d5 d6 hi).trans (Q0_col d1 d2 d3 d4 d5 d6 hj).symm
    qh := fun i a h => by
     unfold Q0 at h
     split at h
     ·rw [h]; exact hg
     split at h
     ·exact tt4.has a h
     split at h
     ·rw [h]; exact om4.has
     split at h
     ·rw [h]; exact bk4.has
     ·exact h.elim }
 ·rintro a ⟨i, h⟩ ha
  unfold Q0 at h
  split at h
  ·exact ng ((h1.trans (h2.trans h3)).has _ (h ▸ ha))
  split at h
  ·exact ht a h (h1.has a ha)
  split at h
  ·exact ngo (h ▸ ha)
  split at h
  ·exact ngb ((h1.trans h2).has _ (h ▸ ha))
  ·exact h
theorem RB.ord {H H' : AH} {s : RgSt} {f : Nat → AS} {Q : Nat → Pn → Prop} {p : AP} {c : ACap} {z : Nat} {b : Pn} {t : Tkn} (r : RB H s f Q) (e : f 38 = .slice p s.order.length c z) (k : Fr (ownP p) H H') (nb : ¬ H.has b)
  (sr : SR 25 H' (.at b 0) (s.order.length + 1) 25 (s.order.flatMap tkC ++ tkC t)) : RB H' { s with order := s.order ++ [t] } (updA f 38 (.slice (.at b 0) (s.order.length + 1) (.of b 0) 25)) (updA Q 38 (ownP (.at b 0))) :=
 have hq : ∀ a, ownP p a → Q 38 a := fun a h => (r.q38 a).2 (by rw [e]; exact h)
 have hne : ∀ i a, i ≠ 38 → Q i a → ¬ ownP p a := fun i a hi h h' => hi (r.dis i 38 a h (hq a h'))
 {i0 := r.i0, i1 := r.i1, i2 := r.i2, i34 := r.i34, i37 := r.i37, i39 := r.i39, i40 := r.i40
  s4 := r.s4.fr k fun a h => hne 4 a (by decide) ((r.q4 a).2 h)
  s35 := r.s35.fr k fun a h => hne 35 a (by decide) ((r.q35 a).2 h)
  s36 := r.s36.fr k fun a h => hne 36 a (by decide) ((r.q36 a).2 h)
  s38 := ⟨.at b 0, .of b 0, 25, by simp [updA], trivial, by simpa using sr⟩
  s41 := r.s41.fr k fun a h => hne 41 a (by decide) ((r.q41 a).2 h)
  s42 := r.s42.fr k fun a h => hne 42 a (by decide) ((r.q42 a).2 h)
  s43 := r.s43.fr k fun a h => hne 43 a (by decide) ((r.q43 a).2 h)
  s44 := r.s44.fr k fun a h => hne 44 a (by decide) ((r.q44 a).2 h)
  tab := r.tab.imp fun gt h => ⟨h.1, h.2.fr k fun a ha => hne 45 a (by decide) ha⟩
  own := r.own.imp fun go h => ⟨h.1, h.2.1.fr k (hne 46 go (by decide) ((h.2.2 go).2 rfl)), h.2.2⟩
  book := r.book.imp fun gb h => ⟨h.1, h.2.1.fr k (hne 47 gb (by decide) ((h.2.2 gb).2 rfl)), h.2.2⟩
  q4 := r.q4, q35 := r.q35, q36 := r.q36, q38 := fun a => Iff.rfl, q41 := r.q41, q42 := r.q42, q43 := r.q43, q44 := r.q44
  pl := pl_upd r.pl rfl
  dis := dis_upd r.dis r.qh fun a ⟨o, e⟩ => by cases e; exact .inr nb
  qh := fun i a h => by
   by_cases ei : i = 38
   ·subst ei
    rw [updA_same] at h
    exact sr.has a h
   ·rw [updA_ne _ _ ei] at h
    exact k.has a (r.qh i a h) }
noncomputable def takeE (s : RgSt) (c : Cm) : Int := if IsCm c = false then 11 else if 20 ≤ s.took then 16 else doesE s c
def upS (s : RgSt) (i : Int) (c : Cm) : RgSt := { s with took := s.took + 1, order := s.order ++ [⟨s.beat, s.id, i, c⟩] }
noncomputable def takeI (s : RgSt) (c : Cm) : Int := if takeE s c ≠ 0 then 0 else doesI s c
noncomputable def takeS (s : RgSt) (c : Cm) : RgSt := if takeE s c ≠ 0 then s else upS (doesS s c) (doesI s c) c
theorem doesS_sm {s : RgSt} {c : Cm} : (doesS s c).took = s.took ∧ (doesS s c).order = s.order := by
 unfold doesS
 split
 ·exact ⟨rfl, rfl⟩
 ·split <;> exact ⟨rfl, rfl⟩
def CTakeD (cl : Cl) : Prop := ∀ H g s O c K, RgS H g s O → Sm s → watB c = false → c.kind ≠ 5 → (∀ H' O', Fr O H H' → RgS H' g (takeS s c) O' → (∀ a, O' a → O a ∨ ¬ H.has a) → K (.tup [.s (.int .i64 (takeI s c)), .s (.int .i64 (takeE s c))]) H' = true) →
 cl i_region_Region_Take [.s (.ptr (.at g 0)), .agg (cmC c)] H K = true
theorem B_region_Region_Take_ {lf : Nat} {cl : Cl} (his : CIsCm cl) (hwat : CWat cl) (hdoes : CDoes cl) {H : AH} {g : Pn} {s : RgSt} {O : Pn → Prop} {c : Cm} {K : AV → AH → Bool} (rg : RgS H g s O) (sm : Sm s) (hw : watB c = false) (h5 : c.kind ≠ 5)
  (hk : ∀ H' O', Fr O H H' → RgS H' g (takeS s c) O' → (∀ a, O' a → O a ∨ ¬ H.has a) → K (.tup [.s (.int .i64 (takeI s c)), .s (.int .i64 (takeE s c))]) H' = true) : B_region_Region_Take lf cl (.at g 0) (cmC c) H K = true := by
 unfold B_region_Region_Take
 have keep : ∀ {H' O'} {e : Int}, Fr O H H' → RgS H' g s O' → (∀ a, O' a → O a ∨ ¬ H.has a) → takeE s c = e → e ≠ 0 → K (.tup [.s (.int .i64 (Int.ofNat 0)), .s (.int .i64 e)]) H' = true := by
  intro H' O' e hl hr ho he hn
  have := hk H' O' hl (by unfold takeS; rw [he, if_pos hn]; exact hr) ho
  unfold takeI at this
  rw [he, if_pos hn] at this
  exact this
 refine new_w fun gc H1 h1 hgc ngc ggc => ?_
 refine rowK_w ggc (ldG_we (ys := cmC c) (lb rfl) (by decide) rfl ?_)
 refine his _ _ _ fun H2 h2 => arB_w ?_
 have h12 := h1.trans h2
 have gc2 := (h2.get _ hgc).trans ggc
 have hgc2 := h2.has _ hgc
 have ngcO : ¬ O gc := fun h => ngc (rg.has _ h)
 rw [fB_eq]
 refine ifA_w (fun hx => keep (h12.fr _) (rg.le h12) (fun a h => .inl h) (e := 11) (by unfold takeE; rw [if_pos (by simpa using hx)]) (by decide)) (fun hx => ?_)
 have hIs : IsCm c = true := by simpa using hx
 have rg2 := rg.le h12
 obtain ⟨f, Q, rb, hg, gg, q0, ho⟩ := rg2
 simp only [nilK_at, fN_eq, Nat.add_eq, Nat.zero_add, Nat.add_zero, fB_eq, iLe_dec, iEq_dec]
 refine rowK_w gg (ldI_w (n := s.took) (by rw [c48_get _ (by decide), rb.i37]) ?_)
 refine ifA_w (fun hx => keep (h12.fr _) (rg.le h12) (fun a h => .inl h) (e := 16) (by unfold takeE; rw [if_neg (by rw [hIs]; decide), if_pos (show (20 : Int) ≤ s.took from of_decide_eq_true hx)]) (by decide)) (fun hx => ?_)
 have hto : ¬ 20 ≤ s.took := of_decide_eq_false hx
 have hE : takeE s c = doesE s c := by unfold takeE; rw [if_neg (by rw [hIs]; decide), if_neg hto]
 clear rb hg gg q0 ho f Q hx
 refine joinX_w (fun x Hx => ∃ O', x = (.at g 0, .at gc 0, doesI s c, doesE s c) ∧ Fr O H2 Hx ∧ RgS Hx g (doesS s c) O' ∧ (∀ a, O' a → O a ∨ ¬ H2.has a)) ?_ ?_
 ·rintro x H3 ⟨O3, rfl, f3, rg3, o3⟩
  simp only [pR_, nilK_at, fN_eq, Nat.add_eq, Nat.zero_add, Nat.add_zero]
  have o3H : ∀ a, O3 a → O a ∨ ¬ H.has a := fun a h => (o3 a h).imp (fun h => h) fun h h' => h (h12.has a h')
  refine ifA_w (fun hx => ?_) (fun hx => ?_)
  ·have hx : doesE s c ≠ 0 := by simpa using hx
   have e3 : doesS s c = s := by unfold doesS; rw [if_pos hx]
   rw [e3] at rg3
   exact keep ((h12.fr O).trans f3 fun _ h => .inl h) rg3 o3H hE hx
  ·have hz : doesE s c = 0 := by simpa using hx
   obtain ⟨et, eo⟩ := doesS_sm (s := s) (c := c)
   have gc3 := (f3.get _ hgc2 ngcO).trans gc2
   have hgc3 := f3.has _ hgc2
   have ngc3 : ¬ O3 gc := fun h => (o3 _ h).elim ngcO fun h' => h' hgc2
   generalize hs' : doesS s c = s' at *
   generalize hi' : doesI s c = i' at *
   obtain ⟨f, Q, rb, hg, gg, q0, hoQ⟩ := rg3
   have t0 := sm.t0
   refine rowK_w gg (ldI_w (n := s'.took) (by rw [c48_get _ (by decide), rb.i37]) ?_)
   rw [iAdd_]
   refine w64_w (by simp only [Int.ofNat_eq_natCast]; omega) (by simp only [Int.ofNat_eq_natCast]; omega) ?_
   refine sto1_w gg (by rw [c48_len]; decide) ?_
   rw [c48_set]
   have fp : Fr (fun a => a = g) H3 (H3.put g (.row (c48 (updA f 37 (.int .i64 (s'.took + Int.ofNat 1)))))) := (Fr.refl (fun a => a = g) _).put (.inl rfl) _
   have rb4 := rb.fr fp fun i a hi ha e => hi (rb.dis i 0 a ha ((q0 a).2 e))
   replace rb4 : RB (H3.put g (.row (c48 (updA f 37 (.int .i64 (s'.took + Int.ofNat 1)))))) { s' with took := s'.took + 1 } (updA f 37 (.int .i64 (s'.took + Int.ofNat 1))) Q := { rb4 with i37 := rfl, pl := pl_upd rb4.pl rfl }
   have gg4 := get_put H3 g (.row (c48 (updA f 37 (.int .i64 (s'.took + Int.ofNat 1)))))
   have hg4 : (H3.put g (.row (c48 (updA f 37 (.int .i64 (s'.took + Int.ofNat 1)))))).has g := hg
   have hgg : gc ≠ g := fun e => ngc3 ((hoQ gc).2 ⟨0, (q0 gc).2 e⟩)
   have gc4 := (get_put_ne (b := .row (c48 (updA f 37 (.int .i64 (s'.took + Int.ofNat 1))))) hgg).trans gc3
   generalize H3.put g (.row (c48 (updA f 37 (.int .i64 (s'.took + Int.ofNat 1))))) = H4 at *
   generalize updA f 37 (.int .i64 (s'.took + Int.ofNat 1)) = f4 at *
   obtain ⟨p, cc, z, e38, hcap, sr⟩ := rb4.s38
   refine getK_w gg4 (rowK_w gg4 (ldSl_w (by rw [c48_get _ (by decide), e38]) ?_))
   refine rowK_w gg4 (ldI_w (n := s'.beat) (by rw [c48_get _ (by decide), rb4.i2]) ?_)
   refine rowK_w gg4 (ldI_w (n := s'.id) (by rw [c48_get _ (by decide), rb4.i0]) ?_)
   refine rowK_w gc4 (ldG_we (ys := cmC c) (lb rfl) (by decide) rfl ?_)
   refine okK_w rfl (fL_w (okK_w rfl (fL_w (okK_w rfl ?_))))
   refine newK_w (elK_w (ys := tkC ⟨s'.beat, s'.id, i', c⟩) (get_new _ _) (lb rfl) rfl ?_)
   have h5' := Le.new H4 (.row (tkC ⟨s'.beat, s'.id, i', c⟩))
   change appA (H4.new (.row (tkC ⟨s'.beat, s'.id, i', c⟩))) _ _ _ _ _ _ _ _ _ = true
   generalize H4.new (.row (tkC ⟨s'.beat, s'.id, i', c⟩)) = H5 at *
   have hol := sm.ol
   have rb5 := rb4.fr (h5'.fr fun _ => False) fun _ _ _ _ h => h
   have eo' : ({ s' with took := s'.took + 1 } : RgSt).order.length = s.order.length := by rw [← eo]
   refine appS_w (sr.le h5') rfl (by decide) (by omega) (by omega) fun b H6 nb f6 sr6 => ?_
   have rb6 := rb5.ord (t := ⟨s'.beat, s'.id, i', c⟩) e38 f6 nb sr6
   have hnp : ¬ ownP p g := fun h => absurd (rb5.dis 38 0 g ((rb5.q38 g).2 (by rw [e38]; exact h)) ((q0 g).2 rfl)) (by decide)
   have gg6 := (f6.get _ (h5'.has _ hg4) hnp).trans ((h5'.get _ hg4).trans gg4)
   refine sto1_w gg6 (by rw [c48_len]; decide) ?_
   rw [c48_set]
   have fp7 : Fr (fun a => a = g) H6 (H6.put g (.row (c48 (updA f4 38 (.slice (.at b 0) (({ s' with took := s'.took + 1 } : RgSt).order.length + 1) (.of b 0) 25))))) := (Fr.refl (fun a => a = g) _).put (.inl rfl) _
   have q0' : ∀ a, updA Q 38 (ownP (.at b 0)) 0 a ↔ a = g := fun a => by rw [updA_ne _ _ (by decide)]; exact q0 a
   have rb7 := rb6.fr fp7 fun i a hi ha e => hi (rb6.dis i 0 a ha ((q0' a).2 e))
   have f45 : Fr O3 H3 H4 := fp.mono fun a e => (hoQ a).2 ⟨0, (q0 a).2 e⟩
   have f57 : Fr O3 H4 H6 := (h5'.fr O3).trans (f6.mono fun a h => (hoQ a).2 ⟨38, (rb5.q38 a).2 (by rw [e38]; exact h)⟩) fun _ h => .inl h
   have fall : Fr O H _ := (h12.fr O).trans (f3.trans ((f45.trans f57 fun _ h => .inl h).trans (fp7.mono fun a e => (hoQ a).2 ⟨0, (q0 a).2 e⟩) fun _ h => .inl h) o3) fun _ h => .inl h
   have := hk _ (fun a => ∃ i, updA Q 38 (ownP (.at b 0)) i a) fall
    (by
     unfold takeS
     rw [hE, if_neg (fun h => h hz), hs', hi']
     exact ⟨_, _, rb7, f6.has _ (h5'.has _ hg4), get_put _ _ _, q0', fun _ => Iff.rfl⟩)
    (fun a ⟨i, hi⟩ => by
     by_cases e38i : i = 38
     ·subst e38i
      rw [updA_same] at hi
      obtain ⟨o, e⟩ := hi
      cases e
      exact .inr fun h => nb (h5'.has _ (f45.has _ (f3.has _ (h12.has _ h))))
     ·rw [updA_ne _ _ e38i] at hi
      exact o3H a ((hoQ a).2 ⟨i, hi⟩))
   unfold takeI at this
   rw [hE, hz, if_neg (fun h => h rfl), hi'] at this
   exact this
 ·intro J hJ
  refine rowK_w gc2 (ldG_we (ys := cmC c) (lb rfl) (by decide) rfl ?_)
  refine hwat _ _ _ fun H3 h3 => arB_w ?_
  rw [hw]
  refine ifA_w (fun h => by cases h) (fun _ => ?_)
  have gc3 := (h3.get _ hgc2).trans gc2
  refine rowK_w gc3 (ldI_w (n := c.kind) rfl ?_)
  refine ifA_w (fun h => absurd (of_decide_eq_true h) h5) (fun _ => ?_)
  refine rowK_w gc3 (ldG_we (ys := cmC c) (lb rfl) (by decide) rfl ?_)
  refine hdoes H3 g s O c _ (rg.le (h12.trans h3)) sm fun H4 O4 f4 r4 o4 => ?_
  rw [tup2_]
  refine arI_w (arI_w (hJ _ _ ⟨O4, rfl, (h3.fr O).trans f4 fun _ h => .inl h, r4, fun a h => (o4 a h).imp (fun h => h) fun h h' => h (h3.has a h')⟩))
end Go.Proofs
end
section
namespace Go.Proofs
open Go Go.Vw Go.Vw.Ev
set_option linter.unusedVariables false
set_option linter.unusedSimpArgs false
theorem clone_w {sz bytes : Nat} {H : AH} {p : AP} {n z : Nat} {cs : List AS} {K : AV → AH → Bool} (sr : SR sz H p n z cs) (hb : n * bytes ≤ 140737488355328) (hn : n ≤ 1000000)
  (hk : ∀ H' p' c' z', Le H H' → SR sz H' p' n z' cs → CapOk c' n → (∀ a, ownP p' a → ¬ H.has a) → K (.s (.slice p' n c' z')) H' = true) :
  (fB (isNilP p) fun b1 => ifA b1 (K (AV.s (AS.slice AP.nil 0 (.lit 0) 1)) H) (newK H (.row []) fun g2 h3 => elK h3 p n sz fun ys4 => appA h3 (.at g2 0) 0 sz sz bytes ys4 n (.lit 0) fun p6 l6 c6 z6 h5 => K (AV.s (AS.slice p6 l6 c6 z6)) h5)) = true := by
 rw [fB_eq]
 rcases sr.2 with ⟨rfl, rfl⟩ | ⟨b, rfl, rfl, hb', gb⟩
 ·have h0 : cs = [] := List.length_eq_zero_iff.1 (by rw [sr.1]; simp)
  subst h0
  exact hk _ _ _ _ (Le.refl H) SR.nil (Nat.le_refl 0) fun a ⟨o, e⟩ => by cases e
 ·refine ifA_w (fun h => by cases h) (fun _ => ?_)
  refine new_w fun g H1 h1 hg ng gg => ?_
  refine elK_w (ys := cs) ((h1.get _ hb').trans gb) (by rw [sr.1]; omega) (by rw [List.drop_zero, ← sr.1, List.take_length]) ?_
  rcases Nat.eq_zero_or_pos n with h0 | h0
  ·subst h0
   have hc : cs = [] := List.length_eq_zero_iff.1 (by rw [sr.1]; simp)
   subst hc
   rw [appA_eq0]
   unfold appA0
   refine fN_w (okK_w (by rw [Nat.ble_eq_true_of_le (by omega), Nat.ble_eq_true_of_le (by omega)]; rfl) ?_)
   exact hk _ _ _ _ h1 ⟨by simp, .inr ⟨g, rfl, rfl, hg, gg⟩⟩ (Nat.le_refl 0) fun a ⟨o, e⟩ => by cases e; exact ng
  ·refine appS_w (sz := z) (⟨by simp, .inr ⟨g, rfl, rfl, hg, gg⟩⟩) sr.1 h0 (by rw [Nat.zero_add]; exact hb) (by omega) fun g' H2 ng' f2 sr2 => ?_
   rw [Nat.zero_add] at sr2 ⊢
   exact hk _ _ _ _ ⟨fun a ha => f2.has a (h1.has a ha), fun a ha => (f2.get a (h1.has a ha) fun ⟨o, e⟩ => ng (by cases e; exact ha)).trans (h1.get a ha)⟩ sr2 trivial fun a ⟨o, e⟩ ha => by cases e; exact ng' (h1.has _ ha)
def CCl (sz f : Nat) (cl : Cl) : Prop := ∀ H p n c z cs K, SR sz H p n z cs → n ≤ 1000000 → (∀ H' p' c' z', Le H H' → SR sz H' p' n z' cs → CapOk c' n → (∀ a, ownP p' a → ¬ H.has a) → K (.s (.slice p' n c' z')) H' = true) → cl f [.s (.slice p n c z)] H K = true
section
variable {lf : Nat} {cl : Cl} {H : AH} {p : AP} {n z : Nat} {c : ACap} {cs : List AS} {K : AV → AH → Bool}
theorem B_slices_Clone_Thing_ (sr : SR 11 H p n z cs) (hn : n ≤ 1000000) (hk : ∀ H' p' c' z', Le H H' → SR 11 H' p' n z' cs → CapOk c' n → (∀ a, ownP p' a → ¬ H.has a) → K (.s (.slice p' n c' z')) H' = true) : B_slices_Clone_Thing lf cl p n c z H K = true := clone_w sr (by omega) hn hk
theorem B_slices_Clone_Hand_ (sr : SR 2 H p n z cs) (hn : n ≤ 1000000) (hk : ∀ H' p' c' z', Le H H' → SR 2 H' p' n z' cs → CapOk c' n → (∀ a, ownP p' a → ¬ H.has a) → K (.s (.slice p' n c' z')) H' = true) : B_slices_Clone_Hand lf cl p n c z H K = true := clone_w sr (by omega) hn hk
theorem B_slices_Clone_Command_ (sr : SR 22 H p n z cs) (hn : n ≤ 1000000) (hk : ∀ H' p' c' z', Le H H' → SR 22 H' p' n z' cs → CapOk c' n → (∀ a, ownP p' a → ¬ H.has a) → K (.s (.slice p' n c' z')) H' = true) : B_slices_Clone_Command lf cl p n c z H K = true := clone_w sr (by omega) hn hk
theorem B_slices_Clone_Note_ (sr : SR 6 H p n z cs) (hn : n ≤ 1000000) (hk : ∀ H' p' c' z', Le H H' → SR 6 H' p' n z' cs → CapOk c' n → (∀ a, ownP p' a → ¬ H.has a) → K (.s (.slice p' n c' z')) H' = true) : B_slices_Clone_Note lf cl p n c z H K = true := clone_w sr (by omega) hn hk
theorem B_slices_Clone_Taken_ (sr : SR 25 H p n z cs) (hn : n ≤ 1000000) (hk : ∀ H' p' c' z', Le H H' → SR 25 H' p' n z' cs → CapOk c' n → (∀ a, ownP p' a → ¬ H.has a) → K (.s (.slice p' n c' z')) H' = true) : B_slices_Clone_Taken lf cl p n c z H K = true := clone_w sr (by omega) hn hk
end
theorem BK.le {H H' : AH} {g : Pn} {l : List Wt} (h : BK H g l) (k : Le H H') : BK H' g l := h.fr (k.fr fun _ => False) fun h => h
def CBkAll (cl : Cl) : Prop := ∀ H g l K, BK H g l → (∀ H', Le H H' → K (.agg (wtsC l)) H' = true) → cl i_watch_Book_All [.s (.ptr (.at g 0))] H K = true
theorem B_watch_Book_All_ {lf : Nat} {cl : Cl} {H : AH} {g : Pn} {l : List Wt} {K : AV → AH → Bool} (bk : BK H g l) (hk : ∀ H', Le H H' → K (.agg (wtsC l)) H' = true) : B_watch_Book_All lf cl (.at g 0) H K = true := by
 unfold B_watch_Book_All
 refine new_w fun gn H2 h2 hh2 n2 g2 => ?_
 have hl : (wtsC l).length = 28 := by rw [wtsC, flat_len wtC_len, bk.len]
 simp only [nilK_at, fN_eq, Nat.add_eq, Nat.add_zero]
 refine rowK_w ((h2.get _ bk.has).trans bk.get) (ldG_we (ys := wtsC l) (by rw [hl]; decide) (by decide) (by rw [List.drop_zero, ← hl, List.take_length]) ?_)
 refine stoN_we (ds := wtsC l) g2 hl (by simp) (by simp) (rowK_w (get_put _ _ _) (ldG_we (ys := wtsC l) (by rw [hl]; decide) (by decide) (by rw [List.drop_zero, ← hl, List.take_length]) ?_))
 exact hk _ (h2.put n2 _)
theorem flat_put {α : Type} {f : α → List AS} {sz k m : Nat} (hf : ∀ a, (f a).length = sz) {A B : List α} {w v : α} {i : Nat} {us : List AS} (h : A.length = i) (hkm : k + m ≤ sz) (he : (f w).take k ++ (us ++ (f w).drop (k + m)) = f v) :
  ((A ++ w :: B).flatMap f).take (i * sz + k) ++ (us ++ ((A ++ w :: B).flatMap f).drop (i * sz + k + m)) = (A ++ v :: B).flatMap f := by
 have la : (A.flatMap f).length = i * sz := by rw [flat_len hf, h]
 have e : ∀ X : List α, (A ++ X).flatMap f = A.flatMap f ++ X.flatMap f := fun X => List.flatMap_append
 rw [e, e, List.flatMap_cons, List.flatMap_cons, ← la, List.take_length_add_append, Nat.add_assoc, ← List.drop_drop (i := k + m) (j := (A.flatMap f).length), List.drop_left, List.take_append_of_le_length (by rw [hf]; omega), List.drop_append_of_le_length (by rw [hf]; omega), ← he]
 simp
end Go.Proofs
end
section
namespace Go.Proofs
open Go Go.Vw Go.Vw.Ev
set_option linter.unusedVariables false
set_option linter.unusedSimpArgs false
theorem index_w {α : Type} {f : α → List AS} {sz lf : Nat} {cl : Cl} (hf : ∀ a, (f a).length = sz) (hsz : 0 < sz) (hlf : 100000 ≤ lf) {H : AH} {p : AP} {n z : Nat} {c : ACap} {l : List α} {v : AV} {P : α → Bool} {K : AV → AH → Bool} (sr : SR sz H p n z (l.flatMap f)) (hn : n < 10000)
  (hp : ∀ a H' K, Le H H' → (∀ H'', Le H' H'' → K (.s (.bool (P a))) H'' = true) → callV PG cl none v [.agg (f a)] H' K = true)
  (hk : ∀ H' (r : Int), Le H H' → (0 ≤ r ↔ l.any P = true) → K (.s (.int .i64 r)) H' = true) :
  (loopX lf (fun (self3 : ((AP × Nat × ACap × Nat) × AV × Int × Int) → AH → Bool) (x1 : (AP × Nat × ACap × Nat) × AV × Int × Int) (h2 : AH) => pR x1 fun u4 r4 => pR u4 fun p4 r4a => pR r4a fun l4 r4b => pR r4b fun c4 z4 => pR r4 fun v5 r6 => pR r6 fun n7 r8 => fB (iLt r8 n7) fun b10 => ifA b10 (nilK p4 fun g11 o12 => idxK r8 l4 fun m13 => fN (Nat.add o12 (Nat.mul m13 sz)) fun o14 => rowK h2 g11 fun cs15 => ldG cs15 o14 sz fun cs16 => callV PG cl none (v5) [AV.agg cs16] h2 fun r17 h18 => asB r17 fun b19 => ifA b19 (K (AV.s (AS.int .i64 r8)) h18) (w64 (iAdd r8 (Int.ofNat 1)) fun n20 => self3 ((p4, l4, c4, z4), v5, n7, n20) h18)) (K (AV.s (AS.int .i64 (Int.negSucc 0))) h2)) ((p, n, c, z), v, (Int.ofNat n), (Int.ofNat 0)) H) = true := by
 have hl := hds_n hf hsz sr
 refine loopX_w (fun x Hx => Le H Hx ∧ ∃ i : Nat, x = ((p, n, c, z), v, (n : Int), (i : Int)) ∧ i ≤ n ∧ (l.take i).any P = false) (fun x => n - x.2.2.2.toNat) ⟨Le.refl _, 0, rfl, by omega, rfl⟩ (by simp; omega) ?_
 rintro self x Hx ⟨hL, i, rfl, hi, hno⟩ ih
 simp only [pR_, fB_eq, iLt_dec]
 refine ifA_w (fun hx => ?_) (fun hx => ?_)
 ·have hx : i < n := by have := of_decide_eq_true hx; omega
  have hxl : i < l.length := by omega
  obtain ⟨b, rfl, hb, gb⟩ := sr.at (by omega)
  simp only [nilK_at, fN_eq, Nat.add_eq, Nat.mul_eq, Nat.zero_add]
  refine idxK_w (by omega) (by omega) ?_
  rw [Int.toNat_natCast]
  have hln := sr.1
  have hbd : i * sz + sz ≤ n * sz := by rw [← Nat.succ_mul]; exact Nat.mul_le_mul_right _ hx
  refine rowK_w ((hL.get _ hb).trans gb) (ldG_we (ys := f (l[i]'hxl)) (by omega) hsz (flat_at hf l i hxl) ?_)
  refine hp _ _ _ hL fun H2 h2 => ?_
  show asB (.s (.bool _)) _ = true
  have tk : (l.take (i + 1)).any P = ((l.take i).any P || P l[i]) := by rw [List.take_succ_eq_append_getElem hxl, List.any_append]; simp
  refine (show ifA (P (l[i]'hxl)) _ _ = true from ifA_w (fun hb' => ?_) (fun hb' => ?_))
  ·exact hk _ _ (hL.trans h2) ⟨fun _ => List.any_eq_true.2 ⟨_, List.getElem_mem hxl, hb'⟩, fun _ => by omega⟩
  ·rw [iAdd_]
   exact w64_w (by simp only [Int.ofNat_eq_natCast]; omega) (by simp only [Int.ofNat_eq_natCast]; omega) (ih _ _ ⟨hL.trans h2, i + 1, by simp, by omega, by rw [tk, hno, hb']; rfl⟩ (by simp; omega))
 ·have hx : i = n := by have := of_decide_eq_false hx; omega
  rw [hx, ← hl, List.take_length] at hno
  exact hk _ _ hL ⟨fun h => absurd h (by decide), fun h => by rw [hno] at h; cases h⟩
noncomputable def wrongC (c : Cm) : Bool := !IsCm c || !watB c
def CWrong (cl : Cl) : Prop := ∀ c H K, (∀ H', Le H H' → K (.s (.bool (wrongC c))) H' = true) → cl i_note_Is_1 [.agg (cmC c)] H K = true
theorem B_note_Is_1_ {lf : Nat} {cl : Cl} (his : CIsCm cl) (hw : CWat cl) {c : Cm} {H : AH} {K : AV → AH → Bool} (hk : ∀ H', Le H H' → K (.s (.bool (wrongC c))) H' = true) : B_note_Is_1 lf cl (cmC c) H K = true := by
 unfold B_note_Is_1
 refine new_w fun g H1 h1 hg ng gg => ?_
 refine rowK_w gg (ldG_we (ys := cmC c) (lb rfl) (by decide) rfl ?_)
 refine his _ _ _ fun H2 h2 => arB_w ?_
 simp only [fB_eq]
 refine ifA_w (fun hx => ?_) (fun hx => ?_)
 ·have := hk _ (h1.trans h2)
  unfold wrongC at this
  rw [hx, Bool.true_or] at this
  exact this
 ·refine rowK_w ((h2.get _ hg).trans gg) (ldG_we (ys := cmC c) (lb rfl) (by decide) rfl ?_)
  refine hw _ _ _ fun H3 h3 => arB_w ?_
  have := hk _ ((h1.trans h2).trans h3)
  unfold wrongC at this
  rw [hx, Bool.false_or] at this
  exact this
def CContC (cl : Cl) : Prop := ∀ H p n c z (l : List Cm) K, SR 22 H p n z (l.flatMap cmC) → n < 10000 → (∀ H', Le H H' → K (.s (.bool (l.any wrongC))) H' = true) → cl i_slices_ContainsFunc_Command [.s (.slice p n c z), .s (.func i_note_Is_1 [] [])] H K = true
def CIndexC (cl : Cl) : Prop := ∀ H p n c z (l : List Cm) K, SR 22 H p n z (l.flatMap cmC) → n < 10000 → (∀ H' (r : Int), Le H H' → (0 ≤ r ↔ l.any wrongC = true) → K (.s (.int .i64 r)) H' = true) → cl i_slices_IndexFunc_Command [.s (.slice p n c z), .s (.func i_note_Is_1 [] [])] H K = true
theorem B_slices_IndexFunc_Command_ {lf : Nat} {cl : Cl} (hlf : 100000 ≤ lf) (hc : BoolF i_note_Is_1) (h1 : CWrong cl) {H : AH} {p : AP} {n z : Nat} {c : ACap} {l : List Cm} {K : AV → AH → Bool} (sr : SR 22 H p n z (l.flatMap cmC)) (hn : n < 10000)
  (hk : ∀ H' (r : Int), Le H H' → (0 ≤ r ↔ l.any wrongC = true) → K (.s (.int .i64 r)) H' = true) : B_slices_IndexFunc_Command lf cl p n c z (.s (.func i_note_Is_1 [] [])) H K = true := by
 obtain ⟨t, c1, c2⟩ := hc
 exact index_w cmC_len (by decide) hlf sr hn (fun a H' K hL hk => callV_bool c1 c2 (h1 a H' _ fun H2 h2 => arB_w (hk _ h2))) hk
theorem B_slices_ContainsFunc_Command_ {lf : Nat} {cl : Cl} (hix : CIndexC cl) {H : AH} {p : AP} {n z : Nat} {c : ACap} {l : List Cm} {K : AV → AH → Bool} (sr : SR 22 H p n z (l.flatMap cmC)) (hn : n < 10000)
  (hk : ∀ H', Le H H' → K (.s (.bool (l.any wrongC))) H' = true) : B_slices_ContainsFunc_Command lf cl p n c z (.s (.func i_note_Is_1 [] [])) H K = true := by
 unfold B_slices_ContainsFunc_Command
 refine hix _ _ _ _ _ _ _ sr hn fun H' r hL hr => arI_w ?_
 rw [fB_eq, iLe_dec]
 have e : decide (Int.ofNat 0 ≤ r) = l.any wrongC := by
  rw [Bool.eq_iff_iff, decide_eq_true_eq]
  exact hr
 rw [e]
 exact hk _ hL
def CHandedN (cl : Cl) : Prop := ∀ h g k H K, H.has g → H.get g = some (.row [.int .i64 k]) → (∀ H', Le H H' → K (.s (.bool (decide (h.1 = k)))) H' = true) → cl i_note_isThings_1 [.agg (hdC h), .s (.ptr (.at g 0))] H K = true
theorem B_note_isThings_1_ {lf : Nat} {cl : Cl} {h : Int × Int} {g : Pn} {k : Int} {H : AH} {K : AV → AH → Bool} (hh : H.has g) (hg : H.get g = some (.row [.int .i64 k])) (hk : ∀ H', Le H H' → K (.s (.bool (decide (h.1 = k)))) H' = true) :
  B_note_isThings_1 lf cl (hdC h) (.at g 0) H K = true := by
 unfold B_note_isThings_1
 refine new_w fun g1 H1 h1 hg1 ng1 gg1 => ?_
 refine rowK_w gg1 (ldI_w (n := h.1) rfl ?_)
 simp only [nilK_at]
 refine rowK_w ((h1.get _ hh).trans hg) (ldI_w (n := k) rfl ?_)
 rw [fB_eq, iEq_dec]
 exact hk _ h1
def isN (v : AV) (P : Int × Int → Bool) (H : AH) : Prop := ∃ g k, v = .s (.func i_note_isThings_1 [] [.ptr (.at g 0)]) ∧ H.has g ∧ H.get g = some (.row [.int .i64 k]) ∧ P = fun h => decide (h.1 = k)
theorem isN_pred {cl : Cl} (hc : BoolF i_note_isThings_1) (h1 : CHandedN cl) {v : AV} {P : Int × Int → Bool} {H : AH} (h : isN v P H) : PredH cl v P H := by
 obtain ⟨g, k, rfl, hh, hg, rfl⟩ := h
 obtain ⟨t, c1, c2⟩ := hc
 intro h H' K hL hk
 refine callV_bool c1 c2 ?_
 exact h1 h g k H' _ (hL.has _ hh) ((hL.get _ hh).trans hg) fun H2 h2 => arB_w (hk _ h2)
def pvB (prev : Option Int) (x : Int) : Bool := match prev with
 | none => true
 | some p => decide (p < x)
theorem pv_some (p x : Int) : pvB (some p) x = decide (p < x) := rfl
def hdsB (src k : Int) : Option Int → List (Int × Int) → Bool
 | _, [] => true
 | prev, h :: r => isC h.1 && (pvB prev h.1 && (decide (0 ≤ h.2) && (decide (h.2 < k) && (!decide (h.2 = src) && hdsB src k (some h.1) r))))
def CIsHands (cl : Cl) : Prop := ∀ H p n c z hs src k K, SR 2 H p n z (hdsC hs) → n < 10000 → (∀ H', Le H H' → K (.s (.bool (hdsB src k none hs))) H' = true) → cl i_note_isHands [.s (.slice p n c z), .s (.int .i64 src), .s (.int .i64 k)] H K = true
def lastOf {α : Type} (f : α → Int) (l : List α) (i : Nat) : Option Int := if i = 0 then none else (l[i - 1]?).map f
theorem lastOf_succ {α : Type} (f : α → Int) {l : List α} {i : Nat} (h : i < l.length) : lastOf f l (i + 1) = some (f l[i]) := by
 unfold lastOf
 rw [if_neg (by omega)]
 simp [h]
theorem B_note_isHands_ {lf : Nat} {cl : Cl} (hlf : 100000 ≤ lf) (his : CIsC cl) {H : AH} {p : AP} {n z : Nat} {c : ACap} {hs : List (Int × Int)} {src k : Int} {K : AV → AH → Bool} (sr : SR 2 H p n z (hdsC hs)) (hn : n < 10000)
  (hk : ∀ H', Le H H' → K (.s (.bool (hdsB src k none hs))) H' = true) : B_note_isHands lf cl p n c z src k H K = true := by
 unfold B_note_isHands
 have hl := hds_n hdC_len (by decide) sr
 refine loopX_w (fun x Hx => Le H Hx ∧ ∃ i : Nat, x = ((p, n, c, z), src, k, (p, n, c, z), (n : Int), (i : Int)) ∧ i ≤ n ∧ hdsB src k none hs = hdsB src k (lastOf (·.1) hs i) (hs.drop i)) (fun x => n - x.2.2.2.2.2.toNat) ⟨Le.refl _, 0, rfl, by omega, rfl⟩ (by simp; omega) ?_
 rintro self x Hx ⟨hL, i, rfl, hi, hB⟩ ih
 simp only [pR_, fB_eq, iLt_dec, iLe_dec, iEq_dec]
 refine ifA_w (fun hx => ?_) (fun hx => ?_)
 ·have hx : i < n := by have := of_decide_eq_true hx; omega
  have hxl : i < hs.length := by omega
  have hsucc := lastOf_succ (fun h : Int × Int => h.1) hxl
  rw [List.drop_eq_getElem_cons hxl, hdsB] at hB
  obtain ⟨b, rfl, hb, gb⟩ := sr.at (by omega)
  have hln := sr.1
  have gbx : ∀ {Hy}, Le H Hy → Hy.get b = some (.row (hdsC hs)) := fun k => (k.get _ hb).trans gb
  simp only [nilK_at, fN_eq, Nat.add_eq, Nat.mul_eq, Nat.zero_add, Nat.add_zero]
  refine idxK_w (by omega) (by omega) ?_
  rw [Int.toNat_natCast]
  refine rowK_w (gbx hL) (ldG_we (ys := hdC hs[i]) (by omega) (by decide) (flat_at hdC_len hs i hxl) ?_)
  refine tmp_w rfl rfl fun g1 H1 h1 hg1 ng1 gg1 => ?_
  refine rowK_w gg1 (ldI_w (n := (hs[i]).1) rfl ?_)
  refine his _ _ _ (arB_w ?_)
  have hL1 := hL.trans h1
  have no : hdsB src k none hs = false → K (.s (.bool false)) H1 = true := fun e => by have := hk _ hL1; rwa [e] at this
  refine ifA_w (fun hc => no (by rw [hB, show isC (hs[i]).1 = false by simpa using hc]; rfl)) (fun hc => ?_)
  have hc : isC (hs[i]).1 = true := by simpa using hc
  rw [hc, Bool.true_and] at hB
  have rest : pvB (lastOf (fun h : Int × Int => h.1) hs i) (hs[i]).1 = true → ∀ hB' : hdsB src k none hs = (decide (0 ≤ (hs[i]).2) && (decide ((hs[i]).2 < k) && (!decide ((hs[i]).2 = src) && hdsB src k (some (hs[i]).1) (hs.drop (i + 1))))),
    rowK H1 g1 (fun cs50 => ldI cs50 1 .i64 fun n51 => ifA (decide (n51 < Int.ofNat 0)) (K (AV.s (AS.bool false)) H1) (rowK H1 g1 fun cs53 => ldI cs53 1 .i64 fun n54 => ifA (decide (k ≤ n54)) (K (AV.s (AS.bool false)) H1) (rowK H1 g1 fun cs56 => ldI cs56 1 .i64 fun n57 => ifA (decide (n57 = src)) (K (AV.s (AS.bool false)) H1) (w64 (iAdd (i : Int) (Int.ofNat 1)) fun n60 => self ((.at b 0, n, c, z), src, k, (.at b 0, n, c, z), (n : Int), n60) H1)))) = true := by
   intro _ hB'
   refine rowK_w gg1 (ldI_w (n := (hs[i]).2) rfl ?_)
   refine ifA_w (fun h2 => no (by rw [hB', decide_eq_false (show ¬ 0 ≤ (hs[i]).2 from Int.not_le.2 (of_decide_eq_true h2))]; rfl)) (fun h2 => ?_)
   refine rowK_w gg1 (ldI_w (n := (hs[i]).2) rfl ?_)
   refine ifA_w (fun h3 => no (by rw [hB', decide_eq_false (show ¬ (hs[i]).2 < k from Int.not_lt.2 (of_decide_eq_true h3)), Bool.false_and, Bool.and_false])) (fun h3 => ?_)
   refine rowK_w gg1 (ldI_w (n := (hs[i]).2) rfl ?_)
   refine ifA_w (fun h4 => no (by rw [hB', h4]; simp)) (fun h4 => ?_)
   rw [iAdd_]
   refine w64_w (by simp only [Int.ofNat_eq_natCast]; omega) (by simp only [Int.ofNat_eq_natCast]; omega) (ih _ _ ⟨hL1, i + 1, by simp, by omega, ?_⟩ (by simp; omega))
   rw [hB', h4, decide_eq_true (show 0 ≤ (hs[i]).2 from Int.not_lt.1 (of_decide_eq_false h2)), decide_eq_true (show (hs[i]).2 < k from Int.not_le.1 (of_decide_eq_false h3)), hsucc]; rfl
  refine ifA_w (fun h0 => ?_) (fun h0 => ?_)
  ·have h0 : 0 < i := by have := of_decide_eq_true h0; simp only [Int.ofNat_eq_natCast] at this; omega
   refine rowK_w gg1 (ldI_w (n := (hs[i]).1) rfl ?_)
   rw [iSub_]
   refine w64_w (by simp only [Int.ofNat_eq_natCast]; omega) (by simp only [Int.ofNat_eq_natCast]; omega) ?_
   have ei : (i : Int) - Int.ofNat 1 = ((i - 1 : Nat) : Int) := by simp only [Int.ofNat_eq_natCast]; omega
   rw [ei]
   refine idxK_w (by omega) (by omega) ?_
   rw [Int.toNat_natCast]
   have hx1 : i - 1 < hs.length := by omega
   have elast : lastOf (fun h : Int × Int => h.1) hs i = some (hs[i - 1]).1 := by unfold lastOf; rw [if_neg (by omega)]; simp [hx1]
   refine rowK_w (gbx hL1) (ldI_w (n := (hs[i - 1]).1) (by have := flat_cell (k := 0) hdC_len hx1 (by decide); rw [Nat.add_zero] at this; exact this) ?_)
   rw [elast] at hB
   refine ifA_w (fun h1' => no (by rw [hB, pv_some, decide_eq_false (Int.not_lt.2 (of_decide_eq_true h1'))]; rfl)) (fun h1' => ?_)
   have hp : pvB (lastOf (fun h : Int × Int => h.1) hs i) (hs[i]).1 = true := by rw [elast]; exact decide_eq_true (Int.not_le.1 (of_decide_eq_false h1'))
   refine rest hp ?_
   rw [← elast, hp, Bool.true_and] at hB
   exact hB
  ·have h0 : i = 0 := by have := of_decide_eq_false h0; simp only [Int.ofNat_eq_natCast] at this; omega
   have hp : pvB (lastOf (fun h : Int × Int => h.1) hs i) (hs[i]).1 = true := by unfold lastOf; rw [if_pos h0]; rfl
   refine rest hp ?_
   rw [hp, Bool.true_and] at hB
   exact hB
 ·have hx : i = n := by have := of_decide_eq_false hx; omega
  rw [hx, ← hl, List.drop_length] at hB
  have := hk _ hL
  rw [hB] at this
  exact this
def thsB (hs : List (Int × Int)) (inn : Bool) : Option Int → List Th → Bool
 | _, [] => true
 | prev, t :: r => IsTh t && (pvB prev t.id && ((handB hs (ofC t.pt) == inn) && thsB hs inn (some t.id) r))
def CIsThings (cl : Cl) : Prop := ∀ H p n c z ts p' n' c' z' hs inn K, SR 11 H p n z (thsC ts) → SR 2 H p' n' z' (hdsC hs) → n < 10000 → n' < 10000 → (∀ H', Le H H' → K (.s (.bool (thsB hs inn none ts && decide (ts.length ≤ 200)))) H' = true) →
 cl i_note_isThings [.s (.slice p n c z), .s (.slice p' n' c' z'), .s (.bool inn)] H K = true
theorem B_note_isThings_ {lf : Nat} {cl : Cl} (hlf : 100000 ≤ lf) (hof : COfC cl) (hct : CContH isN cl) (his : CThIs cl) {H : AH} {p p' : AP} {n z n' z' : Nat} {c c' : ACap} {ts : List Th} {hs : List (Int × Int)} {inn : Bool} {K : AV → AH → Bool} (sr : SR 11 H p n z (thsC ts)) (sh : SR 2 H p' n' z' (hdsC hs)) (hn : n < 10000) (hn' : n' < 10000)
  (hk : ∀ H', Le H H' → K (.s (.bool (thsB hs inn none ts && decide (ts.length ≤ 200)))) H' = true) : B_note_isThings lf cl p n c z p' n' c' z' inn H K = true := by
 unfold B_note_isThings
 have hl := hds_n thC_len' (by decide) sr
 refine loopX_w (fun x Hx => Le H Hx ∧ ∃ i : Nat, x = ((p, n, c, z), (p', n', c', z'), inn, (p, n, c, z), (n : Int), (i : Int)) ∧ i ≤ n ∧ thsB hs inn none ts = thsB hs inn (lastOf (·.id) ts i) (ts.drop i)) (fun x => n - x.2.2.2.2.2.toNat) ⟨Le.refl _, 0, rfl, by omega, rfl⟩ (by simp; omega) ?_
 rintro self x Hx ⟨hL, i, rfl, hi, hB⟩ ih
 simp only [pR_, fB_eq, iLt_dec, iLe_dec]
 refine ifA_w (fun hx => ?_) (fun hx => ?_)
 ·have hx : i < n := by have := of_decide_eq_true hx; omega
  have hxl : i < ts.length := by omega
  have hsucc := lastOf_succ (fun t : Th => t.id) hxl
  rw [List.drop_eq_getElem_cons hxl, thsB] at hB
  obtain ⟨b, rfl, hb, gb⟩ := sr.at (by omega)
  have hln := sr.1
  have gbx : ∀ {Hy}, Le H Hy → Hy.get b = some (.row (thsC ts)) := fun k => (k.get _ hb).trans gb
  simp only [nilK_at, fN_eq, Nat.add_eq, Nat.mul_eq, Nat.zero_add, Nat.add_zero]
  refine idxK_w (by omega) (by omega) ?_
  rw [Int.toNat_natCast]
  refine rowK_w (gbx hL) (ldG_we (ys := thC ts[i]) (by omega) (by decide) (flat_at thC_len' ts i hxl) ?_)
  refine tmp_w rfl rfl fun g1 H1 h1 hg1 ng1 gg1 => ?_
  refine rowK_w gg1 (ldG_we (ys := ptC (ts[i]).pt) (lb rfl) (by decide) rfl ?_)
  refine hof _ _ _ fun H2 h2 => ?_
  rw [tup2_]
  refine arI_w (arI_w ?_)
  have hL2 := (hL.trans h1).trans h2
  refine new_w fun g2 H3 h3 hg2 ng2 gg2 => ?_
  refine sto1_w gg2 (by simp) ?_
  have h3' : Le H2 (H3.put g2 (.row [.int .i64 (ofC (ts[i]).pt)])) := h3.put ng2 _
  have gg3 := get_put H3 g2 (.row [.int .i64 (ofC (ts[i]).pt)])
  have hg3 : (H3.put g2 (.row [.int .i64 (ofC (ts[i]).pt)])).has g2 := hg2
  change cl _ _ (H3.put g2 (.row [.int .i64 (ofC (ts[i]).pt)])) _ = true
  generalize H3.put g2 (.row [.int .i64 (ofC (ts[i]).pt)]) = H4 at *
  have hL4 := hL2.trans h3'
  refine hct _ _ _ _ _ _ _ _ _ (sh.le hL4) hn' ⟨g2, ofC (ts[i]).pt, rfl, hg3, gg3, rfl⟩ fun H5 h5 => arB_w ?_
  have hL5 := hL4.trans h5
  have gg1' := ((h2.trans (h3'.trans h5)).get _ hg1).trans gg1
  have hg1' := (h2.trans (h3'.trans h5)).has _ hg1
  refine rowK_w gg1' (ldG_we (ys := thC ts[i]) (lb rfl) (by decide) rfl ?_)
  refine his _ _ _ fun H6 h6 => arB_w ?_
  have hL6 := hL5.trans h6
  have gg6 := (h6.get _ hg1').trans gg1'
  have no : thsB hs inn none ts = false → K (.s (.bool false)) H6 = true := fun e => by have := hk _ hL6; rw [e, Bool.false_and] at this; exact this
  refine ifA_w (fun hc => no (by rw [hB, show IsTh ts[i] = false by simpa using hc]; rfl)) (fun hc => ?_)
  have hc : IsTh ts[i] = true := by simpa using hc
  rw [hc, Bool.true_and] at hB
  change thsB hs inn none ts = (pvB (lastOf (fun t : Th => t.id) ts i) (ts[i]).id && ((handB hs (ofC (ts[i]).pt) == inn) && thsB hs inn (some (ts[i]).id) (ts.drop (i + 1)))) at hB
  change ifA _ (rowK H6 g1 fun cs43 => ldI cs43 0 .i64 fun n44 => w64 (iSub (i : Int) (Int.ofNat 1)) fun n45 => idxK n45 n fun m48 => rowK H6 b fun cs51 => ldI cs51 (m48 * 11) .i64 fun n52 => ifA (decide (n44 ≤ n52)) (K (AV.s (AS.bool false)) H6) (ifA (!bEq (handB hs (ofC (ts[i]).pt)) inn) (K (AV.s (AS.bool false)) H6) (w64 (iAdd (i : Int) (Int.ofNat 1)) fun n56 => self ((.at b 0, n, c, z), (p', n', c', z'), inn, (.at b 0, n, c, z), (n : Int), n56) H6))) (ifA (!bEq (handB hs (ofC (ts[i]).pt)) inn) (K (AV.s (AS.bool false)) H6) (w64 (iAdd (i : Int) (Int.ofNat 1)) fun n57 => self ((.at b 0, n, c, z), (p', n', c', z'), inn, (.at b 0, n, c, z), (n : Int), n57) H6)) = true
  have ebe : bEq (handB hs (ofC (ts[i]).pt)) inn = (handB hs (ofC (ts[i]).pt) == inn) := by cases handB hs (ofC (ts[i]).pt) <;> cases inn <;> rfl
  rw [ebe]
  have rest : pvB (lastOf (fun t : Th => t.id) ts i) (ts[i]).id = true → (ifA (!(handB hs (ofC (ts[i]).pt) == inn)) (K (AV.s (AS.bool false)) H6) (w64 (iAdd (i : Int) (Int.ofNat 1)) fun n56 => self ((.at b 0, n, c, z), (p', n', c', z'), inn, (.at b 0, n, c, z), (n : Int), n56) H6)) = true := by
   intro hp
   rw [hp, Bool.true_and] at hB
   refine ifA_w (fun h2 => no (by rw [hB, show (handB hs (ofC (ts[i]).pt) == inn) = false by simpa using h2]; rfl)) (fun h2 => ?_)
   have h2 : (handB hs (ofC (ts[i]).pt) == inn) = true := by
    cases e : (handB hs (ofC (ts[i]).pt) == inn) with
    | true => rfl
    | false => rw [e] at h2; cases h2
   rw [iAdd_]
   refine w64_w (by simp only [Int.ofNat_eq_natCast]; omega) (by simp only [Int.ofNat_eq_natCast]; omega) (ih _ _ ⟨hL6, i + 1, by simp, by omega, ?_⟩ (by simp; omega))
   rw [hB, h2, hsucc]; rfl
  refine ifA_w (fun h0 => ?_) (fun h0 => ?_)
  ·have h0 : 0 < i := by have := of_decide_eq_true h0; simp only [Int.ofNat_eq_natCast] at this; omega
   refine rowK_w gg6 (ldI_w (n := (ts[i]).id) rfl ?_)
   rw [iSub_]
   refine w64_w (by simp only [Int.ofNat_eq_natCast]; omega) (by simp only [Int.ofNat_eq_natCast]; omega) ?_
   have ei : (i : Int) - Int.ofNat 1 = ((i - 1 : Nat) : Int) := by simp only [Int.ofNat_eq_natCast]; omega
   rw [ei]
   refine idxK_w (by omega) (by omega) ?_
   rw [Int.toNat_natCast]
   have hx1 : i - 1 < ts.length := by omega
   have elast : lastOf (fun t : Th => t.id) ts i = some (ts[i - 1]).id := by unfold lastOf; rw [if_neg (by omega)]; simp [hx1]
   refine rowK_w (gbx hL6) (ldI_w (n := (ts[i - 1]).id) (by have := flat_cell (k := 0) thC_len' hx1 (by decide); rw [Nat.add_zero] at this; exact this) ?_)
   refine ifA_w (fun h1' => no (by rw [hB, elast, pv_some, decide_eq_false (Int.not_lt.2 (of_decide_eq_true h1'))]; rfl)) (fun h1' => ?_)
   exact rest (by rw [elast]; exact decide_eq_true (Int.not_le.1 (of_decide_eq_false h1')))
  ·have h0 : i = 0 := by have := of_decide_eq_false h0; simp only [Int.ofNat_eq_natCast] at this; omega
   exact rest (by unfold lastOf; rw [if_pos h0]; rfl)
 ·have hx : i = n := by have := of_decide_eq_false hx; omega
  rw [hx, ← hl, List.drop_length] at hB
  have := hk _ hL
  rw [hB, hl] at this
  change K _ _ = true at this
  have e : decide (Int.ofNat n ≤ Int.ofNat 200) = decide (n ≤ 200) := by congr 1; simp only [Int.ofNat_eq_natCast]; exact propext (by omega)
  rw [e]
  exact this
end Go.Proofs
end
section
namespace Go.Proofs
open Go Go.Vw Go.Vw.Ev
set_option linter.unusedVariables false
set_option linter.unusedSimpArgs false
structure Rw where
 src : Int
 beat : Int
 m : AS
 h : AS
 g : AS
 w : AS
def rwC (r : Rw) : List AS := [.int .i64 r.src, .int .i64 r.beat, r.m, r.h, r.g, r.w]
theorem rwC_len (r : Rw) : (rwC r).length = 6 := rfl
structure NOf (H : AH) (r : Rw) (nt : Nt) : Prop where
 src : r.src = nt.src
 beat : r.beat = nt.beat
 m : SF 11 thC H r.m nt.moved
 h : SF 2 hdC H r.h nt.hands
 g : SF 11 thC H r.g nt.given
 w : SF 22 cmC H r.w nt.watch
def ownNt (r : Rw) (a : Pn) : Prop := ownA r.m a ∨ ownA r.h a ∨ ownA r.g a ∨ ownA r.w a
theorem NOf.fr {F : Pn → Prop} {H H' : AH} {r : Rw} {nt : Nt} (n : NOf H r nt) (k : Fr F H H') (hf : ∀ a, ownNt r a → ¬ F a) : NOf H' r nt :=
 ⟨n.src, n.beat, n.m.fr k fun a h => hf a (.inl h), n.h.fr k fun a h => hf a (.inr (.inl h)), n.g.fr k fun a h => hf a (.inr (.inr (.inl h))), n.w.fr k fun a h => hf a (.inr (.inr (.inr h)))⟩
theorem NOf.le {H H' : AH} {r : Rw} {nt : Nt} (n : NOf H r nt) (k : Le H H') : NOf H' r nt := n.fr (k.fr fun _ => False) fun _ _ h => h
def keyS (n : Int) : Int := min (max n (-1)) 4
def CCmpN (cl : Cl) : Prop := ∀ a b H K, (∀ H', Le H H' → K (.s (.int .i64 (keyS a.src - keyS b.src))) H' = true) → cl i_region_Region_heard_1 [.agg (rwC a), .agg (rwC b)] H K = true
theorem B_region_Region_heard_1_ {lf : Nat} {cl : Cl} {a b : Rw} {H : AH} {K : AV → AH → Bool} (hk : ∀ H', Le H H' → K (.s (.int .i64 (keyS a.src - keyS b.src))) H' = true) : B_region_Region_heard_1 lf cl (rwC a) (rwC b) H K = true := by
 unfold B_region_Region_heard_1
 refine new_w fun g1 H1 h1 hg1 ng1 gg1 => ?_
 refine new_w fun g2 H2 h2 hg2 ng2 gg2 => ?_
 refine rowK_w ((h2.get _ hg1).trans gg1) (ldI_w (n := a.src) rfl ?_)
 simp only [mxA_, mnA_, fI_eq, iSub_]
 refine rowK_w gg2 (ldI_w (n := b.src) rfl ?_)
 show w64 (keyS a.src - keyS b.src) _ = true
 refine w64_w (by unfold keyS; omega) (by unfold keyS; omega) ?_
 exact hk _ (h1.trans h2)
def IntF (f : Nat) : Prop := ∃ t, callable PG f = some [t] ∧ PG.underlying t = some (.int .i64)
theorem callV_int {f : Nat} {first cap : List AS} {cl : Cl} {args : List AV} {H : AH} {K : AV → AH → Bool} (hc : IntF f)
  (h : cl f (first.map .s ++ (args ++ cap.map .s)) H (fun r H => arI r .i64 fun n => K (.s (.int .i64 n)) H) = true) : callV PG cl none (.s (.func f first cap)) args H K = true := by
 obtain ⟨t, c1, c2⟩ := hc
 unfold callV
 dsimp only
 rw [c1, ap_eq, ap_eq]
 dsimp only
 simp only [shA, tyA, c2]
 exact h
def insRv (x : Rw) : List Rw → List Rw
 | [] => [x]
 | y :: r => if keyS x.src < keyS y.src then y :: insRv x r else x :: y :: r
def srtRv : List Rw → List Rw → List Rw
 | acc, [] => acc
 | acc, x :: r => srtRv (insRv x acc) r
def srtN (l : List Rw) : List Rw := (srtRv [] l).reverse
def CInsN (cl : Cl) : Prop := ∀ H b n c l K, l.length = n → 0 < n → n < 1000 → H.has b → H.get b = some (.row (l.flatMap rwC)) → (∀ H', Fr (fun a => a = b) H H' → H'.get b = some (.row ((srtN l).flatMap rwC)) → K (.tup []) H' = true) →
 cl i_slices_insertionSortCmpFunc_Note [.s (.slice (.at b 0) n c 6), .s (.int .i64 (Int.ofNat 0)), .s (.int .i64 (Int.ofNat n)), .s (.func i_region_Region_heard_1 [] [])] H K = true
theorem insRv_len (x : Rw) : ∀ l : List Rw, (insRv x l).length = l.length + 1
 | [] => rfl
 | y :: r => by unfold insRv; split <;> simp [insRv_len x r]
theorem srtRv_len : ∀ (l acc : List Rw), (srtRv acc l).length = acc.length + l.length
 | [], acc => by simp [srtRv]
 | x :: r, acc => by rw [srtRv, srtRv_len r, insRv_len, List.length_cons]; omega
theorem srtN_len (l : List Rw) : (srtN l).length = l.length := by unfold srtN; rw [List.length_reverse, srtRv_len]; simp
theorem B_slices_insertionSortCmpFunc_Note_ {lf : Nat} {cl : Cl} (hlf : 100000 ≤ lf) (hif : IntF i_region_Region_heard_1) (hcmp : CCmpN cl) {H : AH} {b : Pn} {n : Nat} {c : ACap} {l : List Rw} {K : AV → AH → Bool} (hl : l.length = n) (hpos : 0 < n) (hn : n < 1000) (hb : H.has b) (gb : H.get b = some (.row (l.flatMap rwC)))
  (hk : ∀ H', Fr (fun a => a = b) H H' → H'.get b = some (.row ((srtN l).flatMap rwC)) → K (.tup []) H' = true) :
  B_slices_insertionSortCmpFunc_Note lf cl (.at b 0) n c 6 (Int.ofNat 0) (Int.ofNat n) (.s (.func i_region_Region_heard_1 [] [])) H K = true := by
 unfold B_slices_insertionSortCmpFunc_Note
 rw [iAdd_]
 refine w64_w (by decide) (by decide) ?_
 refine loopX_w (fun x Hx => ∃ (i : Nat) (P : List Rw), x = ((.at b 0, n, c, 6), Int.ofNat 0, (n : Int), .s (.func i_region_Region_heard_1 [] []), (i : Int)) ∧ 1 ≤ i ∧ i ≤ n ∧ Fr (fun a => a = b) H Hx ∧ P.length = i ∧ Hx.get b = some (.row ((P.reverse ++ l.drop i).flatMap rwC)) ∧ srtRv [] l = srtRv P (l.drop i)) (fun x => n - x.2.2.2.2.toNat)
  ⟨1, (l.take 1), rfl, by omega, by omega, Fr.refl _ _, by simp; omega, ?_, ?_⟩ (by simp; omega) ?_
 ·cases l with
  | nil => simp at hl; omega
  | cons x r => exact gb
 ·cases l with
  | nil => simp at hl; omega
  | cons x r => rfl
 rintro self x Hx ⟨i, P, rfl, h1, hi, fx, hP, gx, hS⟩ ih
 simp only [pR_, fB_eq, iLt_dec]
 refine ifA_w (fun hx => ?_) (fun hx => ?_)
 ·have hx : i < n := by have := of_decide_eq_true hx; omega
  have hxl : i < l.length := by omega
  have ed := List.drop_eq_getElem_cons hxl
  rw [ed] at gx hS
  rw [srtRv] at hS
  generalize l[i] = e at *
  refine loopX_w (fun y Hy => ∃ (j : Nat) (A B : List Rw), y = ((.at b 0, n, c, 6), Int.ofNat 0, (n : Int), .s (.func i_region_Region_heard_1 [] []), (i : Int), (j : Int)) ∧ A.length = j ∧ A.length + B.length = i ∧ Fr (fun a => a = b) H Hy ∧ Hy.get b = some (.row ((A ++ e :: (B ++ l.drop (i + 1))).flatMap rwC)) ∧ insRv e P = B.reverse ++ insRv e A.reverse) (fun y => y.2.2.2.2.2.toNat)
   ⟨i, P.reverse, [], rfl, by simp [hP], by simp [hP], fx, by simpa using gx, by simp⟩ (by simp; omega) ?_
  rintro self2 y Hy ⟨j, A, B, rfl, hA, hAB, fy, gy, hI⟩ ih2
  simp only [pR_, fB_eq, iLt_dec]
  have bk : H.has b → Hy.has b := fy.has b
  have stop : ∀ {Hz : AH}, Fr (fun a => a = b) H Hz → Hz.get b = some (.row ((A ++ e :: (B ++ l.drop (i + 1))).flatMap rwC)) → insRv e A.reverse = e :: A.reverse →
    w64 (iAdd (i : Int) (Int.ofNat 1)) (fun n70 => self ((.at b 0, n, c, 6), Int.ofNat 0, (n : Int), .s (.func i_region_Region_heard_1 [] []), n70) Hz) = true := by
   intro Hz fz gz he
   rw [iAdd_]
   refine w64_w (by simp only [Int.ofNat_eq_natCast]; omega) (by simp only [Int.ofNat_eq_natCast]; omega) (ih _ _ ⟨i + 1, insRv e P, by simp, by omega, by omega, fz, by rw [insRv_len, hP], ?_, hS⟩ (by simp; omega))
   rw [hI, he, gz]
   simp
  refine ifA_w (fun hx2 => ?_) (fun hx2 => ?_)
  ·have hj : 0 < j := by have := of_decide_eq_true hx2; simp only [Int.ofNat_eq_natCast] at this; omega
   obtain ⟨A', y', rfl⟩ : ∃ A' y', A = A' ++ [y'] := by
    have hne : A ≠ [] := fun h => by rw [h] at hA; simp at hA; omega
    exact ⟨A.dropLast, A.getLast hne, (List.dropLast_concat_getLast hne).symm⟩
   have hA' : A'.length = j - 1 := by simp at hA; omega
   have hlen : ((A' ++ [y'] ++ e :: (B ++ l.drop (i + 1))).flatMap rwC).length = n * 6 := by
    rw [flat_len rwC_len]
    simp only [List.length_append, List.length_cons, List.length_drop, List.length_nil] at *
    congr 1
    omega
   have at0 : (((A' ++ [y'] ++ e :: (B ++ l.drop (i + 1))).flatMap rwC).drop (j * 6)).take 6 = rwC e := by
    have hj' : j < (A' ++ [y'] ++ e :: (B ++ l.drop (i + 1))).length := by simp at hA ⊢; omega
    rw [flat_at rwC_len _ j hj', List.getElem_append_right (by omega)]
    simp [hA]
   have at1 : (((A' ++ [y'] ++ e :: (B ++ l.drop (i + 1))).flatMap rwC).drop ((j - 1) * 6)).take 6 = rwC y' := by
    have hj' : j - 1 < (A' ++ [y'] ++ e :: (B ++ l.drop (i + 1))).length := by simp at hA ⊢; omega
    rw [flat_at rwC_len _ (j - 1) hj', List.getElem_append_left (by omega), List.getElem_append_right (by omega)]
    simp [hA']
   simp only [nilK_at, fN_eq, Nat.add_eq, Nat.mul_eq, Nat.zero_add, iSub_]
   refine idxK_w (by omega) (by omega) ?_
   rw [Int.toNat_natCast]
   refine rowK_w gy (ldG_we (ys := rwC e) (by omega) (by decide) at0 ?_)
   have ej : (j : Int) - Int.ofNat 1 = ((j - 1 : Nat) : Int) := by simp only [Int.ofNat_eq_natCast]; omega
   rw [ej]
   refine w64_w (by omega) (by omega) ?_
   refine idxK_w (by omega) (by omega) ?_
   rw [Int.toNat_natCast]
   refine rowK_w gy (ldG_we (ys := rwC y') (by omega) (by decide) at1 ?_)
   refine callV_int hif (hcmp e y' _ _ fun H2 h2 => arI_w ?_)
   show fB (iLt (keyS e.src - keyS y'.src) (Int.ofNat 0)) _ = true
   rw [fB_eq, iLt_dec]
   have gy2 := (h2.get _ (bk hb)).trans gy
   have f2 : Fr (fun a => a = b) H H2 := fy.trans (h2.fr _) fun _ h => .inl h
   show ifA _ _ _ = true
   refine ifA_w (fun hlt => ?_) (fun hlt => ?_)
   ·have hlt : keyS e.src < keyS y'.src := by have := of_decide_eq_true hlt; simp only [Int.ofNat_eq_natCast] at this; omega
    refine w64_w (by omega) (by omega) (w64_w (by omega) (by omega) ?_)
    refine idxK_w (by omega) (by omega) ?_
    rw [Int.toNat_natCast]
    refine rowK_w gy2 (ldG_we (ys := rwC y') (by omega) (by decide) at1 ?_)
    refine idxK_w (by omega) (by omega) ?_
    rw [Int.toNat_natCast]
    refine rowK_w gy2 (ldG_we (ys := rwC e) (by omega) (by decide) at0 ?_)
    refine idxK_w (by omega) (by omega) ?_
    rw [Int.toNat_natCast]
    have p1 := flat_put (f := rwC) (k := 0) (m := 6) rwC_len (A := A' ++ [y']) (B := B ++ l.drop (i + 1)) (w := e) (v := y') (us := rwC y') hA (by decide) (by simp [rwC])
    refine stoN_we (ds := (A' ++ [y'] ++ y' :: (B ++ l.drop (i + 1))).flatMap rwC) gy2 rfl (by omega) p1 ?_
    refine idxK_w (by omega) (by omega) ?_
    rw [Int.toNat_natCast]
    have e2 : A' ++ [y'] ++ y' :: (B ++ l.drop (i + 1)) = A' ++ y' :: (y' :: (B ++ l.drop (i + 1))) := by simp
    have p2 := flat_put (f := rwC) (k := 0) (m := 6) rwC_len (A := A') (B := y' :: (B ++ l.drop (i + 1))) (w := y') (v := e) (us := rwC e) hA' (by decide) (by simp [rwC])
    rw [← e2] at p2
    refine stoN_we (ds := (A' ++ e :: (y' :: (B ++ l.drop (i + 1)))).flatMap rwC) (get_put _ _ _) rfl ?_ p2 ?_
    ·rw [flat_len rwC_len]
     simp only [List.length_append, List.length_cons, List.length_nil] at *
     omega
    refine w64_w (by omega) (by omega) (ih2 _ _ ⟨j - 1, A', y' :: B, rfl, hA', by simp at hAB ⊢; omega, (f2.put (.inl rfl) _).put (.inl rfl) _, by rw [get_put]; simp, ?_⟩ (by simp; omega))
    rw [hI, List.reverse_append, List.reverse_singleton, List.singleton_append, insRv, if_pos hlt]
    simp
   ·have hlt : ¬ keyS e.src < keyS y'.src := by have := of_decide_eq_false hlt; simp only [Int.ofNat_eq_natCast] at this; omega
    refine stop f2 gy2 ?_
    rw [List.reverse_append, List.reverse_singleton, List.singleton_append, insRv, if_neg hlt]
  ·have hj : j = 0 := by have := of_decide_eq_false hx2; simp only [Int.ofNat_eq_natCast] at this; omega
   have hA0 : A = [] := List.length_eq_zero_iff.1 (by omega)
   exact stop fy gy (by rw [hA0]; rfl)
 ·have hx : i = n := by have := of_decide_eq_false hx; omega
  rw [hx, ← hl, List.drop_length] at gx hS
  refine hk Hx fx ?_
  unfold srtN
  rw [hS, srtRv, gx, List.append_nil]
def CSrtN (cl : Cl) : Prop := ∀ H b n c l K, l.length = n → 0 < n → n < 20 → H.has b → H.get b = some (.row (l.flatMap rwC)) → (∀ H', Fr (fun a => a = b) H H' → H'.get b = some (.row ((srtN l).flatMap rwC)) → K (.tup []) H' = true) →
 cl i_slices_SortStableFunc_Note [.s (.slice (.at b 0) n c 6), .s (.func i_region_Region_heard_1 [] [])] H K = true
def CStbN (cl : Cl) : Prop := ∀ H b n c l K, l.length = n → 0 < n → n < 20 → H.has b → H.get b = some (.row (l.flatMap rwC)) → (∀ H', Fr (fun a => a = b) H H' → H'.get b = some (.row ((srtN l).flatMap rwC)) → K (.tup []) H' = true) →
 cl i_slices_stableCmpFunc_Note [.s (.slice (.at b 0) n c 6), .s (.int .i64 (Int.ofNat n)), .s (.func i_region_Region_heard_1 [] [])] H K = true
theorem B_slices_stableCmpFunc_Note_ {lf : Nat} {cl : Cl} (hlf : 100000 ≤ lf) (hins : CInsN cl) {H : AH} {b : Pn} {n : Nat} {c : ACap} {l : List Rw} {K : AV → AH → Bool} (hl : l.length = n) (hpos : 0 < n) (hn : n < 20) (hb : H.has b) (gb : H.get b = some (.row (l.flatMap rwC)))
  (hk : ∀ H', Fr (fun a => a = b) H H' → H'.get b = some (.row ((srtN l).flatMap rwC)) → K (.tup []) H' = true) :
  B_slices_stableCmpFunc_Note lf cl (.at b 0) n c 6 (Int.ofNat n) (.s (.func i_region_Region_heard_1 [] [])) H K = true := by
 unfold B_slices_stableCmpFunc_Note
 refine loopX_w (fun x Hx => Hx = H ∧ x = ((.at b 0, n, c, 6), Int.ofNat n, .s (.func i_region_Region_heard_1 [] []), Int.ofNat 20, Int.ofNat 0, Int.ofNat 20)) (fun _ => 0) ⟨rfl, rfl⟩ (by omega) ?_
 rintro self x Hx ⟨rfl, rfl⟩ _
 simp only [pR_, fB_eq, iLe_dec, iLt_dec]
 refine ifA_w (fun h => absurd (of_decide_eq_true h) (by simp only [Int.ofNat_eq_natCast]; omega)) (fun _ => ?_)
 refine hins _ _ _ _ _ _ hl hpos (by omega) hb gb fun H1 f1 g1 => ?_
 rw [tup0_]
 refine loopX_w (fun x Hx => Hx = H1 ∧ x = ((.at b 0, n, c, 6), Int.ofNat n, .s (.func i_region_Region_heard_1 [] []), Int.ofNat 20)) (fun _ => 0) ⟨rfl, rfl⟩ (by omega) ?_
 rintro self2 x Hy ⟨rfl, rfl⟩ _
 simp only [pR_]
 refine ifA_w (fun h => absurd (of_decide_eq_true h) (by simp only [Int.ofNat_eq_natCast]; omega)) (fun _ => hk _ f1 g1)
theorem B_slices_SortStableFunc_Note_ {lf : Nat} {cl : Cl} (hst : CStbN cl) {H : AH} {b : Pn} {n : Nat} {c : ACap} {l : List Rw} {K : AV → AH → Bool} (hl : l.length = n) (hpos : 0 < n) (hn : n < 20) (hb : H.has b) (gb : H.get b = some (.row (l.flatMap rwC)))
  (hk : ∀ H', Fr (fun a => a = b) H H' → H'.get b = some (.row ((srtN l).flatMap rwC)) → K (.tup []) H' = true) :
  B_slices_SortStableFunc_Note lf cl (.at b 0) n c 6 (.s (.func i_region_Region_heard_1 [] [])) H K = true := by
 unfold B_slices_SortStableFunc_Note
 exact hst _ _ _ _ _ _ hl hpos hn hb gb fun H1 f1 g1 => by rw [tup0_]; exact hk _ f1 g1
end Go.Proofs
end
section
namespace Go.Proofs
open Go Go.Vw Go.Vw.Ev
set_option linter.unusedVariables false
set_option linter.unusedSimpArgs false
theorem SF.plain {α : Type} {sz : Nat} {fc : α → List AS} {H : AH} {x : AS} {l : List α} (h : SF sz fc H x l) : plain x = true := by
 obtain ⟨p, c, z, rfl, _, sr⟩ := h
 rcases sr.2 with ⟨_, rfl⟩ | ⟨b, rfl, _⟩ <;> rfl
theorem NOf.plain {H : AH} {r : Rw} {nt : Nt} (n : NOf H r nt) : (rwC r).all Go.Vw.Ev.plain = true := by
 simp only [rwC, List.all_cons, List.all_nil, n.m.plain, n.h.plain, n.g.plain, n.w.plain]
 rfl
structure SmN (nt : Nt) : Prop where
 m : nt.moved.length < 1000
 h : nt.hands.length < 1000
 g : nt.given.length < 1000
 w : nt.watch.length < 1000
noncomputable def noteB (nt : Nt) (k : Int) : Bool :=
 !decide (nt.src < 0) && (!decide (min k 4 ≤ nt.src) && (!decide (nt.beat < 0) && (!decide (1073741824 < nt.beat) && (!decide (20 < nt.watch.length) &&
  (hdsB nt.src (min k 4) none nt.hands && ((thsB nt.hands false none nt.moved && decide (nt.moved.length ≤ 200)) && ((thsB nt.hands true none nt.given && decide (nt.given.length ≤ 200)) && !nt.watch.any wrongC)))))))
def CIsNote (cl : Cl) : Prop := ∀ H r nt k K, NOf H r nt → SmN nt → (∀ H', Le H H' → K (.s (.bool (noteB nt k))) H' = true) → cl i_note_Is [.agg (rwC r), .s (.int .i64 k)] H K = true
theorem B_note_Is_ {lf : Nat} {cl : Cl} (hh : CIsHands cl) (ht : CIsThings cl) (hc : CContC cl) {H : AH} {r : Rw} {nt : Nt} {k : Int} {K : AV → AH → Bool} (no : NOf H r nt) (sm : SmN nt) (hk : ∀ H', Le H H' → K (.s (.bool (noteB nt k))) H' = true) : B_note_Is lf cl (rwC r) k H K = true := by
 unfold B_note_Is
 refine new_w fun g H1 h1 hg ng gg => ?_
 have no1 := no.le h1
 obtain ⟨pm, cm, zm, em, hcm, srm⟩ := no1.m
 obtain ⟨ph, ch, zh, eh, hch, srh⟩ := no1.h
 obtain ⟨pg, cg, zg, eg, hcg, srg⟩ := no1.g
 obtain ⟨pw, cw, zw, ew, hcw, srw⟩ := no1.w
 have gx : ∀ {Hy}, Le H1 Hy → Hy.get g = some (.row (rwC r)) := fun k => (k.get _ hg).trans gg
 have c0 : (rwC r)[0]? = some (.int .i64 nt.src) := by show some (AS.int .i64 r.src) = _; rw [no.src]
 have c1 : (rwC r)[1]? = some (.int .i64 nt.beat) := by show some (AS.int .i64 r.beat) = _; rw [no.beat]
 have c2 : (rwC r)[2]? = some (.slice pm nt.moved.length cm zm) := by show some r.m = _; rw [em]
 have c3 : (rwC r)[3]? = some (.slice ph nt.hands.length ch zh) := by show some r.h = _; rw [eh]
 have c4 : (rwC r)[4]? = some (.slice pg nt.given.length cg zg) := by show some r.g = _; rw [eg]
 have c5 : (rwC r)[5]? = some (.slice pw nt.watch.length cw zw) := by show some r.w = _; rw [ew]
 have fin : ∀ {H'} {b : Bool}, Le H1 H' → noteB nt k = b → K (.s (.bool b)) H' = true := fun hl e => by have := hk _ (h1.trans hl); rwa [e] at this
 have L0 := Le.refl H1
 simp only [mnA_, fI_eq, fB_eq, iLt_dec, iLe_dec, Int.ofNat_eq_natCast]
 unfold noteB at fin
 refine rowK_w gg (ldI_w c0 ?_)
 refine ifA_w (fun hx => fin L0 (by rw [show decide (nt.src < 0) = true from hx]; rfl)) (fun a1 => ?_)
 rw [show decide (nt.src < 0) = false from a1, Bool.not_false, Bool.true_and] at fin
 refine rowK_w gg (ldI_w c0 ?_)
 refine ifA_w (fun hx => fin L0 (by rw [show decide (min k 4 ≤ nt.src) = true from hx]; rfl)) (fun a2 => ?_)
 rw [show decide (min k 4 ≤ nt.src) = false from a2, Bool.not_false, Bool.true_and] at fin
 refine rowK_w gg (ldI_w c1 ?_)
 refine ifA_w (fun hx => fin L0 (by rw [show decide (nt.beat < 0) = true from hx]; rfl)) (fun a3 => ?_)
 rw [show decide (nt.beat < 0) = false from a3, Bool.not_false, Bool.true_and] at fin
 refine rowK_w gg (ldI_w c1 ?_)
 refine ifA_w (fun hx => fin L0 (by rw [show decide (1073741824 < nt.beat) = true from hx]; rfl)) (fun a4 => ?_)
 rw [show decide (1073741824 < nt.beat) = false from a4, Bool.not_false, Bool.true_and] at fin
 refine rowK_w gg (ldSl_w c5 ?_)
 have ew20 : decide (((20 : Nat) : Int) < (nt.watch.length : Int)) = decide (20 < nt.watch.length) := by congr 1; exact propext (by omega)
 rw [ew20]
 refine ifA_w (fun hx => fin L0 (by rw [hx]; rfl)) (fun a5 => ?_)
 rw [a5, Bool.not_false, Bool.true_and] at fin
 have hw := sm.w
 have hm := sm.m
 have hhl := sm.h
 have hgl := sm.g
 refine rowK_w gg (ldSl_w c3 (rowK_w gg (ldI_w c0 ?_)))
 refine hh _ _ _ _ _ _ _ _ _ srh (by omega) fun H2 h2 => arB_w ?_
 refine ifA_w (fun b1 => ?_) (fun b1 => fin h2 (by rw [show hdsB nt.src (min k 4) none nt.hands = false from b1]; rfl))
 rw [show hdsB nt.src (min k 4) none nt.hands = true from b1, Bool.true_and] at fin
 refine rowK_w (gx h2) (ldSl_w c2 (rowK_w (gx h2) (ldSl_w c3 ?_)))
 refine ht _ _ _ _ _ _ _ _ _ _ _ _ _ (srm.le h2) (srh.le h2) (by omega) (by omega) fun H3 h3 => arB_w ?_
 have h23 := h2.trans h3
 refine ifA_w (fun b2 => ?_) (fun b2 => fin h23 (by rw [b2]; rfl))
 rw [b2, Bool.true_and] at fin
 refine rowK_w (gx h23) (ldSl_w c4 (rowK_w (gx h23) (ldSl_w c3 ?_)))
 refine ht _ _ _ _ _ _ _ _ _ _ _ _ _ (srg.le h23) (srh.le h23) (by omega) (by omega) fun H4 h4 => arB_w ?_
 have h24 := h23.trans h4
 refine ifA_w (fun b3 => ?_) (fun b3 => fin h24 (by rw [b3]; rfl))
 rw [b3, Bool.true_and] at fin
 refine rowK_w (gx h24) (ldSl_w c5 ?_)
 refine hc _ _ _ _ _ _ _ (srw.le h24) (by omega) fun H5 h5 => arB_w ?_
 exact fin (h24.trans h5) rfl
def CNCopy (cl : Cl) : Prop := ∀ H r nt K, NOf H r nt → SmN nt → (∀ H' r', Le H H' → NOf H' r' nt → (∀ a, ownNt r' a → ¬ H.has a) → K (.agg (rwC r')) H' = true) → cl i_note_Copy [.agg (rwC r)] H K = true
theorem SF.mk' {α : Type} {sz : Nat} {fc : α → List AS} {H : AH} {p : AP} {c : ACap} {z : Nat} {l : List α} {n : Nat} (hn : n = l.length) (hc : CapOk c n) (sr : SR sz H p n z (l.flatMap fc)) : SF sz fc H (.slice p n c z) l := by
 subst hn; exact ⟨p, c, z, rfl, hc, sr⟩
theorem B_note_Copy_ {lf : Nat} {cl : Cl} (ct : CCl 11 i_slices_Clone_Thing cl) (chd : CCl 2 i_slices_Clone_Hand cl) (cc : CCl 22 i_slices_Clone_Command cl) {H : AH} {r : Rw} {nt : Nt} {K : AV → AH → Bool} (no : NOf H r nt) (sm : SmN nt)
  (hk : ∀ H' r', Le H H' → NOf H' r' nt → (∀ a, ownNt r' a → ¬ H.has a) → K (.agg (rwC r')) H' = true) : B_note_Copy lf cl (rwC r) H K = true := by
 unfold B_note_Copy
 refine new_w fun g H1 h1 hg ng gg => new_w fun g3 H2 h2 hg3 ng3 gg3 => ?_
 have h12 := h1.trans h2
 have no2 := no.le h12
 obtain ⟨pm, cm, zm, em, hcm, srm⟩ := no2.m
 obtain ⟨ph, ch, zh, eh, hch, srh⟩ := no2.h
 obtain ⟨pg, cg, zg, eg, hcg, srg⟩ := no2.g
 obtain ⟨pw, cw, zw, ew, hcw, srw⟩ := no2.w
 have g2 := (h2.get _ hg).trans gg
 have hg2 := h2.has _ hg
 have c2 : (rwC r)[2]? = some (.slice pm nt.moved.length cm zm) := by show some r.m = _; rw [em]
 have c3 : (rwC r)[3]? = some (.slice ph nt.hands.length ch zh) := by show some r.h = _; rw [eh]
 have c4 : (rwC r)[4]? = some (.slice pg nt.given.length cg zg) := by show some r.g = _; rw [eg]
 have c5 : (rwC r)[5]? = some (.slice pw nt.watch.length cw zw) := by show some r.w = _; rw [ew]
 have ks : ∀ {Hy}, Le H2 Hy → kSame ((g, .row (rwC r)) :: (g, .row (rwC r)) :: (g, .row (rwC r)) :: []) Hy = true := fun k => kSame_p ((k.get _ hg2).trans g2) no.plain (kSame_p ((k.get _ hg2).trans g2) no.plain (kSame_p ((k.get _ hg2).trans g2) no.plain rfl))
 have hw := sm.w
 have hm := sm.m
 have hhl := sm.h
 have hgl := sm.g
 refine rowK_w g2 (ldSl_w c2 (getK_w g2 (rowK_w g2 (ldSl_w c3 (getK_w g2 (rowK_w g2 (ldSl_w c4 (getK_w g2 (rowK_w g2 (ldSl_w c5 ?_))))))))))
 refine ct _ _ _ _ _ _ _ srm (by omega) fun H3 p3 cc3 z3 h3 s3 k3 o3 => ?_
 refine okK_w (ks h3) ?_
 rw [asSl_]
 refine chd _ _ _ _ _ _ _ (srh.le h3) (by omega) fun H4 p4 cc4 z4 h4 s4 k4 o4 => ?_
 have h24 := h3.trans h4
 refine okK_w (ks h24) ?_
 rw [asSl_]
 refine ct _ _ _ _ _ _ _ (srg.le h24) (by omega) fun H5 p5 cc5 z5 h5 s5 k5 o5 => ?_
 have h25 := h24.trans h5
 refine okK_w (ks h25) ?_
 rw [asSl_]
 refine cc _ _ _ _ _ _ _ (srw.le h25) (by omega) fun H6 p6 cc6 z6 h6 s6 k6 o6 => ?_
 have h26 := h25.trans h6
 rw [asSl_]
 have ne : ∀ a, H2.has a → ¬ H2.has a → False := fun a h h' => h' h
 have e6 := (h26.get _ hg2).trans g2
 have e63 := (h26.get _ hg3).trans gg3
 have d3 : g ≠ g3 := fun e => ng3 (e ▸ hg)
 refine sto1_w e6 (by simp [rwC]) (sto1_w (get_put _ _ _) (by simp [rwC]) (sto1_w (get_put _ _ _) (by simp [rwC]) (sto1_w (get_put _ _ _) (by simp [rwC]) ?_)))
 refine rowK_w (get_put _ _ _) (ldG_we (ys := rwC ⟨r.src, r.beat, .slice p3 nt.moved.length cc3 z3, .slice p4 nt.hands.length cc4 z4, .slice p5 nt.given.length cc5 z5, .slice p6 nt.watch.length cc6 z6⟩) (by simp [rwC]) (by decide) rfl ?_)
 refine stoN_we (ds := rwC ⟨r.src, r.beat, .slice p3 nt.moved.length cc3 z3, .slice p4 nt.hands.length cc4 z4, .slice p5 nt.given.length cc5 z5, .slice p6 nt.watch.length cc6 z6⟩) ((get_put_ne (Ne.symm d3)).trans ((get_put_ne (Ne.symm d3)).trans ((get_put_ne (Ne.symm d3)).trans ((get_put_ne (Ne.symm d3)).trans e63)))) rfl (by simp) (by simp [rwC]) ?_
 refine rowK_w (get_put _ _ _) (ldG_we (ys := rwC ⟨r.src, r.beat, .slice p3 nt.moved.length cc3 z3, .slice p4 nt.hands.length cc4 z4, .slice p5 nt.given.length cc5 z5, .slice p6 nt.watch.length cc6 z6⟩) (by simp [rwC]) (by decide) rfl ?_)
 have ngH3 : ¬ H.has g3 := fun h => ng3 (h1.has _ h)
 have fG : ∀ {Hy b1 b2 b3 b4 b5}, Fr (fun a => a = g ∨ a = g3) Hy (((((Hy.put g b1).put g b2).put g b3).put g b4).put g3 b5) := fun {Hy _ _ _ _ _} => (((((Fr.refl (fun a => a = g ∨ a = g3) Hy).put (.inl (.inl rfl)) _).put (.inl (.inl rfl)) _).put (.inl (.inl rfl)) _).put (.inl (.inl rfl)) _).put (.inl (.inr rfl)) _
 have ofg : ∀ {p : AP} {Hy : AH}, Le H2 Hy → (∀ a, ownP p a → ¬ Hy.has a) → ∀ a, ownP p a → ¬ (a = g ∨ a = g3) := fun k o a h e => by
  rcases e with e | e
  ·exact o a h (e ▸ k.has _ hg2)
  ·exact o a h (e ▸ k.has _ hg3)
 refine hk _ _ ((((((h12.trans h26).put ng _).put ng _).put ng _).put ng _).put ngH3 _) ⟨no.src, no.beat, ?_, ?_, ?_, ?_⟩ ?_
 ·exact SF.mk' rfl k3 ((s3.le (h4.trans (h5.trans h6))).fr fG (ofg (Le.refl _) o3))
 ·exact SF.mk' rfl k4 ((s4.le (h5.trans h6)).fr fG (ofg h3 o4))
 ·exact SF.mk' rfl k5 ((s5.le h6).fr fG (ofg h24 o5))
 ·exact SF.mk' rfl k6 (s6.fr fG (ofg h25 o6))
 ·rintro a (h | h | h | h) ha
  ·exact o3 a h (h12.has _ ha)
  ·exact o4 a h ((h12.trans h3).has _ ha)
  ·exact o5 a h ((h12.trans h24).has _ ha)
  ·exact o6 a h ((h12.trans h25).has _ ha)
end Go.Proofs
end
section
namespace Go.Proofs
open Go Go.Vw Go.Vw.Ev
set_option linter.unusedVariables false
set_option linter.unusedSimpArgs false
def insP (x : Rw × Nt) : List (Rw × Nt) → List (Rw × Nt)
 | [] => [x]
 | y :: r => if keyS x.1.src < keyS y.1.src then y :: insP x r else x :: y :: r
def srtRvP : List (Rw × Nt) → List (Rw × Nt) → List (Rw × Nt)
 | acc, [] => acc
 | acc, x :: r => srtRvP (insP x acc) r
def srtP (l : List (Rw × Nt)) : List (Rw × Nt) := (srtRvP [] l).reverse
theorem insP_map (x : Rw × Nt) : ∀ l : List (Rw × Nt), (insP x l).map (·.1) = insRv x.1 (l.map (·.1))
 | [] => rfl
 | y :: r => by
  unfold insP
  rw [List.map_cons, insRv]
  split
  ·rw [List.map_cons, insP_map x r]
  ·rfl
theorem srtRvP_map : ∀ (l acc : List (Rw × Nt)), (srtRvP acc l).map (·.1) = srtRv (acc.map (·.1)) (l.map (·.1))
 | [], _ => rfl
 | x :: r, acc => by rw [srtRvP, srtRvP_map r, insP_map, List.map_cons, srtRv]
theorem srtP_map (l : List (Rw × Nt)) : (srtP l).map (·.1) = srtN (l.map (·.1)) := by unfold srtP srtN; rw [List.map_reverse, srtRvP_map]; rfl
theorem insP_mem (x y : Rw × Nt) : ∀ l : List (Rw × Nt), y ∈ insP x l → y = x ∨ y ∈ l
 | [], h => by rw [insP, List.mem_singleton] at h; exact .inl h
 | z :: r, h => by
  unfold insP at h
  split at h
  ·rcases List.mem_cons.1 h with h | h
   ·exact .inr (by rw [h]; simp)
   ·rcases insP_mem x y r h with h | h
    ·exact .inl h
    ·exact .inr (List.mem_cons_of_mem _ h)
  ·rcases List.mem_cons.1 h with h | h
   ·exact .inl h
   ·exact .inr h
theorem srtRvP_mem : ∀ (l acc : List (Rw × Nt)) (y : Rw × Nt), y ∈ srtRvP acc l → y ∈ acc ∨ y ∈ l
 | [], _, _, h => .inl h
 | x :: r, acc, y, h => by
  rw [srtRvP] at h
  rcases srtRvP_mem r _ y h with h | h
  ·rcases insP_mem x y acc h with h | h
   ·exact .inr (by rw [h]; simp)
   ·exact .inl h
  ·exact .inr (List.mem_cons_of_mem _ h)
theorem srtP_mem {l : List (Rw × Nt)} {y : Rw × Nt} (h : y ∈ srtP l) : y ∈ l := by
 unfold srtP at h
 rw [List.mem_reverse] at h
 rcases srtRvP_mem l [] y h with h | h
 ·cases h
 ·exact h
theorem srtP_len (l : List (Rw × Nt)) : (srtP l).length = l.length := by
 have := congrArg List.length (srtP_map l)
 rw [List.length_map, srtN_len, List.length_map] at this
 exact this
noncomputable def chkN (s : RgSt) : Int → List Nt → Bool
 | _, [] => true
 | i, x :: r => decide (x.src = i) && (decide (x.beat = s.beat - 1) && ((decide (i = s.id) || noteB x s.n) && chkN s (i + 1) r))
def lastR (f : Nat → AS) (s : RgSt) : Rw := ⟨s.last.src, s.last.beat, f 41, f 42, f 43, f 44⟩
theorem RB.last {H : AH} {s : RgSt} {f : Nat → AS} {Q : Nat → Pn → Prop} (r : RB H s f Q) : NOf H (lastR f s) s.last := ⟨rfl, rfl, r.s41, r.s42, r.s43, r.s44⟩
theorem last_cells {H : AH} {s : RgSt} {f : Nat → AS} {Q : Nat → Pn → Prop} (r : RB H s f Q) : ((c48 f).drop 39).take 6 = rwC (lastR f s) := by
 show [f 39, f 40, f 41, f 42, f 43, f 44] = _
 rw [r.i39, r.i40]; rfl
def heardL (f : Nat → AS) (s : RgSt) (l : List (Rw × Nt)) : List (Rw × Nt) := srtP (l ++ [(lastR f s, s.last)])
def CHeard (cl : Cl) : Prop := ∀ H g s f Q p n c z (l : List (Rw × Nt)) K, RB H s f Q → H.has g → H.get g = some (.row (c48 f)) → SR 6 H p n z ((l.map (·.1)).flatMap rwC) → (∀ x ∈ l, NOf H x.1 x.2 ∧ SmN x.2) → SmN s.last → 0 ≤ s.beat ∧ s.beat ≤ 1000000 → n < 15 →
 (s.beat = 0 → K (.tup [.s (.slice .nil 0 (.lit 0) 1), .s (.bool (decide (n = 0)))]) H = true) →
 (s.beat ≠ 0 → ∀ H' p' m c' z' b, Le H H' → (b = true → chkN s 0 ((heardL f s l).map (·.2)) = true ∧ ((n + 1 : Nat) : Int) = s.n ∧ m = n + 1 ∧ SR 6 H' p' m z' (((heardL f s l).map (·.1)).flatMap rwC) ∧ (∀ a, ownP p' a → ¬ H.has a)) →
  (b = false → (chkN s 0 ((heardL f s l).map (·.2)) && decide (((n + 1 : Nat) : Int) = s.n)) = false) → K (.tup [.s (.slice p' m c' z'), .s (.bool b)]) H' = true) →
 cl i_region_Region_heard [.s (.ptr (.at g 0)), .s (.slice p n c z)] H K = true
theorem B_region_Region_heard_ {lf : Nat} {cl : Cl} (hlf : 100000 ≤ lf) (hcl : CCl 6 i_slices_Clone_Note cl) (hsrt : CSrtN cl) (his : CIsNote cl) {H : AH} {g : Pn} {s : RgSt} {f : Nat → AS} {Q : Nat → Pn → Prop} {p : AP} {n z : Nat} {c : ACap} {l : List (Rw × Nt)} {K : AV → AH → Bool}
  (rb : RB H s f Q) (hg : H.has g) (gg : H.get g = some (.row (c48 f))) (sr : SR 6 H p n z ((l.map (·.1)).flatMap rwC)) (hl : ∀ x ∈ l, NOf H x.1 x.2 ∧ SmN x.2) (hsl : SmN s.last) (hb0 : 0 ≤ s.beat ∧ s.beat ≤ 1000000) (hn : n < 15)
  (k0 : s.beat = 0 → K (.tup [.s (.slice .nil 0 (.lit 0) 1), .s (.bool (decide (n = 0)))]) H = true)
  (k1 : s.beat ≠ 0 → ∀ H' p' m c' z' b, Le H H' → (b = true → chkN s 0 ((heardL f s l).map (·.2)) = true ∧ ((n + 1 : Nat) : Int) = s.n ∧ m = n + 1 ∧ SR 6 H' p' m z' (((heardL f s l).map (·.1)).flatMap rwC) ∧ (∀ a, ownP p' a → ¬ H.has a)) →
   (b = false → (chkN s 0 ((heardL f s l).map (·.2)) && decide (((n + 1 : Nat) : Int) = s.n)) = false) → K (.tup [.s (.slice p' m c' z'), .s (.bool b)]) H' = true) :
  B_region_Region_heard lf cl (.at g 0) p n c z H K = true := by
 unfold B_region_Region_heard
 have gx : ∀ {Hy}, Le H Hy → Hy.get g = some (.row (c48 f)) := fun k => (k.get _ hg).trans gg
 simp only [nilK_at, fN_eq, Nat.add_eq, Nat.zero_add, Nat.add_zero, fB_eq, iEq_dec]
 refine rowK_w gg (ldI_w (n := s.beat) (by rw [c48_get _ (by decide), rb.i2]) ?_)
 have hln : l.length = n := by have := hds_n rwC_len (by decide) sr; rwa [List.length_map] at this
 refine ifA_w (fun hx => ?_) (fun hx => ?_)
 ·have e : decide (Int.ofNat n = Int.ofNat 0) = decide (n = 0) := by congr 1; simp only [Int.ofNat_eq_natCast]; exact propext (by omega)
  rw [e]
  exact k0 (of_decide_eq_true hx)
 have hbz : s.beat ≠ 0 := of_decide_eq_false hx
 replace k1 := k1 hbz
 refine joinX_w (fun x Hx => ∃ b c' , x = (.at g 0, (.at b 0, n + 1, c', 6)) ∧ Le H Hx ∧ Hx.has b ∧ ¬ H.has b ∧ Hx.get b = some (.row (((l ++ [(lastR f s, s.last)]).map (·.1)).flatMap rwC))) ?_ ?_
 ·rintro x H1 ⟨b, c', rfl, h1, hb, nb, gb⟩
  simp only [pR_]
  refine hsrt H1 b (n + 1) c' _ _ (by simp [hln]) (by omega) (by omega) hb gb fun H2 f2 g2 => ?_
  rw [tup0_]
  have h2 : Le H H2 := ⟨fun a ha => f2.has a (h1.has a ha), fun a ha => (f2.get a (h1.has a ha) fun e => nb (e ▸ ha)).trans (h1.get a ha)⟩
  have hb2 := f2.has _ hb
  rw [← srtP_map] at g2
  change H2.get b = some (.row (((heardL f s l).map (·.1)).flatMap rwC)) at g2
  have hL : (heardL f s l).length = n + 1 := by unfold heardL; rw [srtP_len]; simp [hln]
  have hN : ∀ x ∈ heardL f s l, NOf H x.1 x.2 ∧ SmN x.2 := fun x hx => by
   rcases List.mem_append.1 (srtP_mem hx) with h | h
   ·exact hl x h
   ·rw [List.mem_singleton] at h; subst h; exact ⟨rb.last, hsl⟩
  generalize heardL f s l = L at *
  have sr2 : SR 6 H2 (.at b 0) (n + 1) 6 ((L.map (·.1)).flatMap rwC) := ⟨by rw [flat_len rwC_len, List.length_map, hL], .inr ⟨b, rfl, rfl, hb2, g2⟩⟩
  have bad : ∀ {Hy p'' m'' c'' z''}, Le H2 Hy → chkN s 0 (L.map (·.2)) = false → K (.tup [.s (.slice p'' m'' c'' z''), .s (.bool false)]) Hy = true := fun k e => k1 _ _ _ _ _ false (h2.trans k) (fun h => by cases h) fun _ => by rw [e]; rfl
  refine loopX_w (fun x Hx => Le H2 Hx ∧ ∃ i : Nat, x = (.at g 0, (.at b 0, n + 1, c', 6), (.at b 0, n + 1, c', 6), ((n + 1 : Nat) : Int), (i : Int)) ∧ i ≤ n + 1 ∧ chkN s 0 (L.map (·.2)) = chkN s i ((L.map (·.2)).drop i)) (fun x => n + 1 - x.2.2.2.2.toNat) ⟨Le.refl _, 0, rfl, by omega, rfl⟩ (by simp; omega) ?_
  rintro self x Hx ⟨hx2, i, rfl, hi, hC⟩ ih
  simp only [pR_, nilK_at, fN_eq, Nat.add_eq, Nat.zero_add, Nat.add_zero, iLt_dec, Nat.mul_eq]
  have gx2 := gx (h2.trans hx2)
  refine ifA_w (fun hx => ?_) (fun hx => ?_)
  ·have hx : i < n + 1 := by have := of_decide_eq_true hx; omega
   have hxl : i < L.length := by omega
   have hxm : i < (L.map (·.2)).length := by rw [List.length_map]; exact hxl
   rw [List.drop_eq_getElem_cons hxm, chkN, List.getElem_map] at hC
   obtain ⟨no, smx⟩ := hN _ (List.getElem_mem hxl)
   have hx1 : i < (L.map (·.1)).length := by rw [List.length_map]; exact hxl
   have hseg := flat_at rwC_len (L.map (·.1)) i hx1
   rw [List.getElem_map] at hseg
   have hfl : ((L.map (·.1)).flatMap rwC).length = (n + 1) * 6 := sr2.1
   generalize L[i] = e at *
   refine idxK_w (by omega) (by omega) ?_
   rw [Int.toNat_natCast]
   refine rowK_w ((hx2.get _ hb2).trans g2) (ldG_we (ys := rwC e.1) (by omega) (by decide) hseg ?_)
   refine tmp_w rfl rfl fun g1 H3 h3 hg1 ng1 gg1 => ?_
   have h23 := hx2.trans h3
   refine rowK_w gg1 (ldI_w (n := e.2.src) (by show some (AS.int .i64 e.1.src) = _; rw [no.src]) ?_)
   refine ifA_w (fun h1' => bad h23 (by rw [hC, show decide (e.2.src = (i : Int)) = false by simpa using h1']; rfl)) (fun h1' => ?_)
   have e1 : e.2.src = (i : Int) := by simpa using h1'
   rw [decide_eq_true e1, Bool.true_and] at hC
   refine rowK_w gg1 (ldI_w (n := e.2.beat) (by show some (AS.int .i64 e.1.beat) = _; rw [no.beat]) ?_)
   have gx3 := gx (h2.trans h23)
   refine rowK_w gx3 (ldI_w (n := s.beat) (by rw [c48_get _ (by decide), rb.i2]) ?_)
   rw [iSub_]
   have hbig := hb0.2
   have hb00 := hb0.1
   ·refine w64_w (by simp only [Int.ofNat_eq_natCast]; omega) (by simp only [Int.ofNat_eq_natCast]; omega) ?_
    refine ifA_w (fun h2' => bad h23 (by rw [hC, show decide (e.2.beat = s.beat - 1) = false by simpa using h2']; rfl)) (fun h2' => ?_)
    have e2 : e.2.beat = s.beat - 1 := by simpa using h2'
    rw [decide_eq_true e2, Bool.true_and] at hC
    refine rowK_w gx3 (ldI_w (n := s.id) (by rw [c48_get _ (by decide), rb.i0]) ?_)
    refine ifA_w (fun h3' => ?_) (fun h3' => ?_)
    ·have h3' : decide ((i : Int) = s.id) = false := by simpa using h3'
     rw [h3', Bool.false_or] at hC
     refine rowK_w gg1 (ldG_we (ys := rwC e.1) (by simp [rwC]) (by decide) rfl ?_)
     refine rowK_w gx3 (ldI_w (n := s.n) (by rw [c48_get _ (by decide), rb.i1]) ?_)
     refine his _ _ _ _ _ (no.le (h2.trans h23)) smx fun H4 h4 => arB_w ?_
     have h24 := h23.trans h4
     refine ifA_w (fun h5 => bad h24 (by rw [hC, show noteB e.2 s.n = false by simpa using h5]; rfl)) (fun h5 => ?_)
     have h5 : noteB e.2 s.n = true := by simpa using h5
     rw [iAdd_]
     refine w64_w (by simp only [Int.ofNat_eq_natCast]; omega) (by simp only [Int.ofNat_eq_natCast]; omega) (ih _ _ ⟨h24, i + 1, by simp, by omega, ?_⟩ (by simp; omega))
     rw [hC, h5, Bool.true_and]
     simp
    ·have h3' : decide ((i : Int) = s.id) = true := by simpa using h3'
     rw [h3', Bool.true_or, Bool.true_and] at hC
     rw [iAdd_]
     refine w64_w (by simp only [Int.ofNat_eq_natCast]; omega) (by simp only [Int.ofNat_eq_natCast]; omega) (ih _ _ ⟨h23, i + 1, by simp, by omega, ?_⟩ (by simp; omega))
     rw [hC]
     simp
  ·have hx : i = n + 1 := by have := of_decide_eq_false hx; omega
   rw [hx, List.drop_of_length_le (by rw [List.length_map]; omega)] at hC
   refine rowK_w gx2 (ldI_w (n := s.n) (by rw [c48_get _ (by decide), rb.i1]) ?_)
   refine k1 _ _ _ _ _ _ (h2.trans hx2) (fun e => ⟨hC, ?_, rfl, sr2.le hx2, ?_⟩) fun e => ?_
   ·have := of_decide_eq_true e
    simpa using this
   ·rintro a ⟨o, e⟩ ha; cases e; exact nb ha
   ·rw [hC]
    show (true && decide (((n + 1 : Nat) : Int) = s.n)) = false
    rw [Bool.true_and]
    have e' := of_decide_eq_false e
    exact decide_eq_false (by simpa using e')
 ·intro J hJ
  have hlast := last_cells rb
  refine getK_w gg (rowK_w gg (ldG_we (ys := rwC (lastR f s)) (by rw [c48_len]; decide) (by decide) hlast ?_))
  have ks : ∀ {Hy}, Le H Hy → kSame ((g, .row (c48 f)) :: []) Hy = true := fun k => kSame_p (gx k) rb.pl rfl
  have fl : (l.map (·.1)).flatMap rwC ++ rwC (lastR f s) = ((l ++ [(lastR f s, s.last)]).map (·.1)).flatMap rwC := by simp
  refine okK_w ?_ (okK_w rfl (fL_w (okK_w rfl ?_)))
  ·refine hcl _ _ _ _ _ _ _ sr (by omega) fun H1 p1 c1 z1 h1 s1 k1' o1 => ?_
   refine okK_w (ks h1) ?_
   rw [asSl_]
   refine okK_w rfl (fL_w (okK_w rfl (new_w fun g2 H2 h2 hg2 ng2 gg2 => ?_)))
   refine elK_w (ys := rwC (lastR f s)) gg2 (lb rfl) rfl ?_
   refine appS_w (s1.le h2) rfl (by decide) (by omega) (by omega) fun b H3 nb f3 s3 => ?_
   rw [fl] at s3
   obtain ⟨b', e, hb', gb'⟩ := s3.at (by omega)
   cases e
   exact hJ _ _ ⟨b, _, rfl, ⟨fun a ha => f3.has a (h2.has a (h1.has a ha)), fun a ha => (f3.get a (h2.has a (h1.has a ha)) fun h => o1 a h ha).trans ((h2.get a (h1.has a ha)).trans (h1.get a ha))⟩, hb', fun h => nb (h2.has _ (h1.has _ h)), gb'⟩
  ·refine new_w fun g2 H2 h2 hg2 ng2 gg2 => ?_
   refine hcl _ _ _ _ _ _ _ (sr.le h2) (by omega) fun H1 p1 c1 z1 h1 s1 k1' o1 => ?_
   refine okK_w (ks (h2.trans h1)) ?_
   rw [asSl_]
   refine elK_w (ys := rwC (lastR f s)) ((h1.get _ hg2).trans gg2) (lb rfl) rfl ?_
   refine appS_w s1 rfl (by decide) (by omega) (by omega) fun b H3 nb f3 s3 => ?_
   rw [fl] at s3
   obtain ⟨b', e, hb', gb'⟩ := s3.at (by omega)
   cases e
   exact hJ _ _ ⟨b, _, rfl, ⟨fun a ha => f3.has a (h1.has a (h2.has a ha)), fun a ha => (f3.get a (h1.has a (h2.has a ha)) fun h => o1 a h (h2.has a ha)).trans ((h1.get a (h2.has a ha)).trans (h2.get a ha))⟩, hb', fun h => nb (h1.has _ (h2.has _ h)), gb'⟩
end Go.Proofs
end
section
namespace Go.Proofs
open Go Go.Vw Go.Vw.Ev
set_option linter.unusedVariables false
set_option linter.unusedSimpArgs false
theorem SR.el {sz : Nat} {H : AH} {p : AP} {n z : Nat} {cs : List AS} {K : List AS → Bool} (sr : SR sz H p n z cs) (hk : K cs = true) : elK H p n sz K = true := by
 rcases sr.2 with ⟨rfl, rfl⟩ | ⟨b, rfl, _, _, gb⟩
 ·have : cs = [] := List.length_eq_zero_iff.1 (by rw [sr.1]; simp)
  subst this
  rw [elK_eq0]
  exact okK_w rfl hk
 ·exact elK_w gb (by rw [sr.1]; omega) (by rw [List.drop_zero, ← sr.1, List.take_length]) hk
theorem appT_w {sz bytes : Nat} {H : AH} {p : AP} {n z m : Nat} {cs ys : List AS} {c : ACap} {K : AP → Nat → ACap → Nat → AH → Bool} (h : SR sz H p n z cs) (hc : CapOk c n) (hy : ys.length = m * sz) (hb : (n + m) * bytes ≤ 140737488355328) (hb2 : n + m ≤ 140737488355328)
  (hk : ∀ p' c' z' H', Fr (ownP p) H H' → SR sz H' p' (n + m) z' (cs ++ ys) → CapOk c' (n + m) → (∀ a, ownP p' a → ownP p a ∨ ¬ H.has a) → K p' (n + m) c' z' H' = true) : appA H p n z sz bytes ys m c K = true := by
 rcases Nat.eq_zero_or_pos m with h0 | h0
 ·subst h0
  have hy0 : ys = [] := List.length_eq_zero_iff.1 (by rw [hy]; simp)
  subst hy0
  rw [appA_eq0]
  unfold appA0
  refine fN_w (okK_w (by rw [Nat.ble_eq_true_of_le hb, Nat.ble_eq_true_of_le hb2]; rfl) ?_)
  exact hk _ _ _ _ (Fr.refl _ _) (by rw [List.append_nil]; exact h) hc fun a ha => .inl ha
 ·exact appS_w h hy h0 hb hb2 fun g' H' ng f sr => hk _ _ _ _ f sr trivial fun a ⟨o, e⟩ => by cases e; exact .inr ng
def comesB (s : RgSt) (t : Th) : Bool := decide (ofE t.pt = 0) && hasB s (ofC t.pt)
def bothT (nt : Nt) : List Th := nt.moved ++ nt.given
def comesL (s : RgSt) (l : List Nt) : List Th := (l.flatMap bothT).filter (comesB s)
theorem comesL_succ (s : RgSt) {l : List Nt} {i : Nat} (h : i < l.length) : comesL s (l.take (i + 1)) = comesL s (l.take i) ++ (bothT l[i]).filter (comesB s) := by
 unfold comesL
 rw [List.take_succ_eq_append_getElem h, List.flatMap_append, List.filter_append]
 simp
def CComes (cl : Cl) : Prop := ∀ H g s O p n c z (l : List (Rw × Nt)) K, RgS H g s O → SR 6 H p n z ((l.map (·.1)).flatMap rwC) → (∀ x ∈ l, NOf H x.1 x.2 ∧ SmN x.2) → n < 100 →
 (∀ H' p' c' z', Le H H' → SR 11 H' p' (comesL s (l.map (·.2))).length z' (thsC (comesL s (l.map (·.2)))) → (∀ a, ownP p' a → ¬ H.has a) → K (.s (.slice p' (comesL s (l.map (·.2))).length c' z')) H' = true) → cl i_region_Region_comes [.s (.ptr (.at g 0)), .s (.slice p n c z)] H K = true
theorem comes_le (s : RgSt) : ∀ {l : List Nt}, (∀ x ∈ l, SmN x) → (comesL s l).length ≤ l.length * 2000
 | [], _ => Nat.le_refl 0
 | x :: r, h => by
  have h1 := comes_le s (l := r) fun y hy => h y (List.mem_cons_of_mem _ hy)
  have h2 := h x (by simp)
  have e : comesL s (x :: r) = (bothT x).filter (comesB s) ++ comesL s r := by unfold comesL; rw [List.flatMap_cons, List.filter_append]
  have h3 := List.length_filter_le (comesB s) (bothT x)
  have h4 : (bothT x).length < 2000 := by unfold bothT; rw [List.length_append]; have := h2.m; have := h2.g; omega
  rw [e, List.length_append, List.length_cons]
  omega
theorem B_region_Region_comes_ {lf : Nat} {cl : Cl} (hlf : 100000 ≤ lf) (hcl : CCl 11 i_slices_Clone_Thing cl) (hof : COfC cl) (hhas : CHas cl) {H : AH} {g : Pn} {s : RgSt} {O : Pn → Prop} {p : AP} {n z : Nat} {c : ACap} {l : List (Rw × Nt)} {K : AV → AH → Bool}
  (rg : RgS H g s O) (sr : SR 6 H p n z ((l.map (·.1)).flatMap rwC)) (hl : ∀ x ∈ l, NOf H x.1 x.2 ∧ SmN x.2) (hn : n < 100)
  (hk : ∀ H' p' c' z', Le H H' → SR 11 H' p' (comesL s (l.map (·.2))).length z' (thsC (comesL s (l.map (·.2)))) → (∀ a, ownP p' a → ¬ H.has a) → K (.s (.slice p' (comesL s (l.map (·.2))).length c' z')) H' = true) : B_region_Region_comes lf cl (.at g 0) p n c z H K = true := by
 unfold B_region_Region_comes
 have hln : l.length = n := by have := hds_n rwC_len (by decide) sr; rwa [List.length_map] at this
 have hbig := comes_le s (l := l.map (·.2)) fun x hx => by
  obtain ⟨y, hy, rfl⟩ := List.mem_map.1 hx
  exact (hl y hy).2
 rw [List.length_map, hln] at hbig
 refine loopX_w (fun x Hx => Le H Hx ∧ ∃ (i : Nat) (p1 : AP) (c1 : ACap) (z1 : Nat), x = (.at g 0, (p1, (comesL s ((l.map (·.2)).take i)).length, c1, z1), (p, n, c, z), (n : Int), (i : Int)) ∧ i ≤ n ∧ SR 11 Hx p1 (comesL s ((l.map (·.2)).take i)).length z1 (thsC (comesL s ((l.map (·.2)).take i))) ∧ ∀ a, ownP p1 a → ¬ H.has a) (fun x => n - x.2.2.2.2.toNat)
  ⟨Le.refl _, 0, .nil, _, _, rfl, by omega, SR.nil, fun a ⟨o, e⟩ => (by cases e)⟩ (by simp; omega) ?_
 rintro self x Hx ⟨hL, i, p1, c1, z1, rfl, hi, sl, of1⟩ ih
 simp only [pR_, fB_eq, iLt_dec]
 refine ifA_w (fun hx => ?_) (fun hx => ?_)
 ·have hx : i < n := by have := of_decide_eq_true hx; omega
  have hxl : i < l.length := by omega
  have hx1 : i < (l.map (·.1)).length := by rw [List.length_map]; exact hxl
  have hx2 : i < (l.map (·.2)).length := by rw [List.length_map]; exact hxl
  have hseg := flat_at rwC_len (l.map (·.1)) i hx1
  have hsucc := comesL_succ s hx2
  rw [List.getElem_map] at hseg hsucc
  obtain ⟨no, smx⟩ := hl _ (List.getElem_mem hxl)
  have hfl := sr.1
  obtain ⟨b, rfl, hb, gb⟩ := sr.at (by omega)
  have hpre : (comesL s ((l.map (·.2)).take i)).length ≤ i * 2000 := by
   have := comes_le s (l := (l.map (·.2)).take i) fun x hx => by
    obtain ⟨y, hy, rfl⟩ := List.mem_map.1 (List.mem_of_mem_take hx)
    exact (hl y hy).2
   rw [List.length_take, List.length_map] at this
   have e : min i l.length = i := by omega
   rw [e] at this
   exact this
  generalize l[i] = e at *
  generalize comesL s ((l.map (·.2)).take i) = o at *
  simp only [nilK_at, fN_eq, Nat.add_eq, Nat.mul_eq, Nat.zero_add, Nat.add_zero]
  refine idxK_w (by omega) (by omega) ?_
  rw [Int.toNat_natCast]
  refine rowK_w ((hL.get _ hb).trans gb) (ldG_we (ys := rwC e.1) (by omega) (by decide) hseg ?_)
  refine tmp_w rfl rfl fun g1 H1 h1 hg1 ng1 gg1 => ?_
  have hL1 := hL.trans h1
  have no1 := no.le hL1
  obtain ⟨pm, cm, zm, em, hcm, srm⟩ := no1.m
  obtain ⟨pg, cg, zg, eg, hcg, srg⟩ := no1.g
  refine rowK_w gg1 (ldSl_w (p := pm) (n := e.2.moved.length) (c := cm) (z := zm) (by show some e.1.m = _; rw [em]) ?_)
  refine getK_w gg1 (rowK_w gg1 (ldSl_w (p := pg) (n := e.2.given.length) (c := cg) (z := zg) (by show some e.1.g = _; rw [eg]) ?_))
  have hm := smx.m
  have hgl := smx.g
  refine hcl _ _ _ _ _ _ _ srm (by omega) fun H2 p2 c2 z2 h2 s2 k2 o2 => ?_
  refine okK_w (kSame_p ((h2.get _ hg1).trans gg1) no.plain rfl) ?_
  rw [asSl_]
  refine (srg.le h2).el ?_
  refine appT_w s2 k2 srg.1 (by omega) (by omega) fun p3 c3 z3 H3 f3 s3 k3 o3 => ?_
  have hL2 := hL1.trans h2
  have hL3 : Le H H3 := ⟨fun a ha => f3.has a (hL2.has a ha), fun a ha => (f3.get a (hL2.has a ha) fun h => o2 a h (hL1.has a ha)).trans (hL2.get a ha)⟩
  have sl1 := sl.le h1
  have slf : SR 11 H3 p1 o.length z1 (thsC o) := (sl1.le h2).fr f3 fun a ha h => o2 a h (sl1.has a ha)
  have eb : e.2.moved.flatMap thC ++ e.2.given.flatMap thC = thsC (bothT e.2) := by unfold bothT; exact List.flatMap_append.symm
  rw [eb] at s3
  have hbl : (bothT e.2).length = e.2.moved.length + e.2.given.length := by unfold bothT; rw [List.length_append]
  have ob : ∀ a, ownP p3 a → ¬ H.has a := fun a ha h => (o3 a ha).elim (fun h' => o2 a h' (hL1.has a h)) fun h' => h' (hL2.has a h)
  have hb3 : ∀ a, ownP p3 a → ownP p1 a → False := fun a ha ha1 => (o3 a ha).elim (fun h' => o2 a h' (sl1.has a ha1)) fun h' => h' ((sl1.le h2).has a ha1)
  refine loopX_w (fun y Hy => Le H Hy ∧ ∃ (j : Nat) (p4 : AP) (c4 : ACap) (z4 : Nat), y = (.at g 0, (p4, (o ++ ((bothT e.2).take j).filter (comesB s)).length, c4, z4), (.at b 0, n, c, z), (n : Int), (i : Int), (p3, e.2.moved.length + e.2.given.length, c3, z3), ((e.2.moved.length + e.2.given.length : Nat) : Int), (j : Int)) ∧ j ≤ e.2.moved.length + e.2.given.length ∧
    SR 11 Hy p4 (o ++ ((bothT e.2).take j).filter (comesB s)).length z4 (thsC (o ++ ((bothT e.2).take j).filter (comesB s))) ∧ (∀ a, ownP p4 a → ¬ H.has a) ∧ SR 11 Hy p3 (e.2.moved.length + e.2.given.length) z3 (thsC (bothT e.2)) ∧ (∀ a, ownP p3 a → ownP p4 a → False)) (fun y => e.2.moved.length + e.2.given.length - y.2.2.2.2.2.2.2.toNat)
   ⟨hL3, 0, p1, c1, z1, by simp, by omega, by simpa using slf, of1, s3, hb3⟩ (by simp; omega) ?_
  rintro self2 y Hy ⟨hLy, j, p4, c4, z4, rfl, hj, sly, of4, sry, hb4⟩ ih2
  simp only [pR_, fB_eq, iLt_dec]
  refine ifA_w (fun hx3 => ?_) (fun hx3 => ?_)
  ·have hx3 : j < e.2.moved.length + e.2.given.length := by have := of_decide_eq_true hx3; omega
   have hjl : j < (bothT e.2).length := by omega
   have hseg2 := flat_at thC_len' (bothT e.2) j hjl
   have tk : ((bothT e.2).take (j + 1)).filter (comesB s) = ((bothT e.2).take j).filter (comesB s) ++ (if comesB s (bothT e.2)[j] = true then [(bothT e.2)[j]] else []) := by
    rw [List.take_succ_eq_append_getElem hjl, List.filter_append, List.filter_cons, List.filter_nil]
   have hle2 := List.length_filter_le (comesB s) ((bothT e.2).take j)
   rw [List.length_take] at hle2
   generalize (bothT e.2)[j] = t at *
   obtain ⟨b3, rfl, hb3', gb3⟩ := sry.at (by omega)
   simp only [nilK_at, fN_eq, Nat.add_eq, Nat.mul_eq, Nat.zero_add, Nat.add_zero]
   refine idxK_w (by omega) (by omega) ?_
   rw [Int.toNat_natCast]
   have hfl2 := sry.1
   refine rowK_w gb3 (ldG_we (ys := thC t) (by omega) (by decide) hseg2 ?_)
   refine tmp_w rfl rfl fun gt H4 h4 hgt ngt ggt => ?_
   refine rowK_w ggt (ldG_we (ys := ptC t.pt) (lb rfl) (by decide) rfl ?_)
   refine hof _ _ _ fun H5 h5 => ?_
   rw [tup2_]
   refine arI_w (arI_w ?_)
   have h45 := h4.trans h5
   rw [iEq_dec]
   have skip : ∀ {Hz}, Le Hy Hz → comesB s t = false → w64 (iAdd (j : Int) (Int.ofNat 1)) (fun n78 => self2 (.at g 0, (p4, (o ++ ((bothT e.2).take j).filter (comesB s)).length, c4, z4), (.at b 0, n, c, z), (n : Int), (i : Int), (.at b3 0, e.2.moved.length + e.2.given.length, c3, z3), ((e.2.moved.length + e.2.given.length : Nat) : Int), n78) Hz) = true := by
    intro Hz hz hf
    rw [if_neg (by rw [hf]; simp), List.append_nil] at tk
    rw [iAdd_]
    exact w64_w (by simp only [Int.ofNat_eq_natCast]; omega) (by simp only [Int.ofNat_eq_natCast]; omega) (ih2 _ _ ⟨hLy.trans hz, j + 1, p4, c4, z4, by rw [tk]; simp, by omega, by rw [tk]; exact sly.le hz, of4, sry.le hz, hb4⟩ (by simp; omega))
   refine ifA_w (fun h6 => skip h45 (by unfold comesB; rw [show decide (ofE t.pt = 0) = false by simpa using h6]; rfl)) (fun h6 => ?_)
   have h6 : decide (ofE t.pt = 0) = true := by simpa using h6
   refine hhas _ _ _ _ _ _ (rg.le (hLy.trans h45)) fun H6 h6' => arB_w ?_
   have h46 := h45.trans h6'
   refine ifA_w (fun h7 => skip h46 (by unfold comesB; rw [show hasB s (ofC t.pt) = false by simpa using h7, Bool.and_false])) (fun h7 => ?_)
   have h7 : hasB s (ofC t.pt) = true := by simpa using h7
   have hy : comesB s t = true := by unfold comesB; rw [h6, h7]; rfl
   rw [if_pos hy] at tk
   refine rowK_w (((h5.trans h6').get _ hgt).trans ggt) (ldG_we (ys := thC t) (lb rfl) (by decide) rfl ?_)
   refine okK_w rfl (fL_w ?_)
   rw [ap_eq, List.append_nil]
   refine okK_w rfl (newK_w ?_)
   refine elK_w (ys := thC t) (get_new _ _) (lb rfl) rfl ?_
   have hLn := h46.newr (.row (thC t))
   refine appS_w (sly.le hLn) (m := 1) rfl (by decide) (by rw [List.length_append]; omega) (by rw [List.length_append]; omega) fun g5 H7 ng5 f7 s7 => ?_
   rw [iAdd_]
   refine w64_w (by simp only [Int.ofNat_eq_natCast]; omega) (by simp only [Int.ofNat_eq_natCast]; omega) (ih2 _ _ ⟨⟨fun a ha => f7.has a (hLn.has a (hLy.has a ha)), fun a ha => (f7.get a (hLn.has a (hLy.has a ha)) fun h => of4 a h ha).trans ((hLn.get a (hLy.has a ha)).trans (hLy.get a ha))⟩, j + 1, .at g5 0, .of g5 0, 11, by rw [tk]; simp [Nat.add_assoc], by omega, ?_, fun a ⟨o', ea⟩ ha => (by cases ea; exact ng5 (hLn.has _ (hLy.has _ ha))), (sry.le hLn).fr f7 fun a ha h => hb4 a ha h, fun a ha ⟨o', ea⟩ => (by cases ea; exact ng5 ((sry.le hLn).has _ ha))⟩ (by simp; omega))
   rw [tk, ← List.append_assoc, List.length_append, thsC, List.flatMap_append]
   simpa [thsC] using s7
  ·have hx3 : j = e.2.moved.length + e.2.given.length := by have := of_decide_eq_false hx3; omega
   rw [hx3, List.take_of_length_le (by omega), ← hsucc] at sly
   rw [hx3, List.take_of_length_le (by omega), ← hsucc, iAdd_]
   exact w64_w (by simp only [Int.ofNat_eq_natCast]; omega) (by simp only [Int.ofNat_eq_natCast]; omega) (ih _ _ ⟨hLy, i + 1, p4, c4, z4, by simp, by omega, sly, of4⟩ (by simp; omega))
 ·have hx : i = n := by have := of_decide_eq_false hx; omega
  rw [hx, List.take_of_length_le (by rw [List.length_map]; omega)] at sl ⊢
  exact hk _ _ _ _ hL sl of1
end Go.Proofs
end
