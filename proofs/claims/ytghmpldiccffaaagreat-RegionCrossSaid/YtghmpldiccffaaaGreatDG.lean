import Derived.Test.YtghmpldiccffaaaGreatDT
import Derived.Test.YtghmpldiccffaaaGreatVwClone
import Derived.Test.YtghmpldiccffaaaGreatDX
import Derived.Test.YtghmpldiccffaaaGreatBR
section
/- Copies: of the tree, the table. -/
namespace Go.Proofs
open Go Go.Vw Go.Vw.Ev
set_option linter.unusedVariables false
set_option linter.unusedSimpArgs false

end Go.Proofs
end
section
/- Regions: rows of cells that a call owns; hands; owners; numbers. -/
namespace Go.Proofs
open Go Go.Vw Go.Vw.Ev
set_option linter.unusedVariables false
set_option linter.unusedSimpArgs false

/-! Rows of like cells. -/
theorem flat_len {α : Type} {f : α → List AS} {sz : Nat} (hf : ∀ a, (f a).length = sz) : ∀ l : List α, (l.flatMap f).length = l.length * sz
  | [] => by simp
  | a :: l => by rw [List.flatMap_cons, List.length_append, hf, flat_len hf l, List.length_cons, Nat.add_mul]; omega
theorem flat_at {α : Type} {f : α → List AS} {sz : Nat} (hf : ∀ a, (f a).length = sz) : ∀ (l : List α) (i : Nat) (h : i < l.length), ((l.flatMap f).drop (i * sz)).take sz = f l[i]
  | a :: l, 0, _ => by
    rw [List.flatMap_cons, Nat.zero_mul, List.drop_zero, ← hf a, List.take_left]; rfl
  | a :: l, i + 1, h => by
    have := flat_at hf l i (by simpa using h)
    rw [List.flatMap_cons, show (i + 1) * sz = (f a).length + i * sz by rw [hf, Nat.add_mul]; omega, ← List.drop_drop, List.drop_left, this]
    rfl
theorem flat_cell {α : Type} {f : α → List AS} {sz : Nat} (hf : ∀ a, (f a).length = sz) {l : List α} {i k : Nat} (h : i < l.length) (hk : k < sz) : (l.flatMap f)[i * sz + k]? = (f l[i])[k]? := by
  rw [← flat_at hf l i h, List.getElem?_take_of_lt hk, List.getElem?_drop]
/-- So many cells that a call owns, at p. -/
def SR (sz : Nat) (H : AH) (p : AP) (n z : Nat) (cs : List AS) : Prop := cs.length = n * sz ∧ ((n = 0 ∧ p = .nil) ∨ ∃ b, p = .at b 0 ∧ z = sz ∧ H.has b ∧ H.get b = some (.row cs))
theorem SR.nil {sz : Nat} {H : AH} {z : Nat} : SR sz H .nil 0 z [] := ⟨by simp, .inl ⟨rfl, rfl⟩⟩
theorem SR.fr {sz : Nat} {F : Pn → Prop} {H H' : AH} {p : AP} {n z : Nat} {cs : List AS} (h : SR sz H p n z cs) (k : Fr F H H') (hf : ∀ a, ownP p a → ¬ F a) : SR sz H' p n z cs :=
  ⟨h.1, h.2.imp (fun h => h) fun ⟨b, e, hz, hb, gb⟩ => ⟨b, e, hz, k.has b hb, (k.get b hb (hf b ⟨0, e⟩)).trans gb⟩⟩
theorem SR.le {sz : Nat} {H H' : AH} {p : AP} {n z : Nat} {cs : List AS} (h : SR sz H p n z cs) (k : Le H H') : SR sz H' p n z cs := h.fr (k.fr fun _ => False) fun _ _ h => h
theorem SR.has {sz : Nat} {H : AH} {p : AP} {n z : Nat} {cs : List AS} (h : SR sz H p n z cs) (a : Pn) (ha : ownP p a) : H.has a := by
  obtain ⟨o, rfl⟩ := ha
  rcases h.2 with ⟨_, e⟩ | ⟨b, e, _, hb, _⟩
  · cases e
  · cases e; exact hb
theorem SR.at {sz : Nat} {H : AH} {p : AP} {n z : Nat} {cs : List AS} (h : SR sz H p n z cs) (hn : 0 < n) : ∃ b, p = .at b 0 ∧ H.has b ∧ H.get b = some (.row cs) := by
  rcases h.2 with ⟨h0, _⟩ | ⟨b, e, _, hb, gb⟩
  · omega
  · exact ⟨b, e, hb, gb⟩
theorem Sl.sr {H0 H : AH} {p : AP} {n z sz : Nat} {cs : List AS} (h : Sl H0 H p n z cs sz) : SR sz H p n z cs := ⟨h.len, h.rep.imp (fun h => h) fun ⟨g, h1, h2, h3, h4, _⟩ => ⟨g, h1, h2, h4, h3⟩⟩
theorem appS_w {sz bytes : Nat} {H : AH} {p : AP} {n z m : Nat} {cs ys : List AS} {c : ACap} {K : AP → Nat → ACap → Nat → AH → Bool} (h : SR sz H p n z cs) (hy : ys.length = m * sz) (hpos : 0 < m) (hb : (n + m) * bytes ≤ 140737488355328) (hb2 : n + m ≤ 140737488355328)
    (hk : ∀ g' H', ¬ H.has g' → Fr (ownP p) H H' → SR sz H' (.at g' 0) (n + m) sz (cs ++ ys) → K (.at g' 0) (n + m) (.of g' 0) sz H' = true) : appA H p n z sz bytes ys m c K = true := by
  rw [appA_eq0]
  unfold appA0
  refine fN_w (okK_w (by rw [Nat.ble_eq_true_of_le hb, Nat.ble_eq_true_of_le hb2]; rfl) ?_)
  have hm0 : Nat.beq m 0 = false := by
    cases h : Nat.beq m 0
    · rfl
    · have := Nat.eq_of_beq_eq_true h; omega
  rw [hm0]
  dsimp only
  have hl : (cs ++ ys).length = (n + m) * sz := by rw [List.length_append, h.1, hy, Nat.add_mul]
  rcases h.2 with ⟨rfl, rfl⟩ | ⟨b, rfl, rfl, hh, hg⟩
  · have h0 : cs = [] := List.length_eq_zero_iff.1 (by rw [h.1]; simp)
    subst h0
    refine newK_w (hk _ _ (not_has_nx H) ((Le.new H _).fr _) ⟨hl, .inr ⟨_, rfl, rfl, has_new_self _ _, ?_⟩⟩)
    rw [get_new]; rfl
  · dsimp only
    refine okK_w (Nat.beq_refl _) ?_
    rw [rowW_row hg]
    refine ldN_w (ys := cs) (by rw [h.1]; omega) (by rw [List.drop_zero, ← h.1, List.take_length]) (fL_w ?_)
    rw [ap_eq, wrK_none]
    refine newK_w (hk _ _ (fun hx => not_has_nx (H.del b) (has_del hx)) ⟨fun a ha => has_new (has_del ha), fun a ha hn => ?_⟩ ⟨hl, .inr ⟨_, rfl, rfl, has_new_self _ _, get_new _ _⟩⟩)
    exact (get_new_has (has_del ha)).trans (get_del_ne fun e => hn ⟨0, by rw [e]⟩)
/-! Hands; owners. -/
def hdC (h : Int × Int) : List AS := [.int .i64 h.1, .int .i64 h.2]
def hdsC (l : List (Int × Int)) : List AS := l.flatMap hdC
theorem hdC_len (h : Int × Int) : (hdC h).length = 2 := rfl
def PredH (cl : Cl) (v : AV) (P : Int × Int → Bool) (H : AH) : Prop := ∀ h H' K, Le H H' → (∀ H'', Le H' H'' → K (.s (.bool (P h))) H'' = true) → callV PG cl none v [.agg (hdC h)] H' K = true
def CIndexH (PR : AV → (Int × Int → Bool) → AH → Prop) (cl : Cl) : Prop := ∀ H p n c z hs v P K, SR 2 H p n z (hdsC hs) → n < 10000 → PR v P H →
  (∀ H' (r : Int), Le H H' → (0 ≤ r ↔ hs.any P = true) → K (.s (.int .i64 r)) H' = true) → cl i_slices_IndexFunc_Hand [.s (.slice p n c z), v] H K = true
theorem hds_n {sz : Nat} {α : Type} {f : α → List AS} (hf : ∀ a, (f a).length = sz) (hsz : 0 < sz) {H : AH} {p : AP} {n z : Nat} {l : List α} (h : SR sz H p n z (l.flatMap f)) : l.length = n := by
  have := h.1
  rw [flat_len hf] at this
  exact Nat.eq_of_mul_eq_mul_right hsz this
theorem B_slices_IndexFunc_Hand_ {lf : Nat} {cl : Cl} (hlf : 100000 ≤ lf) {H : AH} {p : AP} {n z : Nat} {c : ACap} {hs : List (Int × Int)} {v : AV} {P : Int × Int → Bool} {K : AV → AH → Bool} (sr : SR 2 H p n z (hdsC hs)) (hn : n < 10000) (hp : PredH cl v P H)
    (hk : ∀ H' (r : Int), Le H H' → (0 ≤ r ↔ hs.any P = true) → K (.s (.int .i64 r)) H' = true) : B_slices_IndexFunc_Hand lf cl p n c z v H K = true := by
  unfold B_slices_IndexFunc_Hand
  have hl := hds_n hdC_len (by decide) sr
  refine loopX_w (fun x Hx => Le H Hx ∧ ∃ i : Nat, x = ((p, n, c, z), v, (n : Int), (i : Int)) ∧ i ≤ n ∧ (hs.take i).any P = false) (fun x => n - x.2.2.2.toNat) ⟨Le.refl _, 0, rfl, by omega, rfl⟩ (by simp; omega) ?_
  rintro self x Hx ⟨hL, i, rfl, hi, hno⟩ ih
  simp only [pR_, fB_eq, iLt_dec]
  refine ifA_w (fun hx => ?_) (fun hx => ?_)
  · have hx : i < n := by have := of_decide_eq_true hx; omega
    have hxl : i < hs.length := by omega
    obtain ⟨b, rfl, hb, gb⟩ := sr.at (by omega)
    simp only [nilK_at, fN_eq, Nat.add_eq, Nat.mul_eq, Nat.zero_add]
    refine idxK_w (by omega) (by omega) ?_
    rw [Int.toNat_natCast]
    have hln := sr.1
    refine rowK_w ((hL.get _ hb).trans gb) (ldG_we (ys := hdC (hs[i]'hxl)) (by omega) (by decide) (flat_at hdC_len hs i hxl) ?_)
    refine hp _ _ _ hL fun H2 h2 => ?_
    show asB (.s (.bool _)) _ = true
    have tk : (hs.take (i + 1)).any P = ((hs.take i).any P || P hs[i]) := by rw [List.take_succ_eq_append_getElem hxl, List.any_append]; simp
    refine (show ifA (P (hs[i]'hxl)) _ _ = true from ifA_w (fun hb' => ?_) (fun hb' => ?_))
    · exact hk _ _ (hL.trans h2) ⟨fun _ => List.any_eq_true.2 ⟨_, List.getElem_mem hxl, hb'⟩, fun _ => by omega⟩
    · rw [iAdd_]
      exact w64_w (by simp only [Int.ofNat_eq_natCast]; omega) (by simp only [Int.ofNat_eq_natCast]; omega) (ih _ _ ⟨hL.trans h2, i + 1, by simp, by omega, by rw [tk, hno, hb']; rfl⟩ (by simp; omega))
  · have hx : i = n := by have := of_decide_eq_false hx; omega
    rw [hx, ← hl, List.take_length] at hno
    exact hk _ _ hL ⟨fun h => absurd h (by decide), fun h => by rw [hno] at h; cases h⟩
def CContH (PR : AV → (Int × Int → Bool) → AH → Prop) (cl : Cl) : Prop := ∀ H p n c z hs v P K, SR 2 H p n z (hdsC hs) → n < 10000 → PR v P H →
  (∀ H', Le H H' → K (.s (.bool (hs.any P))) H' = true) → cl i_slices_ContainsFunc_Hand [.s (.slice p n c z), v] H K = true
theorem B_slices_ContainsFunc_Hand_ {lf : Nat} {cl : Cl} {PR : AV → (Int × Int → Bool) → AH → Prop} (hix : CIndexH PR cl) {H : AH} {p : AP} {n z : Nat} {c : ACap} {hs : List (Int × Int)} {v : AV} {P : Int × Int → Bool} {K : AV → AH → Bool} (sr : SR 2 H p n z (hdsC hs)) (hn : n < 10000) (hp : PR v P H)
    (hk : ∀ H', Le H H' → K (.s (.bool (hs.any P))) H' = true) : B_slices_ContainsFunc_Hand lf cl p n c z v H K = true := by
  unfold B_slices_ContainsFunc_Hand
  refine hix _ _ _ _ _ _ _ _ _ sr hn hp fun H' r hL hr => arI_w ?_
  rw [fB_eq, iLe_dec]
  have e : decide (Int.ofNat 0 ≤ r) = hs.any P := by
    rw [Bool.eq_iff_iff, decide_eq_true_eq]
    exact hr
  rw [e]
  exact hk _ hL
def CHanded1 (cl : Cl) : Prop := ∀ h g k H K, H.has g → H.get g = some (.row [.int .i64 k]) → (∀ H', Le H H' → K (.s (.bool (decide (h.1 = k)))) H' = true) → cl i_region_handed_1 [.agg (hdC h), .s (.ptr (.at g 0))] H K = true
theorem B_region_handed_1_ {lf : Nat} {cl : Cl} {h : Int × Int} {g : Pn} {k : Int} {H : AH} {K : AV → AH → Bool} (hh : H.has g) (hg : H.get g = some (.row [.int .i64 k])) (hk : ∀ H', Le H H' → K (.s (.bool (decide (h.1 = k)))) H' = true) :
    B_region_handed_1 lf cl (hdC h) (.at g 0) H K = true := by
  unfold B_region_handed_1
  refine new_w fun g1 H1 h1 hg1 ng1 gg1 => ?_
  refine rowK_w gg1 (ldI_w (n := h.1) rfl ?_)
  simp only [nilK_at]
  refine rowK_w ((h1.get _ hh).trans hg) (ldI_w (n := k) rfl ?_)
  rw [fB_eq, iEq_dec]
  exact hk _ h1
/-- The test whether a cell is handed over. -/
def isH (v : AV) (P : Int × Int → Bool) (H : AH) : Prop := ∃ g k, v = .s (.func i_region_handed_1 [] [.ptr (.at g 0)]) ∧ H.has g ∧ H.get g = some (.row [.int .i64 k]) ∧ P = fun h => decide (h.1 = k)
def BoolF (f : Nat) : Prop := ∃ t, callable PG f = some [t] ∧ PG.underlying t = some .bool
theorem isH_pred {cl : Cl} (hc : BoolF i_region_handed_1) (h1 : CHanded1 cl) {v : AV} {P : Int × Int → Bool} {H : AH} (h : isH v P H) : PredH cl v P H := by
  obtain ⟨g, k, rfl, hh, hg, rfl⟩ := h
  obtain ⟨t, c1, c2⟩ := hc
  intro h H' K hL hk
  refine callV_bool c1 c2 ?_
  exact h1 h g k H' _ (hL.has _ hh) ((hL.get _ hh).trans hg) fun H2 h2 => arB_w (hk _ h2)
def handB (hs : List (Int × Int)) (k : Int) : Bool := hs.any fun h => decide (h.1 = k)
def CHanded (cl : Cl) : Prop := ∀ H p n c z hs k K, SR 2 H p n z (hdsC hs) → n < 10000 → (∀ H', Le H H' → K (.s (.bool (handB hs k))) H' = true) → cl i_region_handed [.s (.slice p n c z), .s (.int .i64 k)] H K = true
theorem B_region_handed_ {lf : Nat} {cl : Cl} (hct : CContH isH cl) {H : AH} {p : AP} {n z : Nat} {c : ACap} {hs : List (Int × Int)} {k : Int} {K : AV → AH → Bool} (sr : SR 2 H p n z (hdsC hs)) (hn : n < 10000) (hk : ∀ H', Le H H' → K (.s (.bool (handB hs k))) H' = true) :
    B_region_handed lf cl p n c z k H K = true := by
  unfold B_region_handed
  refine new_w fun g H1 h1 hg ng gg => ?_
  exact hct _ _ _ _ _ _ _ _ _ (sr.le h1) hn ⟨g, k, rfl, hg, gg, rfl⟩ fun H2 h2 => arB_w (hk _ (h1.trans h2))
/-- A map of owners at g. -/
structure OM (H : AH) (g : Pn) (n : Int) (l : List (Int × Int)) : Prop where
  has : H.has g
  get : H.get g = some (.row (.int .i64 n :: hdsC l))
  len : l.length = 16
theorem OM.fr {F : Pn → Prop} {H H' : AH} {g : Pn} {n : Int} {l : List (Int × Int)} (h : OM H g n l) (k : Fr F H H') (hf : ¬ F g) : OM H' g n l := ⟨k.has g h.has, (k.get g h.has hf).trans h.get, h.len⟩
theorem OM.le {H H' : AH} {g : Pn} {n : Int} {l : List (Int × Int)} (h : OM H g n l) (k : Le H H') : OM H' g n l := h.fr (k.fr fun _ => False) fun h => h
def owAt (l : List (Int × Int)) (c : Int) : Int × Int := if isC c = true then l.getD c.toNat (0, 0) else (0, 0)
theorem isC_iff {c : Int} : isC c = true ↔ 0 ≤ c ∧ c < 16 := by unfold isC; rw [Bool.and_eq_true, decide_eq_true_eq, decide_eq_true_eq]
theorem ow_cell {H : AH} {g : Pn} {n : Int} {l : List (Int × Int)} (h : OM H g n l) {c : Int} (hc : isC c = true) : ((AS.int .i64 n :: hdsC l).drop (0 + 1 + c.toNat * 2)).take 2 = hdC (owAt l c) ∧ 0 + 1 + c.toNat * 2 + 2 ≤ (AS.int .i64 n :: hdsC l).length := by
  have hb := isC_iff.1 hc
  have hl := h.len
  have hi : c.toNat < l.length := by omega
  refine ⟨?_, by rw [List.length_cons, hdsC, flat_len hdC_len]; omega⟩
  unfold owAt
  rw [if_pos hc, show 0 + 1 + c.toNat * 2 = c.toNat * 2 + 1 by omega, List.drop_succ_cons, hdsC, flat_at hdC_len l _ hi]
  simp [hi]
def COwOf (cl : Cl) : Prop := ∀ H g n l c K, OM H g n l → (∀ H', Le H H' → K (.tup [.agg (hdC (owAt l c)), .s (.bool (isC c))]) H' = true) → cl i_owner_Map_Of [.s (.ptr (.at g 0)), .s (.int .i64 c)] H K = true
theorem B_owner_Map_Of_ {lf : Nat} {cl : Cl} (his : CIsC cl) {H : AH} {g : Pn} {n : Int} {l : List (Int × Int)} {c : Int} {K : AV → AH → Bool} (om : OM H g n l) (hk : ∀ H', Le H H' → K (.tup [.agg (hdC (owAt l c)), .s (.bool (isC c))]) H' = true) :
    B_owner_Map_Of lf cl (.at g 0) c H K = true := by
  unfold B_owner_Map_Of
  refine newK_w ?_
  have h1 := Le.new H (.row [.int .i64 (Int.ofNat 0), .int .i64 (Int.ofNat 0)])
  have g1 := get_new H (.row [.int .i64 (Int.ofNat 0), .int .i64 (Int.ofNat 0)])
  have n1 := not_has_nx H
  generalize H.new (.row [.int .i64 (Int.ofNat 0), .int .i64 (Int.ofNat 0)]) = H1 at *
  generalize H.nx = gn at *
  refine his _ _ _ (arB_w ?_)
  rw [fB_eq]
  refine ifA_w (fun hx => ?_) (fun hx => ?_)
  · have hc : isC c = false := by simpa using hx
    have e : owAt l c = (0, 0) := by unfold owAt; rw [hc]; rfl
    refine stoN_we (ds := hdC (0, 0)) g1 rfl (by simp) rfl (rowK_w (get_put _ _ _) (ldG_we (ys := hdC (0, 0)) (Nat.le_refl 2) (by decide) rfl ?_))
    have := hk _ (h1.put n1 (.row (hdC (0, 0))))
    rw [e, hc] at this
    exact this
  · have hc : isC c = true := by simpa using hx
    have hb := isC_iff.1 hc
    obtain ⟨e1, e2⟩ := ow_cell om hc
    simp only [nilK_at, fN_eq, Nat.add_eq, Nat.mul_eq]
    refine idxK_w (by omega) (by omega) (rowK_w ((h1.get _ om.has).trans om.get) (ldG_we (ys := hdC (owAt l c)) e2 (by decide) e1 ?_))
    refine stoN_we (ds := hdC (owAt l c)) g1 rfl (by simp) (by simp [hdC]) (rowK_w (get_put _ _ _) (ldG_we (ys := hdC (owAt l c)) (Nat.le_refl 2) (by decide) rfl ?_))
    have := hk _ (h1.put n1 (.row (hdC (owAt l c))))
    rw [hc] at this
    exact this
def clamp4 (n : Int) : Int := min (max n 1) 4
def owInit (n : Int) : List (Int × Int) := (List.range 16).map fun c : Nat => (Int.tmod (c : Int) n, (0 : Int))
def COwNew (cl : Cl) : Prop := ∀ n H K, (∀ H' g, Le H H' → OM H' g (clamp4 n) (owInit (clamp4 n)) → ¬ H.has g → K (.s (.ptr (.at g 0))) H' = true) → cl i_owner_New [.s (.int .i64 n)] H K = true
theorem hds_set {A B : List (Int × Int)} {a b v n : Int} {i : Nat} (h : A.length = i) : (AS.int .i64 n :: hdsC (A ++ (a, b) :: B)).set (0 + 1 + i * 2 + 0) (.int .i64 v) = .int .i64 n :: hdsC (A ++ (v, b) :: B) := by
  have e : (hdsC A).length = i * 2 := by rw [hdsC, flat_len hdC_len, h]
  have ea : ∀ X : List (Int × Int), hdsC (A ++ X) = hdsC A ++ hdsC X := fun X => List.flatMap_append
  rw [show 0 + 1 + i * 2 + 0 = (i * 2) + 1 by omega, List.set_cons_succ, ea, ea, List.set_append_right _ _ (by omega), e, Nat.sub_self]
  rfl
theorem B_owner_New_ {lf : Nat} {cl : Cl} (hlf : 1000 ≤ lf) {n : Int} {H : AH} {K : AV → AH → Bool} (hk : ∀ H' g, Le H H' → OM H' g (clamp4 n) (owInit (clamp4 n)) → ¬ H.has g → K (.s (.ptr (.at g 0))) H' = true) : B_owner_New lf cl n H K = true := by
  unfold B_owner_New
  rw [mxA_, fI_eq, mnA_, fI_eq]
  show newK H (.row (.int .i64 (clamp4 n) :: hdsC (List.replicate 16 (0, 0)))) _ = true
  have hc : 1 ≤ clamp4 n ∧ clamp4 n ≤ 4 := by unfold clamp4; omega
  generalize clamp4 n = m at *
  refine new_w fun g H1 h1 hg ng gg => ?_
  refine loopX_w (fun x Hx => ∃ i : Nat, x = (.at g 0, (i : Int)) ∧ i ≤ 16 ∧ Le H Hx ∧ Hx.has g ∧ Hx.get g = some (.row (.int .i64 m :: hdsC (((List.range i).map fun c : Nat => (Int.tmod (c : Int) m, (0 : Int))) ++ List.replicate (16 - i) (0, 0))))) (fun x => 16 - x.2.toNat)
    ⟨0, rfl, by omega, h1, hg, by simpa using gg⟩ (by simp; omega) ?_
  rintro self x Hx ⟨i, rfl, hi, hL, hgx, ggx⟩ ih
  simp only [pR_, fB_eq, iLt_dec, nilK_at, fN_eq, Nat.add_eq, Nat.mul_eq]
  refine ifA_w (fun hx => ?_) (fun hx => ?_)
  · have hx : i < 16 := by have := of_decide_eq_true hx; simp only [Int.ofNat_eq_natCast] at this; omega
    refine rowK_w ggx (ldI_w (n := m) rfl ?_)
    refine okK_w (by rw [iEq_dec, decide_eq_false (show ¬ m = Int.ofNat 0 by simp only [Int.ofNat_eq_natCast]; omega)]; rfl) ?_
    rw [fI_eq]
    refine idxK_w (by omega) (by omega) ?_
    rw [Int.toNat_natCast]
    have e1 : List.replicate (16 - i) ((0 : Int), (0 : Int)) = (0, 0) :: List.replicate (16 - (i + 1)) (0, 0) := by rw [show 16 - i = (16 - (i + 1)) + 1 by omega, List.replicate_succ]
    have el : ((List.range i).map fun c : Nat => (Int.tmod (c : Int) m, (0 : Int))).length = i := by simp
    rw [e1] at ggx
    refine sto1_w ggx (by rw [List.length_cons, hdsC, flat_len hdC_len]; simp; omega) ?_
    rw [hds_set el, iAdd_]
    refine w64_w (by simp only [Int.ofNat_eq_natCast]; omega) (by simp only [Int.ofNat_eq_natCast]; omega) (ih _ _ ⟨i + 1, by simp, by omega, hL.put ng _, hgx, ?_⟩ (by simp; omega))
    rw [get_put, List.range_succ, List.map_append, List.append_assoc]
    rfl
  · have hx : i = 16 := by have := of_decide_eq_false hx; simp only [Int.ofNat_eq_natCast] at this; omega
    subst hx
    refine hk _ _ hL ⟨hgx, ?_, by simp [owInit]⟩ ng
    rw [ggx]
    simp [owInit]
/-! Numbers; watchers. -/
def numE (id given : Int) : Int := 4 * min (max given 0) 200000 + min (max id 0) 3
def CNumber (cl : Cl) : Prop := ∀ id given H K, K (.s (.int .i64 (numE id given))) H = true → cl i_thing_Number [.s (.int .i64 id), .s (.int .i64 given)] H K = true
theorem B_thing_Number_ {lf : Nat} {cl : Cl} {id given : Int} {H : AH} {K : AV → AH → Bool} (hk : K (.s (.int .i64 (numE id given))) H = true) : B_thing_Number lf cl id given H K = true := by
  unfold B_thing_Number
  simp only [mxA_, mnA_, fI_eq, iMul_, iAdd_, Int.ofNat_eq_natCast]
  refine w64_w (by omega) (by omega) (w64_w (by omega) (by omega) ?_)
  exact hk
def watB (c : Cm) : Bool := decide (6 ≤ c.kind) && decide (c.kind ≤ 8)
def CWat (cl : Cl) : Prop := ∀ c H K, (∀ H', Le H H' → K (.s (.bool (watB c))) H' = true) → cl i_cmd_Watches [.agg (cmC c)] H K = true
theorem B_cmd_Watches_ {lf : Nat} {cl : Cl} {c : Cm} {H : AH} {K : AV → AH → Bool} (hk : ∀ H', Le H H' → K (.s (.bool (watB c))) H' = true) : B_cmd_Watches lf cl (cmC c) H K = true := by
  unfold B_cmd_Watches
  refine new_w fun g H1 h1 hg ng gg => ?_
  refine rowK_w gg (ldI_w (n := c.kind) rfl ?_)
  have := hk H1 h1
  unfold watB at this
  simp only [fB_eq, iLe_dec, Int.ofNat_eq_natCast]
  refine ifA_w (fun hx => ?_) (fun hx => ?_)
  · refine rowK_w gg (ldI_w (n := c.kind) rfl ?_)
    rw [show decide (6 ≤ c.kind) = true from hx, Bool.true_and] at this
    exact this
  · rw [show decide (6 ≤ c.kind) = false from hx, Bool.false_and] at this
    exact this
structure Wt where
  on : Bool
  ses : Int
  start : Int
  r : Rc
def wtC (w : Wt) : List AS := [.bool w.on, .int .i64 w.ses, .int .i64 w.start, .int .i64 w.r.x0, .int .i64 w.r.y0, .int .i64 w.r.x1, .int .i64 w.r.y1]
def wtsC (l : List Wt) : List AS := l.flatMap wtC
theorem wtC_len (w : Wt) : (wtC w).length = 7 := rfl
def wt0 : Wt := ⟨false, 0, 0, ⟨0, 0, 0, 0⟩⟩
/-- A book of watchers at g. -/
structure BK (H : AH) (g : Pn) (l : List Wt) : Prop where
  has : H.has g
  get : H.get g = some (.row (wtsC l))
  len : l.length = 4
theorem BK.fr {F : Pn → Prop} {H H' : AH} {g : Pn} {l : List Wt} (h : BK H g l) (k : Fr F H H') (hf : ¬ F g) : BK H' g l := ⟨k.has g h.has, (k.get g h.has hf).trans h.get, h.len⟩
def CBkNew (cl : Cl) : Prop := ∀ H K, (∀ H' g, Le H H' → BK H' g (List.replicate 4 wt0) → ¬ H.has g → K (.s (.ptr (.at g 0))) H' = true) → cl i_watch_New [] H K = true
theorem B_watch_New_ {lf : Nat} {cl : Cl} {H : AH} {K : AV → AH → Bool} (hk : ∀ H' g, Le H H' → BK H' g (List.replicate 4 wt0) → ¬ H.has g → K (.s (.ptr (.at g 0))) H' = true) : B_watch_New lf cl H K = true := by
  unfold B_watch_New
  exact new_w fun g H1 h1 hg ng gg => hk _ _ h1 ⟨hg, gg, rfl⟩ ng
end Go.Proofs
end
section
/- A region: what stands in its row; whose a cell is; things' commands. -/
namespace Go.Proofs
open Go Go.Vw Go.Vw.Ev
set_option linter.unusedVariables false
set_option linter.unusedSimpArgs false

/-! The row. -/
def c48 (f : Nat → AS) : List AS := (List.range 48).map f
def updA {α : Type} (f : Nat → α) (k : Nat) (x : α) : Nat → α := fun i => if i = k then x else f i
theorem updA_same {α : Type} (f : Nat → α) (k : Nat) (x : α) : updA f k x k = x := by simp [updA]
theorem updA_ne {α : Type} (f : Nat → α) {k i : Nat} (x : α) (h : i ≠ k) : updA f k x i = f i := by simp [updA, h]
theorem c48_len (f : Nat → AS) : (c48 f).length = 48 := by simp [c48]
theorem c48_get (f : Nat → AS) {i : Nat} (h : i < 48) : (c48 f)[i]? = some (f i) := by simp [c48, h]
theorem c48_set (f : Nat → AS) (k : Nat) (u : AS) : (c48 f).set k u = c48 (updA f k u) := by
  refine List.ext_getElem? fun i => ?_
  rw [List.getElem?_set]
  by_cases hi : i < 48
  · rw [c48_get _ hi, c48_get _ hi, c48_len]
    by_cases e : k = i
    · subst e; rw [if_pos rfl, if_pos hi, updA_same]
    · rw [if_neg e, updA_ne _ _ (fun h => e h.symm)]
  · have h1 : ∀ g : Nat → AS, (c48 g)[i]? = none := fun g => List.getElem?_eq_none (by rw [c48_len]; omega)
    rw [h1, h1, c48_len]
    by_cases e : k = i
    · subst e; rw [if_pos rfl, if_neg hi]
    · rw [if_neg e]
structure Tkn where
  beat : Int
  srv : Int
  id : Int
  c : Cm
def tkC (t : Tkn) : List AS := .int .i64 t.beat :: .int .i64 t.srv :: .int .i64 t.id :: cmC t.c
theorem thC_len' (t : Th) : (thC t).length = 11 := rfl
structure Nt where
  src : Int
  beat : Int
  moved : List Th
  hands : List (Int × Int)
  given : List Th
  watch : List Cm
structure RgSt where
  id : Int
  n : Int
  beat : Int
  given : Int
  took : Int
  th : List (Int × Th)
  ow : List (Int × Int)
  wat : List Wt
  was : List Th
  watch : List Cm
  hands : List (Int × Int)
  order : List Tkn
  last : Nt
/-- A slice in a row that the row owns. -/
def SF {α : Type} (sz : Nat) (fc : α → List AS) (H : AH) (x : AS) (l : List α) : Prop := ∃ p c z, x = .slice p l.length c z ∧ CapOk c l.length ∧ SR sz H p l.length z (l.flatMap fc)
def ownA (x : AS) (a : Pn) : Prop := match x with
  | .slice p _ _ _ => ownP p a
  | _ => False
theorem SF.fr {α : Type} {sz : Nat} {fc : α → List AS} {F : Pn → Prop} {H H' : AH} {x : AS} {l : List α} (h : SF sz fc H x l) (k : Fr F H H') (hf : ∀ a, ownA x a → ¬ F a) : SF sz fc H' x l := by
  obtain ⟨p, c, z, rfl, hc, sr⟩ := h
  exact ⟨p, c, z, rfl, hc, sr.fr k hf⟩
theorem SF.has {α : Type} {sz : Nat} {fc : α → List AS} {H : AH} {x : AS} {l : List α} (h : SF sz fc H x l) (a : Pn) (ha : ownA x a) : H.has a := by
  obtain ⟨p, c, z, rfl, hc, sr⟩ := h
  exact sr.has a ha
theorem SF.nil {α : Type} {sz : Nat} {fc : α → List AS} {H : AH} {z : Nat} : SF sz fc H (.slice .nil 0 (.lit 0) z) ([] : List α) := ⟨.nil, .lit 0, z, rfl, Nat.le_refl 0, SR.nil⟩
/-- The same, for reading alone. -/
def SW {α : Type} (sz : Nat) (fc : α → List AS) (H : AH) (x : AS) (l : List α) : Prop := ∃ p c z, x = .slice p l.length c z ∧ SR sz H p l.length z (l.flatMap fc)
theorem SW.fr {α : Type} {sz : Nat} {fc : α → List AS} {F : Pn → Prop} {H H' : AH} {x : AS} {l : List α} (h : SW sz fc H x l) (k : Fr F H H') (hf : ∀ a, ownA x a → ¬ F a) : SW sz fc H' x l := by
  obtain ⟨p, c, z, rfl, sr⟩ := h
  exact ⟨p, c, z, rfl, sr.fr k hf⟩
theorem SW.nil {α : Type} {sz : Nat} {fc : α → List AS} {H : AH} {z : Nat} : SW sz fc H (.slice .nil 0 (.lit 0) z) ([] : List α) := ⟨.nil, .lit 0, z, rfl, SR.nil⟩
/-- What a region's row holds: f its cells, Q its blocks by the row's places. -/
structure RB (H : AH) (s : RgSt) (f : Nat → AS) (Q : Nat → Pn → Prop) : Prop where
  i0 : f 0 = .int .i64 s.id
  i1 : f 1 = .int .i64 s.n
  i2 : f 2 = .int .i64 s.beat
  i34 : f 34 = .int .i64 s.given
  i37 : f 37 = .int .i64 s.took
  i39 : f 39 = .int .i64 s.last.src
  i40 : f 40 = .int .i64 s.last.beat
  s4 : SW 11 thC H (f 4) s.was
  s35 : SF 22 cmC H (f 35) s.watch
  s36 : SF 2 hdC H (f 36) s.hands
  s38 : SF 25 tkC H (f 38) s.order
  s41 : SF 11 thC H (f 41) s.last.moved
  s42 : SF 2 hdC H (f 42) s.last.hands
  s43 : SF 11 thC H (f 43) s.last.given
  s44 : SF 22 cmC H (f 44) s.last.watch
  tab : ∃ gt, f 45 = .ptr (.at gt 0) ∧ TT H gt s.th (Q 45)
  own : ∃ go, f 46 = .ptr (.at go 0) ∧ OM H go s.n s.ow ∧ ∀ a, Q 46 a ↔ a = go
  book : ∃ gb, f 47 = .ptr (.at gb 0) ∧ BK H gb s.wat ∧ ∀ a, Q 47 a ↔ a = gb
  q4 : ∀ a, Q 4 a ↔ ownA (f 4) a
  q35 : ∀ a, Q 35 a ↔ ownA (f 35) a
  q36 : ∀ a, Q 36 a ↔ ownA (f 36) a
  q38 : ∀ a, Q 38 a ↔ ownA (f 38) a
  q41 : ∀ a, Q 41 a ↔ ownA (f 41) a
  q42 : ∀ a, Q 42 a ↔ ownA (f 42) a
  q43 : ∀ a, Q 43 a ↔ ownA (f 43) a
  q44 : ∀ a, Q 44 a ↔ ownA (f 44) a
  dis : ∀ i j a, Q i a → Q j a → i = j
  qh : ∀ i a, Q i a → H.has a
  pl : (c48 f).all plain = true
theorem pl_upd {f : Nat → AS} {k : Nat} {u : AS} (h : (c48 f).all plain = true) (hu : plain u = true) : (c48 (updA f k u)).all plain = true := by rw [← c48_set]; exact set_plain h hu k
theorem RB.fr {F : Pn → Prop} {H H' : AH} {s : RgSt} {f : Nat → AS} {Q : Nat → Pn → Prop} (r : RB H s f Q) (k : Fr F H H') (hf : ∀ i a, i ≠ 0 → Q i a → ¬ F a) : RB H' s f Q :=
  { r with
    s4 := r.s4.fr k fun a h => hf 4 a (by decide) ((r.q4 a).2 h)
    s35 := r.s35.fr k fun a h => hf 35 a (by decide) ((r.q35 a).2 h)
    s36 := r.s36.fr k fun a h => hf 36 a (by decide) ((r.q36 a).2 h)
    s38 := r.s38.fr k fun a h => hf 38 a (by decide) ((r.q38 a).2 h)
    s41 := r.s41.fr k fun a h => hf 41 a (by decide) ((r.q41 a).2 h)
    s42 := r.s42.fr k fun a h => hf 42 a (by decide) ((r.q42 a).2 h)
    s43 := r.s43.fr k fun a h => hf 43 a (by decide) ((r.q43 a).2 h)
    s44 := r.s44.fr k fun a h => hf 44 a (by decide) ((r.q44 a).2 h)
    tab := r.tab.imp fun gt h => ⟨h.1, h.2.fr k fun a ha => hf 45 a (by decide) ha⟩
    own := r.own.imp fun go h => ⟨h.1, h.2.1.fr k (hf 46 go (by decide) ((h.2.2 go).2 rfl)), h.2.2⟩
    book := r.book.imp fun gb h => ⟨h.1, h.2.1.fr k (hf 47 gb (by decide) ((h.2.2 gb).2 rfl)), h.2.2⟩
    qh := fun i a h => k.has a (r.qh i a h) }
theorem dis_upd {H : AH} {Q : Nat → Pn → Prop} {k : Nat} {X : Pn → Prop} (hd : ∀ i j a, Q i a → Q j a → i = j) (hh : ∀ i a, Q i a → H.has a) (hx : ∀ a, X a → Q k a ∨ ¬ H.has a) : ∀ i j a, updA Q k X i a → updA Q k X j a → i = j := by
  intro i j a h1 h2
  by_cases ei : i = k
  · by_cases ej : j = k
    · rw [ei, ej]
    · subst ei
      rw [updA_same] at h1
      rw [updA_ne _ _ ej] at h2
      exact (hx a h1).elim (fun h => hd _ _ a h h2) fun h => absurd (hh j a h2) h
  · rw [updA_ne _ _ ei] at h1
    by_cases ej : j = k
    · subst ej
      rw [updA_same] at h2
      exact (hx a h2).elim (fun h => hd _ _ a h1 h) fun h => absurd (hh i a h1) h
    · rw [updA_ne _ _ ej] at h2
      exact hd i j a h1 h2
/-- Another table, at the same place. -/
theorem RB.tabOp {H H' : AH} {s : RgSt} {f : Nat → AS} {Q : Nat → Pn → Prop} {gt : Pn} {L' : List (Int × Th)} {O' : Pn → Prop} (r : RB H s f Q) (e : f 45 = .ptr (.at gt 0)) (k : Fr (Q 45) H H') (t : TT H' gt L' O') (o : ∀ a, O' a → Q 45 a ∨ ¬ H.has a) :
    RB H' { s with th := L' } f (updA Q 45 O') :=
  have hne : ∀ i a, i ≠ 45 → Q i a → ¬ Q 45 a := fun i a hi h h' => hi (r.dis i 45 a h h')
  { i0 := r.i0, i1 := r.i1, i2 := r.i2, i34 := r.i34, i37 := r.i37, i39 := r.i39, i40 := r.i40
    s4 := r.s4.fr k fun a h => hne 4 a (by decide) ((r.q4 a).2 h)
    s35 := r.s35.fr k fun a h => hne 35 a (by decide) ((r.q35 a).2 h)
    s36 := r.s36.fr k fun a h => hne 36 a (by decide) ((r.q36 a).2 h)
    s38 := r.s38.fr k fun a h => hne 38 a (by decide) ((r.q38 a).2 h)
    s41 := r.s41.fr k fun a h => hne 41 a (by decide) ((r.q41 a).2 h)
    s42 := r.s42.fr k fun a h => hne 42 a (by decide) ((r.q42 a).2 h)
    s43 := r.s43.fr k fun a h => hne 43 a (by decide) ((r.q43 a).2 h)
    s44 := r.s44.fr k fun a h => hne 44 a (by decide) ((r.q44 a).2 h)
    tab := ⟨gt, e, t⟩
    own := r.own.imp fun go h => ⟨h.1, h.2.1.fr k (hne 46 go (by decide) ((h.2.2 go).2 rfl)), h.2.2⟩
    book := r.book.imp fun gb h => ⟨h.1, h.2.1.fr k (hne 47 gb (by decide) ((h.2.2 gb).2 rfl)), h.2.2⟩
    q4 := r.q4, q35 := r.q35, q36 := r.q36, q38 := r.q38, q41 := r.q41, q42 := r.q42, q43 := r.q43, q44 := r.q44
    pl := r.pl
    dis := dis_upd r.dis r.qh o
    qh := fun i a h => by
      by_cases ei : i = 45
      · subst ei
        rw [updA_same] at h
        exact t.has a h
      · rw [updA_ne _ _ ei] at h
        exact k.has a (r.qh i a h) }
/-- A region at g, its blocks O. -/
def RgS (H : AH) (g : Pn) (s : RgSt) (O : Pn → Prop) : Prop := ∃ f Q, RB H s f Q ∧ H.has g ∧ H.get g = some (.row (c48 f)) ∧ (∀ a, Q 0 a ↔ a = g) ∧ ∀ a, O a ↔ ∃ i, Q i a
theorem RgS.fr {F : Pn → Prop} {H H' : AH} {g : Pn} {s : RgSt} {O : Pn → Prop} (h : RgS H g s O) (k : Fr F H H') (hf : ∀ a, O a → ¬ F a) : RgS H' g s O := by
  obtain ⟨f, Q, r, hg, gg, q0, ho⟩ := h
  exact ⟨f, Q, r.fr k fun i a _ hi => hf a ((ho a).2 ⟨i, hi⟩), k.has g hg, (k.get g hg (hf g ((ho g).2 ⟨0, (q0 g).2 rfl⟩))).trans gg, q0, ho⟩
theorem RgS.le {H H' : AH} {g : Pn} {s : RgSt} {O : Pn → Prop} (h : RgS H g s O) (k : Le H H') : RgS H' g s O := h.fr (k.fr fun _ => False) fun _ _ h => h
theorem RgS.has {H : AH} {g : Pn} {s : RgSt} {O : Pn → Prop} (h : RgS H g s O) (a : Pn) (ha : O a) : H.has a := by
  obtain ⟨f, Q, r, hg, gg, q0, ho⟩ := h
  obtain ⟨i, hi⟩ := (ho a).1 ha
  exact r.qh i a hi
/-! Whose a cell is. -/
def hasB (s : RgSt) (c : Int) : Bool := isC c && decide ((owAt s.ow c).1 = s.id)
def mineB (s : RgSt) (c : Int) : Bool := hasB s c && (!handB s.hands c && !handB s.last.hands c)
def CHas (cl : Cl) : Prop := ∀ H g s O c K, RgS H g s O → (∀ H', Le H H' → K (.s (.bool (hasB s c))) H' = true) → cl i_region_Region_has [.s (.ptr (.at g 0)), .s (.int .i64 c)] H K = true
theorem B_region_Region_has_ {lf : Nat} {cl : Cl} (hof : COwOf cl) {H : AH} {g : Pn} {s : RgSt} {O : Pn → Prop} {c : Int} {K : AV → AH → Bool} (r : RgS H g s O) (hk : ∀ H', Le H H' → K (.s (.bool (hasB s c))) H' = true) : B_region_Region_has lf cl (.at g 0) c H K = true := by
  unfold B_region_Region_has
  obtain ⟨f, Q, r, hg, gg, q0, ho⟩ := r
  obtain ⟨go, e46, om, _⟩ := r.own
  simp only [nilK_at, fN_eq, Nat.add_eq, Nat.zero_add, Nat.add_zero]
  refine rowK_w gg (ldP_w (p := .at go 0) (by rw [c48_get _ (by decide), e46]) ?_)
  refine hof _ _ _ _ _ _ om fun H1 h1 => ?_
  rw [tup2_, asG_]
  refine arB_w (tmp_w rfl rfl fun g2 H2 h2 hg2 ng2 gg2 => ?_)
  have h12 := h1.trans h2
  refine ifA_w (fun hx => ?_) (fun hx => ?_)
  · refine rowK_w gg2 (ldI_w (n := (owAt s.ow c).1) rfl ?_)
    refine rowK_w ((h12.get _ hg).trans gg) (ldI_w (n := s.id) (by rw [c48_get _ (by decide), r.i0]) ?_)
    rw [fB_eq, iEq_dec]
    have := hk H2 h12
    unfold hasB at this
    rw [hx, Bool.true_and] at this
    exact this
  · have := hk H2 h12
    unfold hasB at this
    rw [hx, Bool.false_and] at this
    exact this
/-- What is not too great. -/
structure Sm (s : RgSt) : Prop where
  th : s.th.length < 9000
  g0 : 0 ≤ s.given
  g1 : s.given ≤ 1000000
  hl : s.hands.length < 10000
  lhl : s.last.hands.length < 10000
  ol : s.order.length ≤ 1000000
  t0 : 0 ≤ s.took
def CMine (cl : Cl) : Prop := ∀ H g s O c K, RgS H g s O → Sm s → (∀ H', Le H H' → K (.s (.bool (mineB s c))) H' = true) → cl i_region_Region_Mine [.s (.ptr (.at g 0)), .s (.int .i64 c)] H K = true
theorem B_region_Region_Mine_ {lf : Nat} {cl : Cl} (hh : CHas cl) (hd : CHanded cl) {H : AH} {g : Pn} {s : RgSt} {O : Pn → Prop} {c : Int} {K : AV → AH → Bool} (rg : RgS H g s O) (sm : Sm s) (hk : ∀ H', Le H H' → K (.s (.bool (mineB s c))) H' = true) :
    B_region_Region_Mine lf cl (.at g 0) c H K = true := by
  unfold B_region_Region_Mine
  refine hh _ _ _ _ _ _ rg fun H1 h1 => arB_w ?_
  have no : ∀ {H'}, Le H H' → mineB s c = false → K (.s (.bool false)) H' = true := fun h e => by have := hk _ h; rw [e] at this; exact this
  refine ifA_w (fun hx => ?_) (fun hx => no h1 (by unfold mineB; rw [hx]; rfl))
  obtain ⟨f, Q, r, hg, gg, q0, ho⟩ := rg
  obtain ⟨p, cc, z, e36, hc, sr⟩ := r.s36
  simp only [nilK_at, fN_eq, Nat.add_eq, Nat.zero_add, Nat.add_zero]
  refine rowK_w ((h1.get _ hg).trans gg) (ldSl_w (by rw [c48_get _ (by decide), e36]) ?_)
  refine hd _ _ _ _ _ _ _ _ (sr.le h1) sm.hl fun H2 h2 => arB_w ?_
  have h12 := h1.trans h2
  rw [fB_eq]
  refine ifA_w (fun hy => ?_) (fun hy => no h12 (by unfold mineB; rw [hx, hy]; rfl))
  obtain ⟨p2, c2, z2, e42, hc2, sr2⟩ := r.s42
  refine rowK_w ((h12.get _ hg).trans gg) (ldSl_w (by rw [c48_get _ (by decide), e42]) ?_)
  refine hd _ _ _ _ _ _ _ _ (sr2.le h12) sm.lhl fun H3 h3 => arB_w ?_
  rw [fB_eq]
  have := hk H3 (h12.trans h3)
  unfold mineB at this
  rw [hx, hy, Bool.true_and, Bool.true_and] at this
  exact this
/-! Commands of things. -/
def putN (s : RgSt) : Int := numE s.id s.given
theorem putN_nonneg (s : RgSt) : 0 ≤ putN s := by unfold putN numE; omega
noncomputable def doesE (s : RgSt) (c : Cm) : Int :=
  if c.kind = 1 ∧ ofE c.pt ≠ 0 then ofE c.pt else
  if c.kind = 1 ∧ mineB s (ofC c.pt) = false then 17 else
  if checkE s.th c = 16 ∧ (c.kind = 2 ∧ mineB s (ofC c.pt) = false) then 0 else
  if checkE s.th c ≠ 0 then checkE s.th c else
  if c.kind = 1 ∧ 1000000 < putN s then 16 else 0
noncomputable def doesI (s : RgSt) (c : Cm) : Int := if doesE s c ≠ 0 then 0 else if c.kind = 1 then putN s else c.id
noncomputable def doesS (s : RgSt) (c : Cm) : RgSt := if doesE s c ≠ 0 then s else if c.kind = 1 then { s with th := aSet s.th (putN s) (putT c (putN s)), given := s.given + 1 } else { s with th := doneL s.th c 0 }
def CDoes (cl : Cl) : Prop := ∀ H g s O c K, RgS H g s O → Sm s → (∀ H' O', Fr O H H' → RgS H' g (doesS s c) O' → (∀ a, O' a → O a ∨ ¬ H.has a) → K (.tup [.s (.int .i64 (doesI s c)), .s (.int .i64 (doesE s c))]) H' = true) →
  cl i_region_Region_does [.s (.ptr (.at g 0)), .agg (cmC c)] H K = true
theorem fr_q {Q : Nat → Pn → Prop} {O : Pn → Prop} (ho : ∀ a, O a ↔ ∃ i, Q i a) {H H' : AH} {i : Nat} (k : Fr (Q i) H H') : Fr O H H' := k.mono fun a h => (ho a).2 ⟨i, h⟩
theorem B_region_Region_does_ {lf : Nat} {cl : Cl} (hof : COfC cl) (hmine : CMine cl) (hnum : CNumber cl) (hcheck : CCheck cl) (hlay : CTLay cl) (hdone : CDone cl) {H : AH} {g : Pn} {s : RgSt} {O : Pn → Prop} {c : Cm} {K : AV → AH → Bool} (rg : RgS H g s O) (sm : Sm s)
    (hk : ∀ H' O', Fr O H H' → RgS H' g (doesS s c) O' → (∀ a, O' a → O a ∨ ¬ H.has a) → K (.tup [.s (.int .i64 (doesI s c)), .s (.int .i64 (doesE s c))]) H' = true) : B_region_Region_does lf cl (.at g 0) (cmC c) H K = true := by
  unfold B_region_Region_does
  have keep : ∀ {H'} {e : Int}, Le H H' → doesE s c = e → e ≠ 0 → K (.tup [.s (.int .i64 (Int.ofNat 0)), .s (.int .i64 e)]) H' = true := by
    intro H' e hl he hn
    have := hk H' O (hl.fr _) (by unfold doesS; rw [he, if_pos hn]; exact rg.le hl) (fun a h => .inl h)
    unfold doesI at this
    rw [he, if_pos hn] at this
    exact this
  refine new_w fun gc H1 h1 hgc ngc ggc => ?_
  refine rowK_w ggc (ldG_we (ys := ptC c.pt) (lb rfl) (by decide) rfl ?_)
  refine hof _ _ _ fun H2 h2 => ?_
  rw [tup2_]
  refine arI_w (arI_w ?_)
  have h12 := h1.trans h2
  refine hmine H2 g s O _ _ (rg.le h12) sm fun H3 h3 => arB_w ?_
  have h13 := h12.trans h3
  have gc3 := ((h2.trans h3).get _ hgc).trans ggc
  have hgc3 := (h2.trans h3).has _ hgc
  refine joinX_w (fun x Hx => Hx = H3 ∧ ∃ idn : Int, x = (.at g 0, .at gc 0, mineB s (ofC c.pt), idn) ∧ (c.kind = 1 → idn = putN s ∧ ofE c.pt = 0 ∧ mineB s (ofC c.pt) = true) ∧ (c.kind ≠ 1 → idn = 0)) ?_ ?_
  · rintro x Hx ⟨rfl, idn, rfl, k1, k2⟩
    obtain ⟨f, Q, rb, hg, gg, q0, ho⟩ := rg.le h13
    obtain ⟨gt, e45, tt⟩ := rb.tab
    have ngcO : ¬ O gc := fun h => ngc (rg.has _ h)
    simp only [pR_, nilK_at, fN_eq, Nat.add_eq, Nat.zero_add, Nat.add_zero, fB_eq, iEq_dec, iLt_dec]
    refine rowK_w gg (ldP_w (p := .at gt 0) (by rw [c48_get _ (by decide), e45]) ?_)
    refine rowK_w gc3 (ldG_we (ys := cmC c) (lb rfl) (by decide) rfl ?_)
    refine hcheck Hx gt s.th _ c _ tt sm.th fun H4 h4 => arI_w ?_
    have h14 := h13.trans h4
    have gc4 := (h4.get _ hgc3).trans gc3
    have hgc4 := h4.has _ hgc3
    have gg4 := (h4.get _ hg).trans gg
    have hg4 := h4.has _ hg
    have rb4 : RB H4 s f Q := rb.fr (h4.fr fun _ => False) fun _ _ _ _ h => h
    obtain ⟨gt', e45', tt4⟩ := rb4.tab
    obtain rfl : gt' = gt := by rw [e45] at e45'; cases e45'; rfl
    clear gc3 hgc3 gg hg rb tt h13 h12 h1 h2 h3 ggc hgc e45'
    -- it is done
    refine joinX_w (fun x Hx => Hx = H4 ∧ x = (.at g 0, .at gc 0, idn) ∧ doesE s c = 0 ∧ (checkE s.th c = 0 ∨ checkE s.th c = 16)) ?_ ?_
    · rintro x Hx ⟨rfl, rfl, hz, hpre⟩
      simp only [pR_, nilK_at, fN_eq, Nat.add_eq, Nat.zero_add, Nat.add_zero, fB_eq, iEq_dec]
      refine rowK_w gc4 (ldI_w (n := c.kind) rfl ?_)
      have pre := pre_of hpre
      refine ifA_w (fun hx => ?_) (fun hx => ?_)
      · have hx : c.kind = 1 := of_decide_eq_true hx
        obtain ⟨rfl, hof0, hm⟩ := k1 hx
        have hle : putN s ≤ 1000000 := by
          unfold doesE at hz
          rw [if_neg (fun h => h.2 hof0), if_neg (fun h => by rw [hm] at h; cases h.2), if_neg (fun h => by omega)] at hz
          split at hz
          · rename_i h; exact absurd hz h
          · split at hz
            · cases hz
            · rename_i h; exact Int.not_lt.1 fun h' => h ⟨hx, h'⟩
        refine rowK_w gg4 (ldP_w (p := .at gt' 0) (by rw [c48_get _ (by decide), e45]) ?_)
        refine rowK_w gc4 (ldG_we (ys := ptC c.pt) (lb rfl) (by decide) rfl ?_)
        refine rowK_w gc4 (ldG_we (ys := fdC c.f0 ++ (fdC c.f1 ++ (fdC c.f2 ++ fdC c.f3))) (lb rfl) (by decide) rfl ?_)
        refine okK_w rfl (okK_w rfl (fL_w ?_))
        refine hlay Hx gt' s.th _ (putT c (putN s)) _ tt4 (pre.put hx) (putN_nonneg s) (by show putN s ≤ _; omega) sm.th fun H5 O5 f5 t5 o5 => ?_
        rw [tup0_]
        have rb5 := rb4.tabOp e45 f5 t5 o5
        have hne0 : ¬ Q 45 g := fun h => absurd (rb4.dis 0 45 g ((q0 g).2 rfl) h) (by decide)
        have gg5 := (f5.get _ hg4 hne0).trans gg4
        refine rowK_w gg5 (ldI_w (n := s.given) (by rw [c48_get _ (by decide), rb4.i34]) ?_)
        have b0 := sm.g0
        have b1 := sm.g1
        rw [iAdd_]
        refine w64_w (by simp only [Int.ofNat_eq_natCast]; omega) (by simp only [Int.ofNat_eq_natCast]; omega) ?_
        refine sto1_w gg5 (by rw [c48_len]; decide) ?_
        rw [c48_set]
        have fp : Fr (fun a => a = g) H5 (H5.put g (.row (c48 (updA f 34 (.int .i64 (s.given + Int.ofNat 1)))))) := (Fr.refl (fun a => a = g) _).put (.inl rfl) _
        have rb6 := rb5.fr fp fun i a hi ha e => by
          subst e
          refine hi ?_
          by_cases e45i : i = 45
          · subst e45i
            rw [updA_same] at ha
            exact absurd ((o5 _ ha).elim (fun h => hne0 h) fun h => h hg4) (fun h => h)
          · rw [updA_ne _ _ e45i] at ha
            exact rb4.dis i 0 _ ha ((q0 _).2 rfl)
        have rb7 : RB (H5.put g (.row (c48 (updA f 34 (.int .i64 (s.given + Int.ofNat 1)))))) { s with th := aSet s.th (putN s) (putT c (putN s)), given := s.given + 1 } (updA f 34 (.int .i64 (s.given + Int.ofNat 1))) (updA Q 45 O5) := { rb6 with i34 := rfl, pl := pl_upd rb6.pl rfl }
        have := hk _ (fun a => ∃ i, updA Q 45 O5 i a) ((h14.fr O).trans ((fr_q ho f5).trans (fp.mono fun a e => by subst e; exact (ho a).2 ⟨0, (q0 a).2 rfl⟩) fun _ h => .inl h) fun _ h => .inl h)
          (by
            unfold doesS
            rw [if_neg (fun h => h hz), if_pos hx]
            exact ⟨_, _, rb7, f5.has _ hg4, get_put _ _ _, fun a => by rw [updA_ne _ _ (by decide)]; exact q0 a, fun _ => Iff.rfl⟩)
          (fun a ⟨i, hi⟩ => by
            by_cases e45i : i = 45
            · subst e45i
              rw [updA_same] at hi
              exact (o5 a hi).imp (fun h => (ho a).2 ⟨45, h⟩) fun h h' => h (h14.has a h')
            · rw [updA_ne _ _ e45i] at hi
              exact .inl ((ho a).2 ⟨i, hi⟩))
        unfold doesI at this
        rw [hz, if_neg (fun h => h rfl), if_pos hx] at this
        exact this
      · have hx : ¬ c.kind = 1 := of_decide_eq_false hx
        refine rowK_w gg4 (ldP_w (p := .at gt' 0) (by rw [c48_get _ (by decide), e45]) ?_)
        refine rowK_w gc4 (ldG_we (ys := cmC c) (lb rfl) (by decide) rfl ?_)
        refine hdone Hx gt' s.th _ c _ _ tt4 sm.th pre fun H5 O5 f5 t5 o5 => ?_
        rw [tup2_]
        refine arI_w (arB_w ?_)
        have rb5 := rb4.tabOp e45 f5 t5 o5
        have hne0 : ¬ Q 45 g := fun h => absurd (rb4.dis 0 45 g ((q0 g).2 rfl) h) (by decide)
        have gg5 := (f5.get _ hg4 hne0).trans gg4
        have hgcQ : ¬ Q 45 gc := fun h => ngcO ((ho gc).2 ⟨45, h⟩)
        refine rowK_w ((f5.get _ hgc4 hgcQ).trans gc4) (ldI_w (n := c.id) rfl ?_)
        have := hk H5 (fun a => ∃ i, updA Q 45 O5 i a) ((h14.fr O).trans (fr_q ho f5) fun _ h => .inl h)
          (by
            unfold doesS
            rw [if_neg (fun h => h hz), if_neg hx]
            exact ⟨_, _, rb5, f5.has _ hg4, gg5, fun a => by rw [updA_ne _ _ (by decide)]; exact q0 a, fun _ => Iff.rfl⟩)
          (fun a ⟨i, hi⟩ => by
            by_cases e45i : i = 45
            · subst e45i
              rw [updA_same] at hi
              exact (o5 a hi).imp (fun h => (ho a).2 ⟨45, h⟩) fun h h' => h (h14.has a h')
            · rw [updA_ne _ _ e45i] at hi
              exact .inl ((ho a).2 ⟨i, hi⟩))
        unfold doesI at this
        rw [hz, if_neg (fun h => h rfl), if_neg hx] at this
        exact this
    · intro J hJ
      have e1 : ¬ (c.kind = 1 ∧ ofE c.pt ≠ 0) := fun h => h.2 (k1 h.1).2.1
      have e2 : ¬ (c.kind = 1 ∧ mineB s (ofC c.pt) = false) := fun h => by rw [(k1 h.1).2.2] at h; cases h.2
      refine joinX_w (fun x Hx => Hx = H4 ∧ x = (.at g 0, .at gc 0, idn, checkE s.th c, decide (checkE s.th c = 16 ∧ (c.kind = 2 ∧ mineB s (ofC c.pt) = false)))) ?_ ?_
      · rintro x Hx ⟨rfl, rfl⟩
        simp only [pR_]
        refine ifA_w (fun hx => ?_) (fun hx => ?_)
        · have hx := of_decide_eq_true hx
          exact hJ _ _ ⟨rfl, rfl, by unfold doesE; rw [if_neg e1, if_neg e2, if_pos hx], .inr hx.1⟩
        · have hx := of_decide_eq_false hx
          refine ifA_w (fun hy => keep h14 (e := checkE s.th c) (by unfold doesE; rw [if_neg e1, if_neg e2, if_neg hx, if_pos (by simpa using hy)]) (by simpa using hy)) (fun hy => ?_)
          have hy : checkE s.th c = 0 := by simpa using hy
          refine ifA_w (fun hw => ?_) (fun hw => ?_)
          · have hw := of_decide_eq_true hw
            have hk1 : c.kind = 1 := by
              rcases Classical.em (c.kind = 1) with h | h
              · exact h
              · rw [k2 h] at hw; exact absurd hw (by decide)
            have : doesE s c = 16 := by
              unfold doesE
              rw [if_neg e1, if_neg e2, if_neg hx, if_neg (fun h => h hy), if_pos ⟨hk1, by rw [← (k1 hk1).1]; exact hw⟩]
            exact keep h14 this (by decide)
          · have hw := of_decide_eq_false hw
            have : doesE s c = 0 := by
              unfold doesE
              rw [if_neg e1, if_neg e2, if_neg hx, if_neg (fun h => h hy), if_neg (fun h => hw (by rw [(k1 h.1).1]; exact h.2))]
            exact hJ _ _ ⟨rfl, rfl, this, .inl hy⟩
      · intro J2 hJ2
        refine ifA_w (fun hx => ?_) (fun hx => ?_)
        · have hx : checkE s.th c = 16 := of_decide_eq_true hx
          refine rowK_w gc4 (ldI_w (n := c.kind) rfl ?_)
          refine ifA_w (fun hy => ?_) (fun hy => ?_)
          · have hy : c.kind = 2 := of_decide_eq_true hy
            refine hJ2 _ _ ⟨rfl, ?_⟩
            cases e : mineB s (ofC c.pt) <;> simp [hx, hy]
          · have hy : ¬ c.kind = 2 := of_decide_eq_false hy
            exact hJ2 _ _ ⟨rfl, by rw [decide_eq_false (fun h => hy h.2.1)]⟩
        · have hx : ¬ checkE s.th c = 16 := of_decide_eq_false hx
          exact hJ2 _ _ ⟨rfl, by rw [decide_eq_false (fun h => hx h.1)]⟩
  · intro J hJ
    refine rowK_w gc3 (ldI_w (n := c.kind) rfl ?_)
    simp only [fB_eq, iEq_dec]
    refine ifA_w (fun hx => ?_) (fun hx => hJ _ _ ⟨rfl, 0, rfl, fun h => absurd h (of_decide_eq_false hx), fun _ => rfl⟩)
    have hx : c.kind = 1 := of_decide_eq_true hx
    obtain ⟨f, Q, rb, hg, gg, q0, ho⟩ := rg.le h13
    simp only [nilK_at, fN_eq, Nat.add_eq, Nat.zero_add, Nat.add_zero]
    refine rowK_w gg (ldI_w (n := s.id) (by rw [c48_get _ (by decide), rb.i0]) ?_)
    refine rowK_w gg (ldI_w (n := s.given) (by rw [c48_get _ (by decide), rb.i34]) ?_)
    refine hnum _ _ _ _ (arI_w ?_)
    refine ifA_w (fun hy => ?_) (fun hy => ?_)
    · have hy : ofE c.pt ≠ 0 := by simpa using hy
      exact keep h13 (by unfold doesE; rw [if_pos ⟨hx, hy⟩]) hy
    · have hy : ofE c.pt = 0 := by simpa using hy
      refine ifA_w (fun hw => ?_) (fun hw => ?_)
      · have hw : mineB s (ofC c.pt) = false := by simpa using hw
        exact keep h13 (e := 17) (by unfold doesE; rw [if_neg (fun h => h.2 hy), if_pos ⟨hx, hw⟩]) (by decide)
      · have hw : mineB s (ofC c.pt) = true := by simpa using hw
        exact hJ _ _ ⟨rfl, putN s, rfl, fun _ => ⟨rfl, hy, hw⟩, fun h => absurd hx h⟩
end Go.Proofs
end
section
/- A region: a new one; what is taken; all things, all owners. -/
namespace Go.Proofs
open Go Go.Vw Go.Vw.Ev
set_option linter.unusedVariables false
set_option linter.unusedSimpArgs false

/-! A new one. -/
def nt0 : Nt := ⟨0, 0, [], [], [], []⟩
def newS (id n : Int) : RgSt := { id := min (max id 0) (clamp4 n - 1), n := clamp4 n, beat := 0, given := 0, took := 0, th := [], ow := owInit (clamp4 n), wat := List.replicate 4 wt0, was := [], watch := [], hands := [], order := [], last := nt0 }
theorem clamp4_idem (n : Int) : clamp4 (clamp4 n) = clamp4 n := by unfold clamp4; omega
def CRgNew (cl : Cl) : Prop := ∀ id n H K, (∀ H' g O, Le H H' → RgS H' g (newS id n) O → (∀ a, O a → ¬ H.has a) → K (.s (.ptr (.at g 0))) H' = true) → cl i_region_New [.s (.int .i64 id), .s (.int .i64 n)] H K = true
def row0 (id n : Int) (gt go gb : Pn) : List AS := [AS.int .i64 id, AS.int .i64 n, AS.int .i64 (Int.ofNat 0), AS.slice AP.nil 0 (.lit 0) 1, AS.slice AP.nil 0 (.lit 0) 1, AS.slice AP.nil 0 (.lit 0) 1, AS.bool false, AS.int .i64 (Int.ofNat 0), AS.int .i64 (Int.ofNat 0), AS.int .i64 (Int.ofNat 0), AS.int .i64 (Int.ofNat 0), AS.int .i64 (Int.ofNat 0), AS.int .i64 (Int.ofNat 0), AS.bool false, AS.int .i64 (Int.ofNat 0), AS.int .i64 (Int.ofNat 0), AS.int .i64 (Int.ofNat 0), AS.int .i64 (Int.ofNat 0), AS.int .i64 (Int.ofNat 0), AS.int .i64 (Int.ofNat 0), AS.bool false, AS.int .i64 (Int.ofNat 0), AS.int .i64 (Int.ofNat 0), AS.int .i64 (Int.ofNat 0), AS.int .i64 (Int.ofNat 0), AS.int .i64 (Int.ofNat 0), AS.int .i64 (Int.ofNat 0), AS.bool false, AS.int .i64 (Int.ofNat 0), AS.int .i64 (Int.ofNat 0), AS.int .i64 (Int.ofNat 0), AS.int .i64 (Int.ofNat 0), AS.int .i64 (Int.ofNat 0), AS.int .i64 (Int.ofNat 0), AS.int .i64 (Int.ofNat 0), AS.slice AP.nil 0 (.lit 0) 1, AS.slice AP.nil 0 (.lit 0) 1, AS.int .i64 (Int.ofNat 0), AS.slice AP.nil 0 (.lit 0) 1, AS.int .i64 (Int.ofNat 0), AS.int .i64 (Int.ofNat 0), AS.slice AP.nil 0 (.lit 0) 1, AS.slice AP.nil 0 (.lit 0) 1, AS.slice AP.nil 0 (.lit 0) 1, AS.slice AP.nil 0 (.lit 0) 1, AS.ptr (.at gt 0), AS.ptr (.at go 0), AS.ptr (.at gb 0)]
def f0 (id n : Int) (gt go gb : Pn) : Nat → AS := fun i => (row0 id n gt go gb).getD i (.bool false)
def Q0 (g go gb : Pn) (Ot : Pn → Prop) : Nat → Pn → Prop := fun i a => if i = 0 then a = g else if i = 45 then Ot a else if i = 46 then a = go else if i = 47 then a = gb else False
theorem Q0_col {g go gb : Pn} {Ot : Pn → Prop} (h1 : g ≠ go) (h2 : g ≠ gb) (h3 : go ≠ gb) (h4 : ¬ Ot g) (h5 : ¬ Ot go) (h6 : ¬ Ot gb) {i : Nat} {a : Pn} (h : Q0 g go gb Ot i a) : i = (open Classical in if a = g then 0 else if a = go then 46 else if a = gb then 47 else 45) := by
  unfold Q0 at h
  split at h
  · rename_i e; rw [if_pos h, e]
  split at h
  · rename_i e
    have n1 : a ≠ g := fun e' => h4 (by rw [← e']; exact h)
    have n2 : a ≠ go := fun e' => h5 (by rw [← e']; exact h)
    have n3 : a ≠ gb := fun e' => h6 (by rw [← e']; exact h)
    rw [if_neg n1, if_neg n2, if_neg n3, e]
  split at h
  · rename_i e
    have n1 : a ≠ g := fun e' => h1 (e'.symm.trans h)
    rw [if_neg n1, if_pos h, e]
  split at h
  · rename_i e
    have n1 : a ≠ g := fun e' => h2 (e'.symm.trans h)
    have n2 : a ≠ go := fun e' => h3 (e'.symm.trans h)
    rw [if_neg n1, if_neg n2, if_pos h, e]
  · exact h.elim
theorem nil_own {n z : Nat} {c : ACap} {a : Pn} : False ↔ ownA (.slice .nil n c z) a := ⟨fun h => h.elim, fun ⟨o, e⟩ => by cases e⟩
theorem B_region_New_ {lf : Nat} {cl : Cl} (how : COwNew cl) (htn : CTNew cl) (hbk : CBkNew cl) {id n : Int} {H : AH} {K : AV → AH → Bool}
    (hk : ∀ H' g O, Le H H' → RgS H' g (newS id n) O → (∀ a, O a → ¬ H.has a) → K (.s (.ptr (.at g 0))) H' = true) : B_region_New lf cl id n H K = true := by
  unfold B_region_New
  simp only [mxA_, mnA_, fI_eq]
  show cl i_owner_New [.s (.int .i64 (clamp4 n))] H _ = true
  have hc : 1 ≤ clamp4 n ∧ clamp4 n ≤ 4 := by unfold clamp4; omega
  refine how _ _ _ fun H1 go h1 om ngo => ?_
  rw [clamp4_idem] at om
  rw [asP_, iSub_]
  show w64 (clamp4 n - 1) _ = true
  refine w64_w (by omega) (by omega) ?_
  refine htn _ _ fun H2 gt Ot h2 tt ht => ?_
  rw [asP_]
  refine hbk _ _ fun H3 gb h3 bk ngb => ?_
  rw [asP_]
  refine fL_w (new_w fun g H4 h4 hg ng gg => ?_)
  replace gg : H4.get g = some (.row (c48 (f0 (min (max id 0) (clamp4 n - 1)) (clamp4 n) gt go gb))) := gg
  have h14 := h2.trans (h3.trans h4)
  have om4 := om.le h14
  have tt4 := tt.le (h3.trans h4)
  have bk4 := bk.fr (h4.fr fun _ => False) fun h => h
  have d1 : g ≠ go := fun e => ng ((h2.trans h3).has _ (e ▸ om.has))
  have d2 : g ≠ gb := fun e => ng (e ▸ bk.has)
  have d3 : go ≠ gb := fun e => ngb (h2.has _ (e ▸ om.has))
  have d4 : ¬ Ot g := fun h => ng (h3.has _ (tt.has _ h))
  have d5 : ¬ Ot go := fun h => ht _ h om.has
  have d6 : ¬ Ot gb := fun h => ngb (tt.has _ h)
  refine hk H4 g (fun a => ∃ i, Q0 g go gb Ot i a) (h1.trans h14) ⟨_, Q0 g go gb Ot, ?_, hg, gg, fun _ => Iff.rfl, fun _ => Iff.rfl⟩ ?_
  · exact
      { i0 := rfl, i1 := rfl, i2 := rfl, i34 := rfl, i37 := rfl, i39 := rfl, i40 := rfl
        s4 := SW.nil, s35 := SF.nil, s36 := SF.nil, s38 := SF.nil, s41 := SF.nil, s42 := SF.nil, s43 := SF.nil, s44 := SF.nil
        tab := ⟨gt, rfl, tt4⟩, own := ⟨go, rfl, om4, fun _ => Iff.rfl⟩, book := ⟨gb, rfl, bk4, fun _ => Iff.rfl⟩
        q4 := fun _ => nil_own, q35 := fun _ => nil_own, q36 := fun _ => nil_own, q38 := fun _ => nil_own, q41 := fun _ => nil_own, q42 := fun _ => nil_own, q43 := fun _ => nil_own, q44 := fun _ => nil_own
        pl := rfl
        dis := fun i j a hi hj => (Q0_col d1 d2 d3 d4 d5 d6 hi).trans (Q0_col d1 d2 d3 d4 d5 d6 hj).symm
        qh := fun i a h => by
          unfold Q0 at h
          split at h
          · rw [h]; exact hg
          split at h
          · exact tt4.has a h
          split at h
          · rw [h]; exact om4.has
          split at h
          · rw [h]; exact bk4.has
          · exact h.elim }
  · rintro a ⟨i, h⟩ ha
    unfold Q0 at h
    split at h
    · exact ng ((h1.trans (h2.trans h3)).has _ (h ▸ ha))
    split at h
    · exact ht a h (h1.has a ha)
    split at h
    · exact ngo (h ▸ ha)
    split at h
    · exact ngb ((h1.trans h2).has _ (h ▸ ha))
    · exact h
/-! All things, all owners. -/
def CRgThings (cl : Cl) : Prop := ∀ H g s O K, RgS H g s O → s.th.length < 9000 → (∀ H' p c z, Le H H' → Sl H H' p (allT s.th).length z (thsC ((allT s.th).map (thOf s.th))) 11 → K (.s (.slice p (allT s.th).length c z)) H' = true) → cl i_region_Region_Things [.s (.ptr (.at g 0))] H K = true
theorem B_region_Region_Things_ {lf : Nat} {cl : Cl} (hall : CTAll cl) {H : AH} {g : Pn} {s : RgSt} {O : Pn → Prop} {K : AV → AH → Bool} (rg : RgS H g s O) (hl : s.th.length < 9000)
    (hk : ∀ H' p c z, Le H H' → Sl H H' p (allT s.th).length z (thsC ((allT s.th).map (thOf s.th))) 11 → K (.s (.slice p (allT s.th).length c z)) H' = true) : B_region_Region_Things lf cl (.at g 0) H K = true := by
  unfold B_region_Region_Things
  obtain ⟨f, Q, rb, hg, gg, q0, ho⟩ := rg
  obtain ⟨gt, e45, tt⟩ := rb.tab
  simp only [nilK_at, fN_eq, Nat.add_eq, Nat.zero_add]
  refine rowK_w gg (ldP_w (p := .at gt 0) (by rw [c48_get _ (by decide), e45]) ?_)
  exact hall _ _ _ _ _ tt (by omega) fun H1 p c z h1 sl => hk _ _ _ _ h1 sl
/-! What is taken. -/
theorem RB.ord {H H' : AH} {s : RgSt} {f : Nat → AS} {Q : Nat → Pn → Prop} {p : AP} {c : ACap} {z : Nat} {b : Pn} {t : Tkn} (r : RB H s f Q) (e : f 38 = .slice p s.order.length c z) (k : Fr (ownP p) H H') (nb : ¬ H.has b)
    (sr : SR 25 H' (.at b 0) (s.order.length + 1) 25 (s.order.flatMap tkC ++ tkC t)) : RB H' { s with order := s.order ++ [t] } (updA f 38 (.slice (.at b 0) (s.order.length + 1) (.of b 0) 25)) (updA Q 38 (ownP (.at b 0))) :=
  have hq : ∀ a, ownP p a → Q 38 a := fun a h => (r.q38 a).2 (by rw [e]; exact h)
  have hne : ∀ i a, i ≠ 38 → Q i a → ¬ ownP p a := fun i a hi h h' => hi (r.dis i 38 a h (hq a h'))
  { i0 := r.i0, i1 := r.i1, i2 := r.i2, i34 := r.i34, i37 := r.i37, i39 := r.i39, i40 := r.i40
    s4 := r.s4.fr k fun a h => hne 4 a (by decide) ((r.q4 a).2 h)
    s35 := r.s35.fr k fun a h => hne 35 a (by decide) ((r.q35 a).2 h)
    s36 := r.s36.fr k fun a h => hne 36 a (by decide) ((r.q36 a).2 h)
    s38 := ⟨.at b 0, .of b 0, 25, by simp [updA], trivial, by simpa using sr⟩
    s41 := r.s41.fr k fun a h => hne 41 a (by decide) ((r.q41 a).2 h)
    s42 := r.s42.fr k fun a h => hne 42 a (by decide) ((r.q42 a).2 h)
    s43 := r.s43.fr k fun a h => hne 43 a (by decide) ((r.q43 a).2 h)
    s44 := r.s44.fr k fun a h => hne 44 a (by decide) ((r.q44 a).2 h)
    tab := r.tab.imp fun gt h => ⟨h.1, h.2.fr k fun a ha => hne 45 a (by decide) ha⟩
    own := r.own.imp fun go h => ⟨h.1, h.2.1.fr k (hne 46 go (by decide) ((h.2.2 go).2 rfl)), h.2.2⟩
    book := r.book.imp fun gb h => ⟨h.1, h.2.1.fr k (hne 47 gb (by decide) ((h.2.2 gb).2 rfl)), h.2.2⟩
    q4 := r.q4, q35 := r.q35, q36 := r.q36, q38 := fun a => Iff.rfl, q41 := r.q41, q42 := r.q42, q43 := r.q43, q44 := r.q44
    pl := pl_upd r.pl rfl
    dis := dis_upd r.dis r.qh fun a ⟨o, e⟩ => by cases e; exact .inr nb
    qh := fun i a h => by
      by_cases ei : i = 38
      · subst ei
        rw [updA_same] at h
        exact sr.has a h
      · rw [updA_ne _ _ ei] at h
        exact k.has a (r.qh i a h) }
noncomputable def takeE (s : RgSt) (c : Cm) : Int := if IsCm c = false then 11 else if 20 ≤ s.took then 16 else doesE s c
def upS (s : RgSt) (i : Int) (c : Cm) : RgSt := { s with took := s.took + 1, order := s.order ++ [⟨s.beat, s.id, i, c⟩] }
noncomputable def takeI (s : RgSt) (c : Cm) : Int := if takeE s c ≠ 0 then 0 else doesI s c
noncomputable def takeS (s : RgSt) (c : Cm) : RgSt := if takeE s c ≠ 0 then s else upS (doesS s c) (doesI s c) c
theorem doesS_sm {s : RgSt} {c : Cm} : (doesS s c).took = s.took ∧ (doesS s c).order = s.order := by
  unfold doesS
  split
  · exact ⟨rfl, rfl⟩
  · split <;> exact ⟨rfl, rfl⟩
/-- Of commands of things. -/
def CTakeD (cl : Cl) : Prop := ∀ H g s O c K, RgS H g s O → Sm s → watB c = false → c.kind ≠ 5 → (∀ H' O', Fr O H H' → RgS H' g (takeS s c) O' → (∀ a, O' a → O a ∨ ¬ H.has a) → K (.tup [.s (.int .i64 (takeI s c)), .s (.int .i64 (takeE s c))]) H' = true) →
  cl i_region_Region_Take [.s (.ptr (.at g 0)), .agg (cmC c)] H K = true
theorem B_region_Region_Take_ {lf : Nat} {cl : Cl} (his : CIsCm cl) (hwat : CWat cl) (hdoes : CDoes cl) {H : AH} {g : Pn} {s : RgSt} {O : Pn → Prop} {c : Cm} {K : AV → AH → Bool} (rg : RgS H g s O) (sm : Sm s) (hw : watB c = false) (h5 : c.kind ≠ 5)
    (hk : ∀ H' O', Fr O H H' → RgS H' g (takeS s c) O' → (∀ a, O' a → O a ∨ ¬ H.has a) → K (.tup [.s (.int .i64 (takeI s c)), .s (.int .i64 (takeE s c))]) H' = true) : B_region_Region_Take lf cl (.at g 0) (cmC c) H K = true := by
  unfold B_region_Region_Take
  have keep : ∀ {H' O'} {e : Int}, Fr O H H' → RgS H' g s O' → (∀ a, O' a → O a ∨ ¬ H.has a) → takeE s c = e → e ≠ 0 → K (.tup [.s (.int .i64 (Int.ofNat 0)), .s (.int .i64 e)]) H' = true := by
    intro H' O' e hl hr ho he hn
    have := hk H' O' hl (by unfold takeS; rw [he, if_pos hn]; exact hr) ho
    unfold takeI at this
    rw [he, if_pos hn] at this
    exact this
  refine new_w fun gc H1 h1 hgc ngc ggc => ?_
  refine rowK_w ggc (ldG_we (ys := cmC c) (lb rfl) (by decide) rfl ?_)
  refine his _ _ _ fun H2 h2 => arB_w ?_
  have h12 := h1.trans h2
  have gc2 := (h2.get _ hgc).trans ggc
  have hgc2 := h2.has _ hgc
  have ngcO : ¬ O gc := fun h => ngc (rg.has _ h)
  rw [fB_eq]
  refine ifA_w (fun hx => keep (h12.fr _) (rg.le h12) (fun a h => .inl h) (e := 11) (by unfold takeE; rw [if_pos (by simpa using hx)]) (by decide)) (fun hx => ?_)
  have hIs : IsCm c = true := by simpa using hx
  have rg2 := rg.le h12
  obtain ⟨f, Q, rb, hg, gg, q0, ho⟩ := rg2
  simp only [nilK_at, fN_eq, Nat.add_eq, Nat.zero_add, Nat.add_zero, fB_eq, iLe_dec, iEq_dec]
  refine rowK_w gg (ldI_w (n := s.took) (by rw [c48_get _ (by decide), rb.i37]) ?_)
  refine ifA_w (fun hx => keep (h12.fr _) (rg.le h12) (fun a h => .inl h) (e := 16) (by unfold takeE; rw [if_neg (by rw [hIs]; decide), if_pos (show (20 : Int) ≤ s.took from of_decide_eq_true hx)]) (by decide)) (fun hx => ?_)
  have hto : ¬ 20 ≤ s.took := of_decide_eq_false hx
  have hE : takeE s c = doesE s c := by unfold takeE; rw [if_neg (by rw [hIs]; decide), if_neg hto]
  clear rb hg gg q0 ho f Q hx
  refine joinX_w (fun x Hx => ∃ O', x = (.at g 0, .at gc 0, doesI s c, doesE s c) ∧ Fr O H2 Hx ∧ RgS Hx g (doesS s c) O' ∧ (∀ a, O' a → O a ∨ ¬ H2.has a)) ?_ ?_
  · rintro x H3 ⟨O3, rfl, f3, rg3, o3⟩
    simp only [pR_, nilK_at, fN_eq, Nat.add_eq, Nat.zero_add, Nat.add_zero]
    have o3H : ∀ a, O3 a → O a ∨ ¬ H.has a := fun a h => (o3 a h).imp (fun h => h) fun h h' => h (h12.has a h')
    refine ifA_w (fun hx => ?_) (fun hx => ?_)
    · have hx : doesE s c ≠ 0 := by simpa using hx
      have e3 : doesS s c = s := by unfold doesS; rw [if_pos hx]
      rw [e3] at rg3
      exact keep ((h12.fr O).trans f3 fun _ h => .inl h) rg3 o3H hE hx
    · have hz : doesE s c = 0 := by simpa using hx
      obtain ⟨et, eo⟩ := doesS_sm (s := s) (c := c)
      have gc3 := (f3.get _ hgc2 ngcO).trans gc2
      have hgc3 := f3.has _ hgc2
      have ngc3 : ¬ O3 gc := fun h => (o3 _ h).elim ngcO fun h' => h' hgc2
      generalize hs' : doesS s c = s' at *
      generalize hi' : doesI s c = i' at *
      obtain ⟨f, Q, rb, hg, gg, q0, hoQ⟩ := rg3
      have t0 := sm.t0
      refine rowK_w gg (ldI_w (n := s'.took) (by rw [c48_get _ (by decide), rb.i37]) ?_)
      rw [iAdd_]
      refine w64_w (by simp only [Int.ofNat_eq_natCast]; omega) (by simp only [Int.ofNat_eq_natCast]; omega) ?_
      refine sto1_w gg (by rw [c48_len]; decide) ?_
      rw [c48_set]
      have fp : Fr (fun a => a = g) H3 (H3.put g (.row (c48 (updA f 37 (.int .i64 (s'.took + Int.ofNat 1)))))) := (Fr.refl (fun a => a = g) _).put (.inl rfl) _
      have rb4 := rb.fr fp fun i a hi ha e => hi (rb.dis i 0 a ha ((q0 a).2 e))
      replace rb4 : RB (H3.put g (.row (c48 (updA f 37 (.int .i64 (s'.took + Int.ofNat 1)))))) { s' with took := s'.took + 1 } (updA f 37 (.int .i64 (s'.took + Int.ofNat 1))) Q := { rb4 with i37 := rfl, pl := pl_upd rb4.pl rfl }
      have gg4 := get_put H3 g (.row (c48 (updA f 37 (.int .i64 (s'.took + Int.ofNat 1)))))
      have hg4 : (H3.put g (.row (c48 (updA f 37 (.int .i64 (s'.took + Int.ofNat 1)))))).has g := hg
      have hgg : gc ≠ g := fun e => ngc3 ((hoQ gc).2 ⟨0, (q0 gc).2 e⟩)
      have gc4 := (get_put_ne (b := .row (c48 (updA f 37 (.int .i64 (s'.took + Int.ofNat 1))))) hgg).trans gc3
      generalize H3.put g (.row (c48 (updA f 37 (.int .i64 (s'.took + Int.ofNat 1))))) = H4 at *
      generalize updA f 37 (.int .i64 (s'.took + Int.ofNat 1)) = f4 at *
      obtain ⟨p, cc, z, e38, hcap, sr⟩ := rb4.s38
      refine getK_w gg4 (rowK_w gg4 (ldSl_w (by rw [c48_get _ (by decide), e38]) ?_))
      refine rowK_w gg4 (ldI_w (n := s'.beat) (by rw [c48_get _ (by decide), rb4.i2]) ?_)
      refine rowK_w gg4 (ldI_w (n := s'.id) (by rw [c48_get _ (by decide), rb4.i0]) ?_)
      refine rowK_w gc4 (ldG_we (ys := cmC c) (lb rfl) (by decide) rfl ?_)
      refine okK_w rfl (fL_w (okK_w rfl (fL_w (okK_w rfl ?_))))
      refine newK_w (elK_w (ys := tkC ⟨s'.beat, s'.id, i', c⟩) (get_new _ _) (lb rfl) rfl ?_)
      have h5' := Le.new H4 (.row (tkC ⟨s'.beat, s'.id, i', c⟩))
      change appA (H4.new (.row (tkC ⟨s'.beat, s'.id, i', c⟩))) _ _ _ _ _ _ _ _ _ = true
      generalize H4.new (.row (tkC ⟨s'.beat, s'.id, i', c⟩)) = H5 at *
      have hol := sm.ol
      have rb5 := rb4.fr (h5'.fr fun _ => False) fun _ _ _ _ h => h
      have eo' : ({ s' with took := s'.took + 1 } : RgSt).order.length = s.order.length := by rw [← eo]
      refine appS_w (sr.le h5') rfl (by decide) (by omega) (by omega) fun b H6 nb f6 sr6 => ?_
      have rb6 := rb5.ord (t := ⟨s'.beat, s'.id, i', c⟩) e38 f6 nb sr6
      have hnp : ¬ ownP p g := fun h => absurd (rb5.dis 38 0 g ((rb5.q38 g).2 (by rw [e38]; exact h)) ((q0 g).2 rfl)) (by decide)
      have gg6 := (f6.get _ (h5'.has _ hg4) hnp).trans ((h5'.get _ hg4).trans gg4)
      refine sto1_w gg6 (by rw [c48_len]; decide) ?_
      rw [c48_set]
      have fp7 : Fr (fun a => a = g) H6 (H6.put g (.row (c48 (updA f4 38 (.slice (.at b 0) (({ s' with took := s'.took + 1 } : RgSt).order.length + 1) (.of b 0) 25))))) := (Fr.refl (fun a => a = g) _).put (.inl rfl) _
      have q0' : ∀ a, updA Q 38 (ownP (.at b 0)) 0 a ↔ a = g := fun a => by rw [updA_ne _ _ (by decide)]; exact q0 a
      have rb7 := rb6.fr fp7 fun i a hi ha e => hi (rb6.dis i 0 a ha ((q0' a).2 e))
      have f45 : Fr O3 H3 H4 := fp.mono fun a e => (hoQ a).2 ⟨0, (q0 a).2 e⟩
      have f57 : Fr O3 H4 H6 := (h5'.fr O3).trans (f6.mono fun a h => (hoQ a).2 ⟨38, (rb5.q38 a).2 (by rw [e38]; exact h)⟩) fun _ h => .inl h
      have fall : Fr O H _ := (h12.fr O).trans (f3.trans ((f45.trans f57 fun _ h => .inl h).trans (fp7.mono fun a e => (hoQ a).2 ⟨0, (q0 a).2 e⟩) fun _ h => .inl h) o3) fun _ h => .inl h
      have := hk _ (fun a => ∃ i, updA Q 38 (ownP (.at b 0)) i a) fall
        (by
          unfold takeS
          rw [hE, if_neg (fun h => h hz), hs', hi']
          exact ⟨_, _, rb7, f6.has _ (h5'.has _ hg4), get_put _ _ _, q0', fun _ => Iff.rfl⟩)
        (fun a ⟨i, hi⟩ => by
          by_cases e38i : i = 38
          · subst e38i
            rw [updA_same] at hi
            obtain ⟨o, e⟩ := hi
            cases e
            exact .inr fun h => nb (h5'.has _ (f45.has _ (f3.has _ (h12.has _ h))))
          · rw [updA_ne _ _ e38i] at hi
            exact o3H a ((hoQ a).2 ⟨i, hi⟩))
      unfold takeI at this
      rw [hE, hz, if_neg (fun h => h rfl), hi'] at this
      exact this
  · intro J hJ
    refine rowK_w gc2 (ldG_we (ys := cmC c) (lb rfl) (by decide) rfl ?_)
    refine hwat _ _ _ fun H3 h3 => arB_w ?_
    rw [hw]
    refine ifA_w (fun h => by cases h) (fun _ => ?_)
    have gc3 := (h3.get _ hgc2).trans gc2
    refine rowK_w gc3 (ldI_w (n := c.kind) rfl ?_)
    refine ifA_w (fun h => absurd (of_decide_eq_true h) h5) (fun _ => ?_)
    refine rowK_w gc3 (ldG_we (ys := cmC c) (lb rfl) (by decide) rfl ?_)
    refine hdoes H3 g s O c _ (rg.le (h12.trans h3)) sm fun H4 O4 f4 r4 o4 => ?_
    rw [tup2_]
    refine arI_w (arI_w (hJ _ _ ⟨O4, rfl, (h3.fr O).trans f4 fun _ h => .inl h, r4, fun a h => (o4 a h).imp (fun h => h) fun h h' => h (h3.has a h')⟩))
end Go.Proofs
end
