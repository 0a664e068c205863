import Derived.Test.YtmdidmoffcinjaaGreatDC
import Derived.Test.YtmdidmoffcinjaaGreatBQ
import Derived.Test.YtmdidmoffcinjaaGreatBslices
import Derived.Test.YtmdidmoffcinjaaGreatVwKeys
section
namespace Go.Proofs
open Go Go.Vw Go.Vw.Ev
set_option linter.unusedVariables false
set_option linter.unusedSimpArgs false
theorem new_w {H : AH} {b : AB} {K : Pn → AH → Bool} (hk : ∀ g H', Le H H' → H'.has g → ¬ H.has g → H'.get g = some b → K g H' = true) : newK H b K = true := newK_w (hk _ _ (Le.new _ _) (has_new_self _ _) (not_has_nx _) (get_new _ _))
theorem tmp_w {H : AH} {cs us : List AS} {m : Nat} {K : Pn → AH → Bool} (hm : us.length = m) (hc : cs.length = m) (hk : ∀ g H', Le H H' → H'.has g → ¬ H.has g → H'.get g = some (.row us) → K g H' = true) :
  newK H (.row cs) (fun g h => stoN h g 0 m us (fun h' => K g h')) = true := by
 refine newK_w (stoN_we (ds := us) (get_new _ _) hm (by omega) (by rw [Nat.zero_add, List.drop_eq_nil_of_le (by omega)]; simp) ?_)
 exact hk _ _ ((Le.new _ _).put (not_has_nx _) _) (has_put (has_new_self _ _)) (not_has_nx _) (get_put _ _ _)
structure Fd where
 n : Int
 s : List Nat
structure Th where
 id : Int
 pt : Pt
 f0 : Fd
 f1 : Fd
 f2 : Fd
 f3 : Fd
def fdC (f : Fd) : List AS := [.int .i64 f.n, .str f.s]
def thC (t : Th) : List AS := .int .i64 t.id :: (ptC t.pt ++ (fdC t.f0 ++ (fdC t.f1 ++ (fdC t.f2 ++ fdC t.f3))))
theorem thC_len (t : Th) : (thC t).length = 11 := rfl
def IsF (f : Fd) : Bool := (decide (f.n = 0) || decide (f.s = [])) && decide (f.s.length ≤ 12)
def IsTh (t : Th) : Bool := decide (0 ≤ t.id) && (decide (t.id ≤ 1000000) && (On t.pt && (IsF t.f0 && (IsF t.f1 && (IsF t.f2 && IsF t.f3)))))
def Th.fs (t : Th) : Nat → Fd
 | 0 => t.f0
 | 1 => t.f1
 | 2 => t.f2
 | _ => t.f3
theorem iEq_dec (a b : Int) : iEq a b = decide (a = b) := by rw [iEq_beq]; rfl
theorem sEq_dec (a b : List Nat) : sEq a b = decide (a = b) := by
 by_cases h : a = b
 ·rw [decide_eq_true h]; exact sEq_iff.2 h
 ·rw [decide_eq_false h]; exact Bool.eq_false_iff.2 fun hx => h (sEq_iff.1 hx)
def CIsF (cl : Cl) : Prop := ∀ f H K, (∀ H', Le H H' → K (.s (.bool (IsF f))) H' = true) → cl i_fields_IsField [.agg (fdC f)] H K = true
theorem B_fields_IsField_ {lf : Nat} {cl : Cl} {f : Fd} {H : AH} {K : AV → AH → Bool} (hk : ∀ H', Le H H' → K (.s (.bool (IsF f))) H' = true) : B_fields_IsField lf cl (fdC f) H K = true := by
 unfold B_fields_IsField
 refine newK_w ?_
 have hL := Le.new H (.row (fdC f))
 have g1 := get_new H (.row (fdC f))
 generalize H.nx = a at *
 generalize H.new (.row (fdC f)) = H1 at *
 have h := hk H1 hL
 refine rowK_w g1 (ldI_w (n := f.n) rfl ?_)
 rw [fB_eq, iEq_dec]
 refine ifA_w (fun h0 => ?_) (fun h0 => ?_)
 ·refine rowK_w g1 (ldStr_w (p := f.s) rfl ?_)
  simp only [fN_eq, fB_eq, ln_eq, iLe_dec, Int.ofNat_eq_natCast]
  have : IsF f = decide ((f.s.length : Int) ≤ ((12 : Nat) : Int)) := by unfold IsF; rw [show decide (f.n = 0) = true from h0]; simp; try omega
  rw [this] at h
  exact h
 ·refine rowK_w g1 (ldStr_w (p := f.s) rfl ?_)
  rw [fB_eq, sEq_dec]
  refine ifA_w (fun h1 => ?_) (fun h1 => ?_)
  ·refine rowK_w g1 (ldStr_w (p := f.s) rfl ?_)
   simp only [fN_eq, fB_eq, ln_eq, iLe_dec, Int.ofNat_eq_natCast]
   have : IsF f = decide ((f.s.length : Int) ≤ ((12 : Nat) : Int)) := by unfold IsF; rw [h1]; simp; try omega
   rw [this] at h
   exact h
  ·have : IsF f = false := by unfold IsF; rw [show decide (f.n = 0) = false from h0, h1]; rfl
   rw [this] at h
   exact h
def CTh1 (cl : Cl) : Prop := ∀ f H K, (∀ H', Le H H' → K (.s (.bool (!IsF f))) H' = true) → cl i_thing_Is_1 [.agg (fdC f)] H K = true
theorem B_thing_Is_1_ {lf : Nat} {cl : Cl} (hf : CIsF cl) {f : Fd} {H : AH} {K : AV → AH → Bool} (hk : ∀ H', Le H H' → K (.s (.bool (!IsF f))) H' = true) : B_thing_Is_1 lf cl (fdC f) H K = true := by
 unfold B_thing_Is_1
 refine newK_w ?_
 have hL := Le.new H (.row (fdC f))
 have g1 := get_new H (.row (fdC f))
 generalize H.nx = a at *
 generalize H.new (.row (fdC f)) = H1 at *
 refine rowK_w g1 (ldG_we (ys := fdC f) (by simp [fdC]) (by decide) rfl (hf _ _ _ fun H2 h2 => arB_w ?_))
 simp only [fB_eq]
 exact hk H2 (hL.trans h2)
def PredF (cl : Cl) (v : AV) (P : Fd → Bool) : Prop := ∀ f H K, (∀ H', Le H H' → K (.s (.bool (P f))) H' = true) → callV PG cl none v [.agg (fdC f)] H K = true
def CIndexF (PR : AV → (Fd → Bool) → Prop) (cl : Cl) : Prop := ∀ (H : AH) (g : Pn) (o : Nat) (c : ACap) (v : AV) (fs : Nat → Fd) (cs : List AS) (P : Fd → Bool) K, H.has g → H.get g = some (.row cs) → o + 8 ≤ cs.length → (∀ i, i < 4 → (cs.drop (o + i * 2)).take 2 = fdC (fs i)) → PR v P →
 (∀ H' (r : Int), Le H H' → (0 ≤ r ↔ ∃ i, i < 4 ∧ P (fs i) = true) → K (.s (.int .i64 r)) H' = true) → cl i_slices_IndexFunc_Field [.s (.slice (.at g o) 4 c 2), v] H K = true
theorem B_slices_IndexFunc_Field_ {lf : Nat} {cl : Cl} (hlf : 10 ≤ lf) {H : AH} {g : Pn} {o : Nat} {c : ACap} {v : AV} {fs : Nat → Fd} {cs : List AS} {P : Fd → Bool} {K : AV → AH → Bool} (hh : H.has g) (hg : H.get g = some (.row cs)) (hl : o + 8 ≤ cs.length)
  (hf : ∀ i, i < 4 → (cs.drop (o + i * 2)).take 2 = fdC (fs i)) (hp : PredF cl v P) (hk : ∀ H' (r : Int), Le H H' → (0 ≤ r ↔ ∃ i, i < 4 ∧ P (fs i) = true) → K (.s (.int .i64 r)) H' = true) :
  B_slices_IndexFunc_Field lf cl (.at g o) 4 c 2 v H K = true := by
 unfold B_slices_IndexFunc_Field
 refine loopX_w (fun s H' => Le H H' ∧ s.1 = (.at g o, 4, c, 2) ∧ s.2.1 = v ∧ s.2.2.1 = (4 : Int) ∧ ∃ i : Nat, s.2.2.2 = (i : Int) ∧ i ≤ 4 ∧ ∀ j, j < i → P (fs j) = false) (fun s => 4 - s.2.2.2.toNat) ⟨Le.refl _, rfl, rfl, rfl, 0, rfl, by omega, fun j h => absurd h (by omega)⟩ (by simp; omega) ?_
 rintro self ⟨x1, x2, x3, x4⟩ H' ⟨hL, e1, e2, e3, i, e4, hi, hall⟩ ih
 simp only at e1 e2 e3 e4
 subst e1 e2 e3 e4
 simp only [pR_, fB_eq, iLt_dec]
 refine ifA_w (fun hx => ?_) (fun hx => ?_)
 ·have hx : i < 4 := by have := of_decide_eq_true hx; omega
  simp only [nilK_at, fN_eq]
  refine idxK_w (by omega) (by omega) ?_
  simp only [Int.toNat_natCast, Nat.mul_eq, Nat.add_eq]
  refine rowK_w ((hL.get _ hh).trans hg) (ldG_we (ys := fdC (fs i)) (by omega) (by decide) (hf i hx) (hp _ _ _ fun H2 h2 => ?_))
  show asB (.s (.bool _)) _ = true
  refine (show ifA (P (fs i)) _ _ = true from ifA_w (fun hb => ?_) (fun hb => ?_))
  ·exact hk _ _ (hL.trans h2) ⟨fun _ => ⟨i, hx, hb⟩, fun _ => by omega⟩
  ·rw [iAdd_]
   refine w64_w (by simp only [Int.ofNat_eq_natCast]; omega) (by simp only [Int.ofNat_eq_natCast]; omega) (ih _ _ ⟨hL.trans h2, rfl, rfl, rfl, i + 1, by simp, by omega, fun j hj => ?_⟩ (by simp; omega))
   rcases (by omega : j < i ∨ j = i) with h | rfl
   ·exact hall j h
   ·exact hb
 ·have hx : i = 4 := by have := of_decide_eq_false hx; omega
  subst hx
  refine hk _ _ hL ⟨fun h => absurd h (by decide), fun ⟨j, hj, hb⟩ => ?_⟩
  rw [hall j hj] at hb; cases hb
def CContF (PR : AV → (Fd → Bool) → Prop) (cl : Cl) : Prop := ∀ (H : AH) (g : Pn) (o : Nat) (c : ACap) (v : AV) (fs : Nat → Fd) (cs : List AS) (P : Fd → Bool) K, H.has g → H.get g = some (.row cs) → o + 8 ≤ cs.length → (∀ i, i < 4 → (cs.drop (o + i * 2)).take 2 = fdC (fs i)) → PR v P →
 (∀ H' (b : Bool), Le H H' → (b = true ↔ ∃ i, i < 4 ∧ P (fs i) = true) → K (.s (.bool b)) H' = true) → cl i_slices_ContainsFunc_Field [.s (.slice (.at g o) 4 c 2), v] H K = true
theorem B_slices_ContainsFunc_Field_ {lf : Nat} {cl : Cl} {PR : AV → (Fd → Bool) → Prop} (hi : CIndexF PR cl) {H : AH} {g : Pn} {o : Nat} {c : ACap} {v : AV} {fs : Nat → Fd} {cs : List AS} {P : Fd → Bool} {K : AV → AH → Bool} (hh : H.has g) (hg : H.get g = some (.row cs)) (hl : o + 8 ≤ cs.length)
  (hf : ∀ i, i < 4 → (cs.drop (o + i * 2)).take 2 = fdC (fs i)) (hp : PR v P) (hk : ∀ H' (b : Bool), Le H H' → (b = true ↔ ∃ i, i < 4 ∧ P (fs i) = true) → K (.s (.bool b)) H' = true) :
  B_slices_ContainsFunc_Field lf cl (.at g o) 4 c 2 v H K = true := by
 unfold B_slices_ContainsFunc_Field
 refine hi _ _ _ _ _ _ _ _ _ hh hg hl hf hp fun H' r hL hr => arI_w ?_
 rw [fB_eq, iLe_dec]
 exact hk _ _ hL ⟨fun h => hr.1 (of_decide_eq_true h), fun h => decide_eq_true (hr.2 h)⟩
def CThIs (cl : Cl) : Prop := ∀ t H K, (∀ H', Le H H' → K (.s (.bool (IsTh t))) H' = true) → cl i_thing_Is [.agg (thC t)] H K = true
theorem B_thing_Is_ {lf : Nat} {cl : Cl} {PR : AV → (Fd → Bool) → Prop} (hon : CPtB i_geom_On On cl) (hc : CContF PR cl) (hpr : PR (.s (.func i_thing_Is_1 [] [])) fun f => !IsF f) {t : Th} {H : AH} {K : AV → AH → Bool}
  (hk : ∀ H', Le H H' → K (.s (.bool (IsTh t))) H' = true) : B_thing_Is lf cl (thC t) H K = true := by
 unfold B_thing_Is
 refine newK_w ?_
 have hL := Le.new H (.row (thC t))
 have g1 := get_new H (.row (thC t))
 have h1 := has_new_self H (.row (thC t))
 generalize H.nx = a at *
 generalize H.new (.row (thC t)) = H1 at *
 have no : ∀ {H'}, Le H H' → IsTh t = false → K (.s (.bool false)) H' = true := fun h e => by have := hk _ h; rw [e] at this; exact this
 refine rowK_w g1 (ldI_w (n := t.id) rfl ?_)
 rw [fB_eq, iLe_dec]
 refine ifA_w (fun e0 => ?_) (fun e0 => no hL (by unfold IsTh; rw [show decide (0 ≤ t.id) = false from e0]; rfl))
 refine rowK_w g1 (ldI_w (n := t.id) rfl ?_)
 rw [fB_eq, iLe_dec]
 refine ifA_w (fun e1 => ?_) (fun e1 => no hL (by unfold IsTh; rw [show decide (0 ≤ t.id) = true from e0, show decide (t.id ≤ 1000000) = false from e1]; rfl))
 refine rowK_w g1 (ldG_we (ys := ptC t.pt) (by rw [thC_len]; decide) (by decide) rfl (hon _ _ _ fun H2 h2 => arB_w ?_))
 refine ifA_w (fun e2 => ?_) (fun e2 => no (hL.trans h2) (by unfold IsTh; rw [show decide (0 ≤ t.id) = true from e0, show decide (t.id ≤ 1000000) = true from e1, e2]; rfl))
 refine rowK_w ((h2.get _ h1).trans g1) (okK_w rfl ?_)
 show cl i_slices_ContainsFunc_Field [.s (.slice (.at a 3) 4 _ 2), _] H2 _ = true
 refine hc H2 a 3 _ _ t.fs (thC t) (fun f => !IsF f) _ (h2.has _ h1) ((h2.get _ h1).trans g1) (by rw [thC_len]; decide) (lt4 rfl rfl rfl rfl) hpr fun H3 b h3 hb => arB_w ?_
 rw [fB_eq]
 have : (!b) = IsTh t := by
  have e : IsTh t = (IsF t.f0 && (IsF t.f1 && (IsF t.f2 && IsF t.f3))) := by
   unfold IsTh; rw [show decide (0 ≤ t.id) = true from e0, show decide (t.id ≤ 1000000) = true from e1, e2]; rfl
  rw [e]
  cases b with
  | true =>
   obtain ⟨i, hi, h⟩ := hb.1 rfl
   have : ∀ i, i < 4 → (!IsF (t.fs i)) = true → false = (IsF t.f0 && (IsF t.f1 && (IsF t.f2 && IsF t.f3))) := lt4 (fun h => by simp [Th.fs] at h; simp [h]) (fun h => by simp [Th.fs] at h; simp [h]) (fun h => by simp [Th.fs] at h; simp [h]) (fun h => by simp [Th.fs] at h; simp [h])
   exact this i hi h
  | false =>
   have f : ∀ i, i < 4 → IsF (t.fs i) = true := fun i hi => by
    cases h : IsF (t.fs i) with
    | true => rfl
    | false => exact absurd (hb.2 ⟨i, hi, by rw [h]; rfl⟩) (by decide)
   have f0 : IsF t.f0 = true := f 0 (by decide)
   have f1 : IsF t.f1 = true := f 1 (by decide)
   have f2 : IsF t.f2 = true := f 2 (by decide)
   have f3 : IsF t.f3 = true := f 3 (by decide)
   rw [f0, f1, f2, f3]; rfl
 have h := hk H3 (hL.trans (h2.trans h3))
 rw [← this] at h
 exact h
end Go.Proofs
end
section
namespace Go.Proofs
open Go Go.Vw Go.Vw.Ev
set_option linter.unusedVariables false
set_option linter.unusedSimpArgs false
theorem TR.nodK {H : AH} {g : Pn} {L : List (Int × Pt)} {O : Pn → Prop} (h : TR H g L O) : (aKeys L).Nodup := by
 obtain ⟨m, q, t, _⟩ := h
 exact t.nodL
def thV (t : Th) : AV := .agg (thC t)
def fd0 : Fd := ⟨0, []⟩
def th0 : Th := ⟨0, ⟨0, 0⟩, fd0, fd0, fd0, fd0⟩
def thOf (L : List (Int × Th)) (id : Int) : Th := (aGet L id).getD th0
structure TB (H : AH) (g m q : Pn) (L : List (Int × Th)) (Lq : List (Int × Pt)) (O : Pn → Prop) : Prop where
 has : H.has g
 get : H.get g = some (.row [.map (some m), .ptr (.at q 0)])
 hasm : H.has m
 map : H.get m = some (.imap (aImg thV L))
 tr : TR H q Lq O
 gm : g ≠ m
 gO : ¬ O g
 mO : ¬ O m
 nod : (aKeys L).Nodup
 pos : ∀ k, aGet Lq k = (aGet L k).map Th.pt
 ok : ∀ k t, aGet L k = some t → t.id = k
def ownT (g m : Pn) (O : Pn → Prop) : Pn → Prop := fun a => a = g ∨ a = m ∨ O a
def TT (H : AH) (g : Pn) (L : List (Int × Th)) (O : Pn → Prop) : Prop := ∃ m q Lq Oq, TB H g m q L Lq Oq ∧ O = ownT g m Oq
theorem TB.fr {F : Pn → Prop} {H H' : AH} {g m q : Pn} {L : List (Int × Th)} {Lq : List (Int × Pt)} {O : Pn → Prop} (h : TB H g m q L Lq O) (k : Fr F H H') (hf : apart (ownT g m O) F) : TB H' g m q L Lq O :=
 ⟨k.has _ h.has, (k.get _ h.has (hf g (.inl rfl))).trans h.get, k.has _ h.hasm, (k.get _ h.hasm (hf m (.inr (.inl rfl)))).trans h.map, h.tr.fr k fun a ha => hf a (.inr (.inr ha)), h.gm, h.gO, h.mO, h.nod, h.pos, h.ok⟩
theorem TB.le {H H' : AH} {g m q : Pn} {L : List (Int × Th)} {Lq : List (Int × Pt)} {O : Pn → Prop} (h : TB H g m q L Lq O) (k : Le H H') : TB H' g m q L Lq O := h.fr (k.fr fun _ => False) fun _ _ => id
theorem TT.fr {F : Pn → Prop} {H H' : AH} {g : Pn} {L : List (Int × Th)} {O : Pn → Prop} (h : TT H g L O) (k : Fr F H H') (hf : apart O F) : TT H' g L O := by
 obtain ⟨m, q, Lq, Oq, t, rfl⟩ := h
 exact ⟨m, q, Lq, Oq, t.fr k hf, rfl⟩
theorem TT.le {H H' : AH} {g : Pn} {L : List (Int × Th)} {O : Pn → Prop} (h : TT H g L O) (k : Le H H') : TT H' g L O := h.fr (k.fr fun _ => False) fun _ _ => id
theorem TT.has {H : AH} {g : Pn} {L : List (Int × Th)} {O : Pn → Prop} (h : TT H g L O) (a : Pn) (ha : O a) : H.has a := by
 obtain ⟨m, q, Lq, Oq, t, rfl⟩ := h
 rcases ha with rfl | rfl | ha
 ·exact t.has
 ·exact t.hasm
 ·exact TRq.has t.tr a ha
theorem mem_get {β : Type} {L : List (Int × β)} {k : Int} : k ∈ aKeys L ↔ (aGet L k).isSome = true := by
 constructor
 ·intro h
  cases e : aGet L k with
  | none => exact absurd h (aGet_none.1 e)
  | some v => rfl
 ·intro h
  obtain ⟨v, hv⟩ := Option.isSome_iff_exists.1 h
  exact aGet_some_mem hv
theorem TB.mem {H : AH} {g m q : Pn} {L : List (Int × Th)} {Lq : List (Int × Pt)} {O : Pn → Prop} (h : TB H g m q L Lq O) (k : Int) : k ∈ aKeys Lq ↔ k ∈ aKeys L := by
 rw [mem_get, mem_get, h.pos]; simp
theorem TB.keys {H : AH} {g m q : Pn} {L : List (Int × Th)} {Lq : List (Int × Pt)} {O : Pn → Prop} (h : TB H g m q L Lq O) : (aKeys Lq).Perm (aKeys L) := (List.perm_ext_iff_of_nodup (TR.nodK h.tr) h.nod).2 h.mem
theorem TB.len {H : AH} {g m q : Pn} {L : List (Int × Th)} {Lq : List (Int × Pt)} {O : Pn → Prop} (h : TB H g m q L Lq O) : Lq.length = L.length := by
 have := h.keys.length_eq
 simpa [aKeys] using this
theorem lkT_w {L : List (Int × Th)} {id : Int} {z : AV} {K : AV → Bool → Bool} (hz : z = thV th0) (h : K (thV (thOf L id)) (aGet L id).isSome = true) : lkZ (aImg thV L) id z K = true := by
 subst hz
 refine lkZ_w (fun v hv => ?_) (fun hn => ?_)
 ·have := h; unfold thOf at this; rw [hv] at this; exact this
 ·have := h; unfold thOf at this; rw [hn] at this; exact this
def CTNew (cl : Cl) : Prop := ∀ H K, (∀ H' g O, Le H H' → TT H' g [] O → (∀ a, O a → ¬ H.has a) → K (.s (.ptr (.at g 0))) H' = true) → cl i_table_New [] H K = true
theorem B_table_New_ {lf : Nat} {cl : Cl} (hnew : CNewQ cl) {H : AH} {K : AV → AH → Bool} (hk : ∀ H' g O, Le H H' → TT H' g [] O → (∀ a, O a → ¬ H.has a) → K (.s (.ptr (.at g 0))) H' = true) : B_table_New lf cl H K = true := by
 unfold B_table_New
 refine newK_w ?_
 have hL := Le.new H (.imap [])
 have g1 := get_new H (.imap [])
 have h1 := has_new_self H (.imap [])
 have n1 := not_has_nx H
 generalize H.nx = m at *
 generalize H.new (.imap []) = H1 at *
 refine hnew _ _ fun H2 q O hL2 tr hz => ?_
 rw [asP_]
 refine newK_w ?_
 have hL3 := Le.new H2 (.row [.map (some m), .ptr (.at q 0)])
 have g3 := get_new H2 (.row [.map (some m), .ptr (.at q 0)])
 have h3 := has_new_self H2 (.row [.map (some m), .ptr (.at q 0)])
 have n3 := not_has_nx H2
 generalize H2.nx = g at *
 generalize H2.new (.row [.map (some m), .ptr (.at q 0)]) = H3 at *
 have hm2 := hL2.has _ h1
 refine hk H3 g (ownT g m O) (hL.trans (hL2.trans hL3)) ⟨m, q, [], O, ⟨h3, g3, hL3.has _ hm2, (hL3.get _ hm2).trans ((hL2.get _ h1).trans g1), tr.le hL3, fun e => n3 (e ▸ hm2), fun h => n3 (TRq.has tr _ h), fun h => hz _ h h1, List.nodup_nil, fun k => rfl, fun k t h => (by cases h)⟩, rfl⟩ fun a ha => ?_
 rcases ha with rfl | rfl | ha
 ·exact fun h => n3 (hL2.has _ (hL.has _ h))
 ·exact n1
 ·exact fun h => hz _ ha (hL.has _ h)
theorem keysT_nodup {β : Type} {L : List (Int × β)} {id : Int} {p : β} (h : (aKeys L).Nodup) : (aKeys (aSet L id p)).Nodup := by
 by_cases hk : id ∈ aKeys L
 ·rw [aKeys_set_old L p hk]; exact h
 ·rw [aKeys_set_new L p hk]
  exact List.nodup_append.2 ⟨h, by simp, fun a ha b hb => by simp only [List.mem_singleton] at hb; subst hb; exact fun e => hk (e ▸ ha)⟩
def CTLay (cl : Cl) : Prop := ∀ H g L O t K, TT H g L O → On t.pt = true → 0 ≤ t.id → t.id ≤ 9223372036854775807 → L.length < 9000 →
 (∀ H' O', Fr O H H' → TT H' g (aSet L t.id t) O' → (∀ a, O' a → O a ∨ ¬ H.has a) → K (.tup []) H' = true) → cl i_table_Table_Lay [.s (.ptr (.at g 0)), .agg (thC t)] H K = true
theorem thC_0 (t : Th) : (thC t)[0]? = some (.int .i64 t.id) := rfl
theorem thC_1 (t : Th) : ((thC t).drop 1).take 2 = ptC t.pt := rfl
theorem thC_all (t : Th) : ((thC t).drop 0).take 11 = thC t := rfl
theorem B_table_Table_Lay_ {lf : Nat} {cl : Cl} (hdrop : CDrop cl) (hlay : CLay cl) {H : AH} {g : Pn} {L : List (Int × Th)} {O : Pn → Prop} {t : Th} {K : AV → AH → Bool} (tt : TT H g L O) (hon : On t.pt = true) (h0 : 0 ≤ t.id) (h1 : t.id ≤ 9223372036854775807) (hl : L.length < 9000)
  (hk : ∀ H' O', Fr O H H' → TT H' g (aSet L t.id t) O' → (∀ a, O' a → O a ∨ ¬ H.has a) → K (.tup []) H' = true) : B_table_Table_Lay lf cl (.at g 0) (thC t) H K = true := by
 obtain ⟨m, q, Lq, Oq, tb, rfl⟩ := tt
 unfold B_table_Table_Lay
 refine new_w fun gt H1 hL1 ht1 nt gt1 => ?_
 have tb1 := tb.le hL1
 refine joinX_w (fun x H2 => x.1 = .at g 0 ∧ x.2 = .at gt 0 ∧ H2.has gt ∧ H2.get gt = some (.row (thC t)) ∧ ∃ O2, Fr (ownT g m Oq) H H2 ∧ H2.has g ∧ H2.get g = some (.row [.map (some m), .ptr (.at q 0)]) ∧ H2.has m ∧ H2.get m = some (.imap (aImg thV L)) ∧
   TR H2 q (aDel Lq t.id) O2 ∧ ∀ a, O2 a → Oq a ∨ ¬ H.has a) ?_ ?_
 ·rintro ⟨x1, x2⟩ H2 ⟨e1, e2, hgt2, gt2, O2, f2, hg2, gg2, hm2, gm2, tr2, o2⟩
  simp only at e1 e2
  subst e1 e2
  simp only [pR_, nilK_at, fN_eq, Nat.add_eq, Nat.add_zero, Nat.zero_add]
  refine rowK_w gg2 (ldM_w rfl (rowK_w gt2 (ldI_w (thC_0 t) (rowK_w gt2 (ldG_we (by rw [thC_len]; decide) (by decide) (thC_all t) (asMp_w (mapK_w gm2 (fL_w (wrK_w ?_)))))))))
  rw [show AV.agg (thC t) = thV t from rfl, setA_img]
  have f3 : Fr (fun a => a = m) H2 (H2.put m (.imap (aImg thV (aSet L t.id t)))) := (Fr.refl (fun a => a = m) _).put (.inl rfl) _
  have gm3 := get_put H2 m (.imap (aImg thV (aSet L t.id t)))
  have hm3 : (H2.put m (.imap (aImg thV (aSet L t.id t)))).has m := has_put hm2
  generalize H2.put m (.imap (aImg thV (aSet L t.id t))) = H3 at *
  have mO2 : ¬ O2 m := fun h => (o2 m h).elim tb.mO fun h => h tb.hasm
  have gO2 : ¬ O2 g := fun h => (o2 g h).elim tb.gO fun h => h tb.has
  have ngt : gt ≠ m := fun e => nt (e ▸ tb.hasm)
  have gg3 := (f3.get _ hg2 tb.gm).trans gg2
  have gt3 := (f3.get _ hgt2 ngt).trans gt2
  refine rowK_w gg3 (ldP_w rfl (rowK_w gt3 (ldI_w (thC_0 t) (rowK_w gt3 (ldG_we (by rw [thC_len]; decide) (by decide) (thC_1 t) ?_)))))
  have hnk : t.id ∉ aKeys (aDel Lq t.id) := by rw [aKeys_del]; simp
  have hlq := tb.len
  have hld : (aKeys (aDel Lq t.id)).length < 9999 := by
   rw [aKeys_del]
   have := List.length_filter_le (fun j => decide (j ≠ t.id)) (aKeys Lq)
   have e : (aKeys Lq).length = Lq.length := by simp [aKeys]
   omega
  refine hlay H3 q (aDel Lq t.id) (aKeys (aDel Lq t.id)) O2 t.id t.pt _ (tr2.fr f3 fun a ha e => mO2 (e ▸ ha)) hnk hon h0 h1 hld fun H4 O4 f4 t4 o4 => ?_
  rw [tup0_]
  have f24 : Fr (fun a => a = m ∨ O2 a) H2 H4 := (f3.mono fun a h => .inl h).trans f4 fun a ha => .inl (.inr ha)
  have hfr : Fr (ownT g m Oq) H H4 := f2.trans f24 fun a ha => by
   rcases ha with rfl | ha
   ·exact .inl (.inr (.inl rfl))
   ·exact (o2 a ha).imp (fun h => .inr (.inr h)) id
  have o4' : ∀ a, O4 a → Oq a ∨ ¬ H.has a := fun a ha => by
   rcases o4 a ha with h | h
   ·exact o2 a h
   ·exact .inr fun hh => h (f3.has _ (f2.has _ hh))
  have hg3 := f3.has _ hg2
  refine hk H4 (ownT g m O4) hfr ⟨m, q, aSet (aDel Lq t.id) t.id t.pt, O4, ⟨f4.has _ hg3, (f4.get _ hg3 gO2).trans gg3, f4.has _ hm3, (f4.get _ hm3 mO2).trans gm3, ?_, tb.gm, fun h => (o4' g h).elim tb.gO fun h => h tb.has, fun h => (o4' m h).elim tb.mO fun h => h tb.hasm, keysT_nodup tb.nod, fun k => ?_, fun k u hu => ?_⟩, rfl⟩ fun a ha => ?_
  ·refine TRq.permute t4 ?_
   rw [aKeys_set_new _ _ hnk]
   exact (List.perm_append_singleton _ _).symm
  ·by_cases e : k = t.id
   ·subst e; rw [aGet_set_same, aGet_set_same]; rfl
   ·rw [aGet_set_ne _ _ e, aGet_set_ne _ _ e, aGet_del_ne _ e, tb.pos]
  ·by_cases e : k = t.id
   ·subst e; rw [aGet_set_same] at hu; cases hu; rfl
   ·rw [aGet_set_ne _ _ e] at hu; exact tb.ok k u hu
  ·rcases ha with rfl | rfl | ha
   ·exact .inl (.inl rfl)
   ·exact .inl (.inr (.inl rfl))
   ·exact (o4' a ha).imp (fun h => .inr (.inr h)) id
 ·intro J hJ
  simp only [nilK_at, fN_eq, Nat.add_eq, Nat.add_zero, Nat.zero_add]
  refine getK_w tb1.get (rowK_w tb1.get (ldM_w rfl (getK_w gt1 (rowK_w gt1 (ldI_w (thC_0 t) (asMp_w (getK_w tb1.map (asMp_w (mapK_w tb1.map (lkT_w rfl ?_))))))))))
  show asG (.agg (thC _)) _ = true
  rw [asG_]
  refine tmp_w rfl rfl fun _ H2 hL2 _ _ _ => ?_
  have hL02 := hL1.trans hL2
  have tb2 := tb.le hL02
  have hgt2 := hL2.has _ ht1
  have gt2 := (hL2.get _ ht1).trans gt1
  refine ifA_w (fun hs => ?_) (fun hs => ?_)
  ·refine rowK_w tb2.get (ldP_w rfl (rowK_w gt2 (ldI_w (thC_0 t) ?_)))
   refine hdrop H2 q Lq Oq t.id _ tb2.tr fun H3 O3 f3 t3 o3 => arI_w ?_
   have ng : ¬ Oq gt := fun h => nt (TRq.has tb.tr _ h)
   refine hJ _ _ ⟨rfl, rfl, f3.has _ hgt2, (f3.get _ hgt2 ng).trans gt2, O3, (hL02.fr (ownT g m Oq)).trans f3 fun a ha => .inl (.inr (.inr ha)), f3.has _ tb2.has, (f3.get _ tb2.has tb.gO).trans tb2.get, f3.has _ tb2.hasm, (f3.get _ tb2.hasm tb.mO).trans tb2.map, t3, fun a ha => ?_⟩
   exact (o3 a ha).imp id fun h hh => h (hL02.has _ hh)
  ·have hn : aGet L t.id = none := by simpa using hs
   have hq : aGet Lq t.id = none := by rw [tb.pos, hn]; rfl
   refine hJ _ _ ⟨rfl, rfl, hgt2, gt2, Oq, hL02.fr _, tb2.has, tb2.get, tb2.hasm, tb2.map, by rw [aDel_none hq]; exact tb2.tr, fun a ha => .inl ha⟩
def CTDrop (cl : Cl) : Prop := ∀ H g L O id K, TT H g L O → (∀ H' O', Fr O H H' → TT H' g (aDel L id) O' → (∀ a, O' a → O a ∨ ¬ H.has a) → K (.s (.int .i64 (if (aGet L id).isSome = true then 0 else 15))) H' = true) →
 cl i_table_Table_Drop [.s (.ptr (.at g 0)), .s (.int .i64 id)] H K = true
theorem aDel_noneT {β : Type} : ∀ {L : List (Int × β)} {id : Int}, aGet L id = none → aDel L id = L
 | [], _, _ => rfl
 | x :: r, id, h => by
  unfold aGet at h
  split at h
  ·cases h
  ·rename_i hn
   unfold aDel
   rw [if_neg hn, aDel_noneT h]
theorem B_table_Table_Drop_ {lf : Nat} {cl : Cl} (hdrop : CDrop cl) {H : AH} {g : Pn} {L : List (Int × Th)} {O : Pn → Prop} {id : Int} {K : AV → AH → Bool} (tt : TT H g L O)
  (hk : ∀ H' O', Fr O H H' → TT H' g (aDel L id) O' → (∀ a, O' a → O a ∨ ¬ H.has a) → K (.s (.int .i64 (if (aGet L id).isSome = true then 0 else 15))) H' = true) : B_table_Table_Drop lf cl (.at g 0) id H K = true := by
 have tt0 := tt
 obtain ⟨m, q, Lq, Oq, tb, rfl⟩ := tt
 unfold B_table_Table_Drop
 simp only [nilK_at, fN_eq, Nat.add_eq, Nat.add_zero, Nat.zero_add]
 refine rowK_w tb.get (ldM_w rfl (asMp_w (mapK_w tb.map (lkT_w rfl ?_))))
 show asG (.agg (thC _)) _ = true
 rw [asG_]
 refine tmp_w rfl rfl fun _ H3 hL3 _ _ _ => ?_
 have tb3 := tb.le hL3
 rw [fB_eq]
 refine ifA_w (fun hn => ?_) (fun hn => ?_)
 ·have hn : aGet L id = none := by simpa using hn
  have := hk H3 _ (hL3.fr _) (by rw [aDel_noneT hn]; exact tt0.le hL3) fun a h => .inl h
  rw [hn] at this
  exact this
 ·have hs : (aGet L id).isSome = true := by simpa using hn
  refine rowK_w tb3.get (ldM_w rfl (asMp_w (mapK_w tb3.map (fL_w (wrK_w ?_)))))
  rw [delA_img]
  have f4 : Fr (fun a => a = m) H3 (H3.put m (.imap (aImg thV (aDel L id)))) := (Fr.refl (fun a => a = m) _).put (.inl rfl) _
  have gm4 := get_put H3 m (.imap (aImg thV (aDel L id)))
  have hm4 : (H3.put m (.imap (aImg thV (aDel L id)))).has m := has_put tb3.hasm
  generalize H3.put m (.imap (aImg thV (aDel L id))) = H4 at *
  have gg4 := (f4.get _ tb3.has tb.gm).trans tb3.get
  have hg4 := f4.has _ tb3.has
  refine rowK_w gg4 (ldP_w rfl ?_)
  refine hdrop H4 q Lq Oq id _ (tb3.tr.fr f4 fun a ha e => tb.mO (e ▸ ha)) fun H5 O5 f5 t5 o5 => arI_w ?_
  have o5' : ∀ a, O5 a → Oq a ∨ ¬ H.has a := fun a ha => (o5 a ha).imp (fun h => h) fun h hh => h (f4.has _ (hL3.has _ hh))
  have f35 : Fr (fun a => a = m ∨ Oq a) H3 H5 := (f4.mono fun a h => .inl h).trans f5 fun a ha => .inl (.inr ha)
  have := hk H5 (ownT g m O5) ((hL3.fr (ownT g m Oq)).trans f35 fun a ha => .inl (ha.elim (fun h => .inr (.inl h)) fun h => .inr (.inr h))) ⟨m, q, aDel Lq id, O5, ⟨f5.has _ hg4, (f5.get _ hg4 tb.gO).trans gg4, f5.has _ hm4, (f5.get _ hm4 tb.mO).trans gm4, t5, tb.gm,
   fun h => (o5' g h).elim tb.gO fun h => h tb.has, fun h => (o5' m h).elim tb.mO fun h => h tb.hasm, by rw [aKeys_del]; exact tb.nod.filter _, fun k => ?_, fun k u hu => ?_⟩, rfl⟩ fun a ha => ?_
  ·rw [hs] at this
   exact this
  ·by_cases e : k = id
   ·subst e; rw [aGet_del_same, aGet_del_same]; rfl
   ·rw [aGet_del_ne _ e, aGet_del_ne _ e, tb.pos]
  ·by_cases e : k = id
   ·subst e; rw [aGet_del_same] at hu; cases hu
   ·rw [aGet_del_ne _ e] at hu; exact tb.ok k u hu
  ·rcases ha with rfl | rfl | ha
   ·exact .inl (.inl rfl)
   ·exact .inl (.inr (.inl rfl))
   ·exact (o5' a ha).imp (fun h => .inr (.inr h)) fun h => h
def CTGet (cl : Cl) : Prop := ∀ H g L O id K, TT H g L O → (∀ H', Le H H' → K (.tup [.agg (thC (thOf L id)), .s (.bool (aGet L id).isSome)]) H' = true) → cl i_table_Table_Get [.s (.ptr (.at g 0)), .s (.int .i64 id)] H K = true
theorem B_table_Table_Get_ {lf : Nat} {cl : Cl} {H : AH} {g : Pn} {L : List (Int × Th)} {O : Pn → Prop} {id : Int} {K : AV → AH → Bool} (tt : TT H g L O) (hk : ∀ H', Le H H' → K (.tup [.agg (thC (thOf L id)), .s (.bool (aGet L id).isSome)]) H' = true) :
  B_table_Table_Get lf cl (.at g 0) id H K = true := by
 obtain ⟨m, q, Lq, Oq, tb, rfl⟩ := tt
 unfold B_table_Table_Get
 refine new_w fun gt H1 hL1 ht1 nt gt1 => ?_
 have tb1 := tb.le hL1
 simp only [nilK_at, fN_eq, Nat.add_eq, Nat.add_zero, Nat.zero_add]
 refine rowK_w tb1.get (ldM_w rfl (asMp_w (mapK_w tb1.map (lkT_w rfl ?_))))
 show asG (.agg (thC _)) _ = true
 rw [asG_]
 refine tmp_w rfl rfl fun g2 H2 hL2 h2 n2 gg2 => ?_
 refine rowK_w gg2 (ldG_we (by rw [thC_len]; decide) (by decide) (thC_all _) ?_)
 refine stoN_we (ds := thC (thOf L id)) (cs := thC th0) ((hL2.get _ ht1).trans gt1) rfl (Nat.le_refl 11) (List.append_nil (thC (thOf L id))) ?_
 refine rowK_w (get_put _ _ _) (ldG_we (by rw [thC_len]; decide) (by decide) (thC_all _) ?_)
 exact hk _ (Le.put (hL1.trans hL2) nt _)
def CTLen (cl : Cl) : Prop := ∀ H g L O K, TT H g L O → K (.s (.int .i64 (L.length : Nat))) H = true → cl i_table_Table_Len [.s (.ptr (.at g 0))] H K = true
theorem B_table_Table_Len_ {lf : Nat} {cl : Cl} {H : AH} {g : Pn} {L : List (Int × Th)} {O : Pn → Prop} {K : AV → AH → Bool} (tt : TT H g L O) (hk : K (.s (.int .i64 (L.length : Nat))) H = true) : B_table_Table_Len lf cl (.at g 0) H K = true := by
 obtain ⟨m, q, Lq, Oq, tb, rfl⟩ := tt
 unfold B_table_Table_Len
 simp only [nilK_at, fN_eq, Nat.add_eq, Nat.add_zero, Nat.zero_add]
 refine rowK_w tb.get (ldM_w rfl (asMp_w (mapK_w tb.map ?_)))
 rw [ln_eq, aImg_length]
 exact hk
def thsC (l : List Th) : List AS := l.flatMap thC
def COf (cl : Cl) : Prop := ∀ H g L O ks p c z K, TT H g L O → IS H p ks.length z ks → ks.length < 10000 →
 (∀ H' p' c' z', Le H H' → Sl H H' p' ks.length z' (thsC (ks.map (thOf L))) 11 → K (.s (.slice p' ks.length c' z')) H' = true) → cl i_table_Table_of [.s (.ptr (.at g 0)), .s (.slice p ks.length c z)] H K = true
theorem B_table_Table_of_ {lf : Nat} {cl : Cl} (hlf : 20000 ≤ lf) {H : AH} {g : Pn} {L : List (Int × Th)} {O : Pn → Prop} {ks : List Int} {p : AP} {c : ACap} {z : Nat} {K : AV → AH → Bool} (tt : TT H g L O) (his : IS H p ks.length z ks) (hl : ks.length < 10000)
  (hk : ∀ H' p' c' z', Le H H' → Sl H H' p' ks.length z' (thsC (ks.map (thOf L))) 11 → K (.s (.slice p' ks.length c' z')) H' = true) : B_table_Table_of lf cl (.at g 0) p ks.length c z H K = true := by
 obtain ⟨m, q, Lq, Oq, tb, rfl⟩ := tt
 unfold B_table_Table_of
 refine loopX_w (fun x Hx => x.1 = .at g 0 ∧ x.2.2.1 = (p, ks.length, c, z) ∧ x.2.2.2.1 = (ks.length : Int) ∧ Le H Hx ∧ ∃ i : Nat, x.2.2.2.2 = (i : Int) ∧ i ≤ ks.length ∧ ∃ p1 c1 z1, x.2.1 = (p1, i, c1, z1) ∧ Sl H Hx p1 i z1 (thsC ((ks.take i).map (thOf L))) 11) (fun x => 10000 - x.2.2.2.2.toNat)
  ⟨rfl, rfl, rfl, Le.refl _, 0, rfl, by omega, .nil, _, _, rfl, Sl.nil⟩ (by simp; omega) ?_
 rintro self ⟨x1, x2, x3, x4, x5⟩ H1 ⟨e1, e3, e4, hL1, i, e5, hi, p1, c1, z1, e2, sl⟩ ih
 simp only at e1 e2 e3 e4 e5
 subst e1 e2 e3 e4 e5
 have tb1 := tb.le hL1
 simp only [pR_, fB_eq, iLt_dec]
 refine ifA_w (fun hx => ?_) (fun hx => ?_)
 ·have hx : i < ks.length := by have := of_decide_eq_true hx; omega
  obtain ⟨g4, cs4, rfl, hh4, hg4, hc4⟩ := his.at (i := i) hx
  simp only [nilK_at, fN_eq, Nat.add_eq, Nat.mul_eq, Nat.zero_add, Nat.mul_one]
  refine idxK_w (by omega) (by omega) (rowK_w ((hL1.get _ hh4).trans hg4) (ldI_w (by rw [Int.toNat_natCast]; exact hc4) ?_))
  refine rowK_w tb1.get (ldM_w rfl (asMp_w (mapK_w tb1.map (lkT_w rfl ?_))))
  show asG (.agg (thC _)) _ = true
  rw [asG_]
  refine okK_w rfl (fL_w ?_)
  rw [ap_eq, List.append_nil]
  refine okK_w rfl (newK_w ?_)
  refine elK_w (ys := thC (thOf L ks[i])) (get_new _ _) (by rw [thC_len]; decide) rfl ?_
  refine app_w (sl.le (Le.new _ _)) (hL1.newr _) (m := 1) rfl (by decide) (by omega) (by omega) fun p2 c2 z2 H2 hL2 sl2 _ => ?_
  rw [iAdd_]
  refine w64_w (by simp only [Int.ofNat_eq_natCast]; omega) (by simp only [Int.ofNat_eq_natCast]; omega) (ih _ _ ⟨rfl, rfl, rfl, hL2, i + 1, by simp, by omega, p2, c2, z2, rfl, ?_⟩ (by simp; omega))
  rw [List.take_succ_eq_append_getElem hx, List.map_append, thsC, List.flatMap_append]
  simpa [thsC] using sl2
 ·have hx : i = ks.length := by have := of_decide_eq_false hx; omega
  subst hx
  rw [List.take_length] at sl
  exact hk _ _ _ _ hL1 sl
theorem srtI_perm_eq {l l' : List Int} (h : l.Perm l') : srtI l = srtI l' := by
 refine List.Perm.eq_of_pairwise (le := fun a b => a ≤ b) (fun a b _ _ h1 h2 => Int.le_antisymm h1 h2) (srtI_sorted l) (srtI_sorted l') ((srtI_perm l).trans (h.trans (srtI_perm l').symm))
noncomputable def inT (L : List (Int × Th)) (r : Rc) : List Int := srtI ((aKeys L).filter fun k => RIn r (thOf L k).pt)
theorem TB.inT {H : AH} {g m q : Pn} {L : List (Int × Th)} {Lq : List (Int × Pt)} {O : Pn → Prop} (h : TB H g m q L Lq O) (r : Rc) : inL Lq r = Go.Proofs.inT L r := by
 unfold inL inSel Go.Proofs.inT
 have e : ∀ k, posOf Lq k = (thOf L k).pt := fun k => by
  unfold posOf thOf
  rw [h.pos]
  cases aGet L k <;> rfl
 simp only [e]
 exact srtI_perm_eq (h.keys.filter _)
def CTIn (cl : Cl) : Prop := ∀ H g L O r K, TT H g L O → L.length < 10000 → (∀ H' p c z, Le H H' → Sl H H' p (inT L r).length z (thsC ((inT L r).map (thOf L))) 11 → K (.s (.slice p (inT L r).length c z)) H' = true) → cl i_table_Table_In [.s (.ptr (.at g 0)), .agg (rcC r)] H K = true
theorem inT_len (L : List (Int × Th)) (r : Rc) : (inT L r).length ≤ L.length := by
 unfold inT; rw [srtI_len]; exact Nat.le_trans (List.length_filter_le _ _) (by simp [aKeys])
theorem B_table_Table_In_ {lf : Nat} {cl : Cl} (hin : CInT cl) (hof : COf cl) {H : AH} {g : Pn} {L : List (Int × Th)} {O : Pn → Prop} {r : Rc} {K : AV → AH → Bool} (tt : TT H g L O) (hl : L.length < 10000)
  (hk : ∀ H' p c z, Le H H' → Sl H H' p (inT L r).length z (thsC ((inT L r).map (thOf L))) 11 → K (.s (.slice p (inT L r).length c z)) H' = true) : B_table_Table_In lf cl (.at g 0) (rcC r) H K = true := by
 have tt0 := tt
 obtain ⟨m, q, Lq, Oq, tb, rfl⟩ := tt
 unfold B_table_Table_In
 refine new_w fun gt H1 hL1 ht1 nt gt1 => ?_
 have tb1 := tb.le hL1
 simp only [nilK_at, fN_eq, Nat.add_eq, Nat.add_zero, Nat.zero_add]
 refine rowK_w tb1.get (ldP_w rfl (rowK_w gt1 (ldG_we (ys := rcC r) (by simp [rcC]) (by decide) rfl ?_)))
 refine hin H1 q Lq Oq r _ tb1.tr fun H2 p2 c2 z2 hL2 is2 _ _ => ?_
 rw [asSl_]
 have hL02 := hL1.trans hL2
 have hlen := inT_len L r
 rw [tb.inT r] at *
 refine hof H2 g L _ _ p2 c2 z2 _ (tt0.le hL02) is2 (by omega) fun H3 p3 c3 z3 hL3 sl3 => ?_
 rw [asSl_]
 exact hk H3 p3 c3 z3 (hL02.trans hL3) ⟨sl3.len, sl3.rep.imp id fun ⟨g, h1, h2, h3, h4, h5⟩ => ⟨g, h1, h2, h3, h4, fun h => h5 (hL02.has _ h)⟩⟩
end Go.Proofs
end
section
namespace Go.Proofs
open Go Go.Vw Go.Vw.Ev
set_option linter.unusedVariables false
set_option linter.unusedSimpArgs false
def u32 (n : Int) : Int := IntKind.wrap .u32 n
def u16 (n : Int) : Int := IntKind.wrap .u16 n
def or32 (a b : Int) : Int := u32 (BitVec.toNat (BitVec.ofInt (IntKind.bits .u32) a ||| BitVec.ofInt (IntKind.bits .u32) b))
def and32 (a b : Int) : Int := u32 (BitVec.toNat (BitVec.ofInt (IntKind.bits .u32) a &&& BitVec.ofInt (IntKind.bits .u32) b))
def shr32 (n f : Int) : Int := Int.fdiv n (2 ^ (min (Int.toNat f) (IntKind.bits .u32)))
def shl32 (n f : Int) : Int := u32 (n * 2 ^ (min (Int.toNat f) (IntKind.bits .u32)))
def gF : Nat → Int
 | 0 => 1
 | 1 => 2
 | 2 => 4
 | _ => 8
def gS : Nat → Int
 | 0 => 858993459
 | 1 => 252645135
 | 2 => 16711935
 | _ => 65535
def sF : Nat → Int
 | 0 => 8
 | 1 => 4
 | 2 => 2
 | _ => 1
def sS : Nat → Int
 | 0 => 16711935
 | 1 => 252645135
 | 2 => 858993459
 | _ => 1431655765
def pairC (a b : Int) : List AS := [.int .u64 a, .int .u32 b]
def gC : List AS := pairC (gF 0) (gS 0) ++ (pairC (gF 1) (gS 1) ++ (pairC (gF 2) (gS 2) ++ pairC (gF 3) (gS 3)))
def sC : List AS := pairC (sF 0) (sS 0) ++ (pairC (sF 1) (sS 1) ++ (pairC (sF 2) (sS 2) ++ pairC (sF 3) (sS 3)))
def gUp (n : Int) : Nat → Int
 | 0 => and32 n 1431655765
 | i + 1 => and32 (or32 (gUp n i) (shr32 (gUp n i) (gF i))) (gS i)
def sUp (n : Int) : Nat → Int
 | 0 => n
 | i + 1 => and32 (or32 (sUp n i) (shl32 (sUp n i) (sF i))) (sS i)
def CGather (cl : Cl) : Prop := ∀ n H K, (∀ H', Le H H' → K (.s (.int .u32 (gUp n 4))) H' = true) → cl i_morton_gather [.s (.int .u32 n)] H K = true
theorem B_morton_gather_ {lf : Nat} {cl : Cl} (hlf : 10 ≤ lf) {n : Int} {H : AH} {K : AV → AH → Bool} (hk : ∀ H', Le H H' → K (.s (.int .u32 (gUp n 4))) H' = true) : B_morton_gather lf cl n H K = true := by
 unfold B_morton_gather
 rw [wrapK_eq]
 refine fL_w ?_
 refine loopX_w (fun x H' => Le H H' ∧ x.2.1 = gC ∧ ∃ i : Nat, x.2.2 = (i : Int) ∧ i ≤ 4 ∧ x.1 = gUp n i) (fun x => 4 - x.2.2.toNat) ⟨Le.refl _, rfl, 0, rfl, by omega, rfl⟩ (by simp; omega) ?_
 rintro self ⟨x1, x2, x3⟩ H1 ⟨hL1, e2, i, e3, hi, e1⟩ ih
 simp only at e1 e2 e3
 subst e1 e2 e3
 simp only [pR_, fB_eq, iLt_dec]
 refine ifA_w (fun hx => ?_) (fun hx => ?_)
 ·have hx : i < 4 := by have h : (i : Int) < 4 := of_decide_eq_true hx; omega
  refine idxK_w (by omega) (by omega) ?_
  simp only [fN_eq, Int.toNat_natCast, Nat.mul_eq]
  have hc : (gC.drop (i * 2)).take 2 = pairC (gF i) (gS i) := lt4 (P := fun i => (gC.drop (i * 2)).take 2 = pairC (gF i) (gS i)) rfl rfl rfl rfl i hx
  have hp : iLe (Int.ofNat 0) (gF i) = true := lt4 (P := fun i => iLe (Int.ofNat 0) (gF i) = true) rfl rfl rfl rfl i hx
  refine ldG_we (by simp [gC, pairC]; omega) (by decide) hc (tmp_w rfl rfl fun g H2 hL2 _ _ g2 => ?_)
  refine rowK_w g2 (ldI_w (n := gF i) rfl (okK_w hp (fI_w ?_)))
  rw [wrapK_eq]
  refine rowK_w g2 (ldI_w (n := gS i) rfl ?_)
  rw [wrapK_eq, iAdd_]
  exact w64_w (by simp only [Int.ofNat_eq_natCast]; omega) (by simp only [Int.ofNat_eq_natCast]; omega) (ih _ _ ⟨hL1.trans hL2, rfl, i + 1, by simp, by omega, rfl⟩ (by simp; omega))
 ·have hx : i = 4 := by have h : ¬ (i : Int) < 4 := of_decide_eq_false hx; omega
  subst hx
  exact hk _ hL1
def weaveN (a b : Int) : Int := u32 (BitVec.toNat (BitVec.ofInt (IntKind.bits .u32) (sUp (u32 a) 4) ||| BitVec.ofInt (IntKind.bits .u32) (u32 (sUp (u32 b) 4 * 2 ^ (min (Int.toNat (Int.ofNat 1)) (IntKind.bits .u32))))))
def CSplit (cl : Cl) : Prop := ∀ n H K, (∀ H', Le H H' → K (.tup [.s (.int .u16 (u16 (gUp n 4))), .s (.int .u16 (u16 (gUp (shr32 n 1) 4)))]) H' = true) → cl i_morton_Split [.s (.int .u32 n)] H K = true
theorem B_morton_Split_ {lf : Nat} {cl : Cl} (hg : CGather cl) {n : Int} {H : AH} {K : AV → AH → Bool} (hk : ∀ H', Le H H' → K (.tup [.s (.int .u16 (u16 (gUp n 4))), .s (.int .u16 (u16 (gUp (shr32 n 1) 4)))]) H' = true) : B_morton_Split lf cl n H K = true := by
 unfold B_morton_Split
 refine hg _ _ _ fun H1 h1 => arI_w ?_
 rw [wrapK_eq]
 refine fI_w (hg _ _ _ fun H2 h2 => arI_w ?_)
 rw [wrapK_eq]
 exact hk _ (h1.trans h2)
theorem lt16 {P : Int → Prop} (h : ∀ i : Fin 16, P (i.val : Nat)) (c : Int) (h0 : 0 ≤ c) (h1 : c < 16) : P c := by
 obtain ⟨n, rfl⟩ := Int.eq_ofNat_of_zero_le h0
 exact h ⟨n, by omega⟩
def cellAt (x y : Int) : Int := x % 2 + 2 * (y % 2) + 4 * (x / 2) + 8 * (y / 2)
def cellX (c : Int) : Int := c % 2 + 2 * (c / 4 % 2)
def cellY (c : Int) : Int := c / 2 % 2 + 2 * (c / 8)
def cellR (c : Int) : Rc := ⟨cellX c * 16, cellY c * 16, (cellX c + 1) * 16, (cellY c + 1) * 16⟩
def isC (c : Int) : Bool := decide (0 ≤ c) && decide (c < 16)
def cellOf (p : Pt) : Int := cellAt (p.x / 16) (p.y / 16)
theorem split_at (c : Int) (h0 : 0 ≤ c) (h1 : c < 16) : u16 (gUp (u32 c) 4) = cellX c ∧ u16 (gUp (shr32 (u32 c) 1) 4) = cellY c :=
 lt16 (P := fun c => u16 (gUp (u32 c) 4) = cellX c ∧ u16 (gUp (shr32 (u32 c) 1) 4) = cellY c) (by decide +kernel) c h0 h1
theorem weave_at (x y : Int) (h0 : 0 ≤ x) (h1 : x < 4) (h2 : 0 ≤ y) (h3 : y < 4) : weaveN (u16 x) (u16 y) = cellAt x y := by
 obtain ⟨n, rfl⟩ := Int.eq_ofNat_of_zero_le h0
 obtain ⟨m, rfl⟩ := Int.eq_ofNat_of_zero_le h2
 have key : ∀ i j : Fin 4, weaveN (u16 (i.val : Nat)) (u16 (j.val : Nat)) = cellAt (i.val : Nat) (j.val : Nat) := by decide +kernel
 exact key ⟨n, by omega⟩ ⟨m, by omega⟩
theorem cellX_b {c : Int} (h0 : 0 ≤ c) (h1 : c < 16) : 0 ≤ cellX c ∧ cellX c < 4 ∧ 0 ≤ cellY c ∧ cellY c < 4 := by unfold cellX cellY; omega
theorem cellAt_b {x y : Int} (h0 : 0 ≤ x) (h1 : x < 4) (h2 : 0 ≤ y) (h3 : y < 4) : 0 ≤ cellAt x y ∧ cellAt x y < 16 := by unfold cellAt; omega
def CPlace (cl : Cl) : Prop := ∀ c H K, 0 ≤ c → c < 16 → (∀ H', Le H H' → K (.tup [.s (.int .i64 (cellX c)), .s (.int .i64 (cellY c))]) H' = true) → cl i_cells_place [.s (.int .i64 c)] H K = true
theorem B_cells_place_ {lf : Nat} {cl : Cl} (hs : CSplit cl) {c : Int} {H : AH} {K : AV → AH → Bool} (h0 : 0 ≤ c) (h1 : c < 16) (hk : ∀ H', Le H H' → K (.tup [.s (.int .i64 (cellX c)), .s (.int .i64 (cellY c))]) H' = true) : B_cells_place lf cl c H K = true := by
 unfold B_cells_place
 rw [wrapK_eq]
 refine hs _ _ _ fun H1 h1' => ?_
 obtain ⟨e1, e2⟩ := split_at c h0 h1
 obtain ⟨b0, b1, b2, b3⟩ := cellX_b h0 h1
 rw [show IntKind.wrap .u32 c = u32 c from rfl, e1, e2]
 rw [tup2_]
 refine arI_w (arI_w (w64_w (by omega) (by omega) (w64_w (by omega) (by omega) (hk _ h1'))))
def CIsC (cl : Cl) : Prop := ∀ c H K, K (.s (.bool (isC c))) H = true → cl i_cells_Is [.s (.int .i64 c)] H K = true
theorem B_cells_Is_ {lf : Nat} {cl : Cl} {c : Int} {H : AH} {K : AV → AH → Bool} (hk : K (.s (.bool (isC c))) H = true) : B_cells_Is lf cl c H K = true := by
 unfold B_cells_Is
 simp only [fB_eq, iLe_dec, iLt_dec, ifA_and]
 exact hk
def rc0' : Rc := ⟨0, 0, 0, 0⟩
def CRectC (cl : Cl) : Prop := ∀ c H K, (∀ H', Le H H' → K (.tup [.agg (rcC (if isC c = true then cellR c else rc0')), .s (.bool (isC c))]) H' = true) → cl i_cells_Rect [.s (.int .i64 c)] H K = true
theorem B_cells_Rect_ {lf : Nat} {cl : Cl} (hi : CIsC cl) (hp : CPlace cl) {c : Int} {H : AH} {K : AV → AH → Bool} (hk : ∀ H', Le H H' → K (.tup [.agg (rcC (if isC c = true then cellR c else rc0')), .s (.bool (isC c))]) H' = true) : B_cells_Rect lf cl c H K = true := by
 unfold B_cells_Rect
 refine new_w fun g H1 hL1 h1 n1 g1 => ?_
 refine hi _ _ _ (arB_w ?_)
 rw [fB_eq]
 refine ifA_w (fun hc => ?_) (fun hc => ?_)
 ·have hc : isC c = false := by simpa using hc
  refine stoN_we (ds := rcC rc0') g1 rfl (Nat.le_refl 4) rfl (rowK_w (get_put _ _ _) (ldG_we (ys := rcC rc0') (Nat.le_refl 4) (by decide) rfl ?_))
  have := hk (H1.put g (.row (rcC rc0'))) (hL1.put n1 _)
  rw [hc] at this
  exact this
 ·have hc : isC c = true := by simpa using hc
  have hb : 0 ≤ c ∧ c < 16 := by unfold isC at hc; simpa using hc
  obtain ⟨b0, b1, b2, b3⟩ := cellX_b hb.1 hb.2
  refine hp _ _ _ hb.1 hb.2 fun H2 h2 => ?_
  rw [tup2_]
  refine arI_w (arI_w ?_)
  simp only [iMul_, iAdd_, Int.ofNat_eq_natCast, Int.cast_ofNat_Int]
  refine w64_w (by omega) (by omega) (w64_w (by omega) (by omega) (w64_w (by omega) (by omega) (w64_w (by omega) (by omega) (w64_w (by omega) (by omega) (w64_w (by omega) (by omega) ?_)))))
  refine stoN_we (ds := rcC (cellR c)) ((h2.get _ h1).trans g1) rfl (Nat.le_refl 4) rfl (rowK_w (get_put _ _ _) (ldG_we (ys := rcC (cellR c)) (Nat.le_refl 4) (by decide) rfl ?_))
  have := hk (H2.put g (.row (rcC (cellR c)))) ((hL1.trans h2).put n1 _)
  rw [hc] at this
  exact this
end Go.Proofs
end
section
namespace Go.Proofs
open Go Go.Vw Go.Vw.Ev
set_option linter.unusedVariables false
set_option linter.unusedSimpArgs false
theorem intsA_len (l : List Int) : (intsA l).length = l.length := by rw [intsA_map]; simp
noncomputable def cellT (L : List (Int × Th)) (c : Int) : List Int := if isC c = true then inT L (cellR c) else []
def CTCell (cl : Cl) : Prop := ∀ H g L O c K, TT H g L O → L.length < 10000 → (∀ H' p c' z, Le H H' → Sl H H' p (cellT L c).length z (thsC ((cellT L c).map (thOf L))) 11 → K (.s (.slice p (cellT L c).length c' z)) H' = true) → cl i_table_Table_Cell [.s (.ptr (.at g 0)), .s (.int .i64 c)] H K = true
theorem B_table_Table_Cell_ {lf : Nat} {cl : Cl} (hr : CRectC cl) (hin : CTIn cl) {H : AH} {g : Pn} {L : List (Int × Th)} {O : Pn → Prop} {c : Int} {K : AV → AH → Bool} (tt : TT H g L O) (hl : L.length < 10000)
  (hk : ∀ H' p c' z, Le H H' → Sl H H' p (cellT L c).length z (thsC ((cellT L c).map (thOf L))) 11 → K (.s (.slice p (cellT L c).length c' z)) H' = true) : B_table_Table_Cell lf cl (.at g 0) c H K = true := by
 unfold B_table_Table_Cell
 refine hr _ _ _ fun H1 h1 => ?_
 rw [tup2_, asG_]
 refine arB_w (tmp_w rfl rfl fun ga H2 h2 ha na ga2 => ?_)
 have hL2 := h1.trans h2
 rw [fB_eq]
 refine ifA_w (fun hc => ?_) (fun hc => ?_)
 ·have hc : isC c = false := by simpa using hc
  have := hk H2 .nil (.lit 0) 1 hL2
  rw [show cellT L c = [] by unfold cellT; rw [hc]; rfl] at this
  exact this Sl.nil
 ·have hc : isC c = true := by simpa using hc
  rw [if_pos hc] at ga2
  have e : cellT L c = inT L (cellR c) := by unfold cellT; rw [if_pos hc]
  rw [e] at hk
  refine rowK_w ga2 (ldG_we (ys := rcC (cellR c)) (Nat.le_refl 4) (by decide) rfl ?_)
  refine hin H2 g L O _ _ (tt.le hL2) hl fun H3 p3 c3 z3 h3 sl3 => ?_
  rw [asSl_]
  exact hk H3 p3 c3 z3 (hL2.trans h3) ⟨sl3.len, sl3.rep.imp (fun h => h) fun ⟨g, h1, h2, h3, h4, h5⟩ => ⟨g, h1, h2, h3, h4, fun h => h5 (hL2.has _ h)⟩⟩
theorem allIn_of : ∀ {l : List Int}, (∀ x ∈ l, inR .i64 x = true) → allIn l = true
 | [], _ => rfl
 | x :: r, h => by
  show okK (inR .i64 x) (allIn r) = true
  exact okK_w (h x (by simp)) (allIn_of fun y hy => h y (by simp [hy]))
theorem inR_of {x : Int} (h0 : 0 ≤ x) (h1 : x ≤ 9223372036854775807) : inR .i64 x = true := by
 obtain ⟨n, rfl⟩ := Int.eq_ofNat_of_zero_le h0
 exact Nat.ble_eq_true_of_le (by omega : n ≤ 9223372036854775807)
theorem keys_sorted_ {g : Nat} {gs : List Nat} (hg : memN g gs = true) {cl cl' : Cl} {H : AH} {m : Pn} {es : List (Int × AV)} {K : AV → AH → Bool} (hm : H.get m = some (.imap es)) (hh : H.has m) (hr : ∀ k ∈ keysOf es, 0 ≤ k ∧ k ≤ 9223372036854775807) (hl : es.length ≤ 1000000)
  (hk : ∀ H' p c z, Le H H' → IS H' p (srtI (keysOf es)).length z (srtI (keysOf es)) → K (.s (.slice p (srtI (keysOf es)).length c z)) H' = true) : keysB g cl [.s (.map (some m))] H (fun r h => sortedB gs cl' [r] h K) = true := by
 unfold keysB
 refine new_w fun b H1 h1 hb nb gb => ?_
 unfold sortedB
 refine okK_w hg ?_
 rw [show H1.t.get b = some (.one (.map (some m))) from gb]
 refine mapK_w ((h1.get _ hh).trans hm) (okK_w ?_ (fL_w ?_))
 ·rw [allIn_of fun x hx => inR_of (hr x hx).1 (hr x hx).2, ln_eq, Nat.ble_eq_true_of_le hl]; rfl
 ·cases e : srtI (keysOf es) with
  | nil =>
   have := hk H1 .nil (.lit 0) 1 h1
   rw [e] at this
   exact this ⟨rfl, .inl ⟨rfl, rfl⟩⟩
  | cons k r =>
   refine new_w fun c H2 h2 hc nc gc => ?_
   rw [ln_eq]
   rw [e] at hk
   refine hk H2 (.at c 0) _ 1 (h1.trans h2) ⟨rfl, .inr ⟨c, _, rfl, rfl, hc, gc, by rw [intsA_len]; exact Nat.le_refl _, ?_⟩⟩
   rw [List.take_of_length_le (by rw [intsA_len]; exact Nat.le_refl _)]
theorem keysOf_img {β : Type} (f : β → AV) : ∀ L : List (Int × β), keysOf (aImg f L) = aKeys L
 | [] => rfl
 | x :: r => by
  show x.1 :: keysOf (aImg f r) = _
  rw [keysOf_img f r]; rfl
noncomputable def allT (L : List (Int × Th)) : List Int := srtI (aKeys L)
theorem allT_len (L : List (Int × Th)) : (allT L).length = L.length := by unfold allT; rw [srtI_len]; simp [aKeys]
def CTAll (cl : Cl) : Prop := ∀ H g L O K, TT H g L O → L.length < 10000 → (∀ H' p c z, Le H H' → Sl H H' p (allT L).length z (thsC ((allT L).map (thOf L))) 11 → K (.s (.slice p (allT L).length c z)) H' = true) → cl i_table_Table_All [.s (.ptr (.at g 0))] H K = true
theorem B_table_Table_All_ {lf : Nat} {cl : Cl} (hks : ∀ H m es K, H.get m = some (.imap es) → H.has m → (∀ k ∈ keysOf es, 0 ≤ k ∧ k ≤ 9223372036854775807) → es.length ≤ 1000000 →
   (∀ H' p c z, Le H H' → IS H' p (srtI (keysOf es)).length z (srtI (keysOf es)) → K (.s (.slice p (srtI (keysOf es)).length c z)) H' = true) → cl i_maps_Keys_int_Thing [.s (.map (some m))] H (fun r h => cl i_slices_Sorted_int [r] h K) = true)
  (hof : COf cl) {H : AH} {g : Pn} {L : List (Int × Th)} {O : Pn → Prop} {K : AV → AH → Bool} (tt : TT H g L O) (hl : L.length < 10000)
  (hk : ∀ H' p c z, Le H H' → Sl H H' p (allT L).length z (thsC ((allT L).map (thOf L))) 11 → K (.s (.slice p (allT L).length c z)) H' = true) : B_table_Table_All lf cl (.at g 0) H K = true := by
 have tt0 := tt
 obtain ⟨m, q, Lq, Oq, tb, rfl⟩ := tt
 unfold B_table_Table_All
 simp only [nilK_at, fN_eq, Nat.add_eq, Nat.add_zero, Nat.zero_add]
 refine rowK_w tb.get (ldM_w rfl ?_)
 have hkb : ∀ k ∈ aKeys L, 0 ≤ k ∧ k ≤ 9223372036854775807 := fun k hk => by
  obtain ⟨m', q', t, _⟩ := tb.tr
  exact t.kb k ((tb.mem k).2 hk)
 refine hks H m (aImg thV L) _ tb.map tb.hasm (by rw [keysOf_img]; exact hkb) (by rw [aImg_length]; omega) fun H1 p1 c1 z1 h1 is1 => ?_
 rw [asSl_]
 rw [keysOf_img] at *
 refine hof H1 g L _ _ p1 c1 z1 _ (tt0.le h1) is1 (by rw [srtI_len]; simp [aKeys]; omega) fun H2 p2 c2 z2 h2 sl2 => ?_
 rw [asSl_]
 exact hk H2 p2 c2 z2 (h1.trans h2) ⟨sl2.len, sl2.rep.imp (fun h => h) fun ⟨g, h1', h2, h3, h4, h5⟩ => ⟨g, h1', h2, h3, h4, fun h => h5 (h1.has _ h)⟩⟩
theorem rowK_wo {H : AH} {a : Pn} {cs : List AS} {K : List AS → Bool} (h : H.get a = some (.fix cs) ∨ H.get a = some (.row cs)) (hk : K cs = true) : rowK H a K = true := h.elim (fun h => rowK_wf h hk) (fun h => rowK_w h hk)
end Go.Proofs
end
section
namespace Go.Proofs
open Go Go.Vw Go.Vw.Ev
set_option linter.unusedVariables false
set_option linter.unusedSimpArgs false
def CSpread (cl : Cl) : Prop := ∀ n H K, (∀ H', Le H H' → K (.s (.int .u32 (sUp n 4))) H' = true) → cl i_morton_spread [.s (.int .u32 n)] H K = true
theorem B_morton_spread_ {lf : Nat} {cl : Cl} (hlf : 10 ≤ lf) {n : Int} {H : AH} {K : AV → AH → Bool} (hk : ∀ H', Le H H' → K (.s (.int .u32 (sUp n 4))) H' = true) : B_morton_spread lf cl n H K = true := by
 unfold B_morton_spread
 refine fL_w ?_
 refine loopX_w (fun x H' => Le H H' ∧ x.2.1 = sC ∧ ∃ i : Nat, x.2.2 = (i : Int) ∧ i ≤ 4 ∧ x.1 = sUp n i) (fun x => 4 - x.2.2.toNat) ⟨Le.refl _, rfl, 0, rfl, by omega, rfl⟩ (by simp; omega) ?_
 rintro self ⟨x1, x2, x3⟩ H1 ⟨hL1, e2, i, e3, hi, e1⟩ ih
 simp only at e1 e2 e3
 subst e1 e2 e3
 simp only [pR_, fB_eq, iLt_dec]
 refine ifA_w (fun hx => ?_) (fun hx => ?_)
 ·have hx : i < 4 := by have h : (i : Int) < 4 := of_decide_eq_true hx; omega
  refine idxK_w (by omega) (by omega) ?_
  simp only [fN_eq, Int.toNat_natCast, Nat.mul_eq]
  have hc : (sC.drop (i * 2)).take 2 = pairC (sF i) (sS i) := lt4 (P := fun i => (sC.drop (i * 2)).take 2 = pairC (sF i) (sS i)) rfl rfl rfl rfl i hx
  have hp : iLe (Int.ofNat 0) (sF i) = true := lt4 (P := fun i => iLe (Int.ofNat 0) (sF i) = true) rfl rfl rfl rfl i hx
  refine ldG_we (by simp [sC, pairC]; omega) (by decide) hc (tmp_w rfl rfl fun g H2 hL2 _ _ g2 => ?_)
  refine rowK_w g2 (ldI_w (n := sF i) rfl (okK_w hp ?_))
  rw [wrapK_eq, wrapK_eq]
  refine rowK_w g2 (ldI_w (n := sS i) rfl ?_)
  rw [wrapK_eq, iAdd_]
  exact w64_w (by simp only [Int.ofNat_eq_natCast]; omega) (by simp only [Int.ofNat_eq_natCast]; omega) (ih _ _ ⟨hL1.trans hL2, rfl, i + 1, by simp, by omega, rfl⟩ (by simp; omega))
 ·have hx : i = 4 := by have h : ¬ (i : Int) < 4 := of_decide_eq_false hx; omega
  subst hx
  exact hk _ hL1
def CWeave (cl : Cl) : Prop := ∀ a b H K, (∀ H', Le H H' → K (.s (.int .u32 (weaveN a b))) H' = true) → cl i_morton_Weave [.s (.int .u16 a), .s (.int .u16 b)] H K = true
theorem B_morton_Weave_ {lf : Nat} {cl : Cl} (hs : CSpread cl) {a b : Int} {H : AH} {K : AV → AH → Bool} (hk : ∀ H', Le H H' → K (.s (.int .u32 (weaveN a b))) H' = true) : B_morton_Weave lf cl a b H K = true := by
 unfold B_morton_Weave
 rw [wrapK_eq]
 refine hs _ _ _ fun H1 h1 => arI_w ?_
 rw [wrapK_eq]
 refine hs _ _ _ fun H2 h2 => arI_w ?_
 rw [wrapK_eq, wrapK_eq]
 exact hk _ (h1.trans h2)
def CAtC (cl : Cl) : Prop := ∀ x y H K, 0 ≤ x → x < 4 → 0 ≤ y → y < 4 → (∀ H', Le H H' → K (.s (.int .i64 (cellAt x y))) H' = true) → cl i_cells_at [.s (.int .i64 x), .s (.int .i64 y)] H K = true
theorem B_cells_at_ {lf : Nat} {cl : Cl} (hw : CWeave cl) {x y : Int} {H : AH} {K : AV → AH → Bool} (h0 : 0 ≤ x) (h1 : x < 4) (h2 : 0 ≤ y) (h3 : y < 4) (hk : ∀ H', Le H H' → K (.s (.int .i64 (cellAt x y))) H' = true) : B_cells_at lf cl x y H K = true := by
 unfold B_cells_at
 rw [wrapK_eq, wrapK_eq]
 refine hw _ _ _ _ fun H1 hL => arI_w ?_
 rw [show IntKind.wrap .u16 x = u16 x from rfl, show IntKind.wrap .u16 y = u16 y from rfl, weave_at x y h0 h1 h2 h3]
 obtain ⟨b0, b1⟩ := cellAt_b h0 h1 h2 h3
 exact w64_w (by omega) (by omega) (hk _ hL)
def ofC (p : Pt) : Int := if On p = true then cellOf p else 0
def ofE (p : Pt) : Int := if On p = true then 0 else 14
def COfC (cl : Cl) : Prop := ∀ p H K, (∀ H', Le H H' → K (.tup [.s (.int .i64 (ofC p)), .s (.int .i64 (ofE p))]) H' = true) → cl i_cells_Of [.agg (ptC p)] H K = true
theorem B_cells_Of_ {lf : Nat} {cl : Cl} (hon : CPtB i_geom_On On cl) (ha : CAtC cl) {p : Pt} {H : AH} {K : AV → AH → Bool} (hk : ∀ H', Le H H' → K (.tup [.s (.int .i64 (ofC p)), .s (.int .i64 (ofE p))]) H' = true) : B_cells_Of lf cl (ptC p) H K = true := by
 unfold B_cells_Of
 refine new_w fun g H1 hL1 h1 n1 g1 => ?_
 refine rowK_w g1 (ldG_we (ys := ptC p) (by simp [ptC]) (by decide) rfl (hon _ _ _ fun H2 h2 => arB_w ?_))
 rw [fB_eq]
 have g2 := (h2.get _ h1).trans g1
 refine ifA_w (fun hc => ?_) (fun hc => ?_)
 ·have hc : On p = false := by simpa using hc
  have := hk H2 (hL1.trans h2)
  unfold ofC ofE at this
  rw [hc] at this
  exact this
 ·have hc : On p = true := by simpa using hc
  have hb : 0 ≤ p.x ∧ p.x < 64 ∧ 0 ≤ p.y ∧ p.y < 64 := by unfold On at hc; simpa only [Bool.and_eq_true, decide_eq_true_eq] using hc
  refine rowK_w g2 (ldI_w (n := p.x) rfl ?_)
  rw [show Int.tdiv p.x (Int.ofNat 16) = p.x / 16 from Int.tdiv_eq_ediv_of_nonneg hb.1]
  refine w64_w (by omega) (by omega) (rowK_w g2 (ldI_w (n := p.y) rfl ?_))
  rw [show Int.tdiv p.y (Int.ofNat 16) = p.y / 16 from Int.tdiv_eq_ediv_of_nonneg hb.2.2.1]
  refine w64_w (by omega) (by omega) (ha _ _ _ _ (by omega) (by omega) (by omega) (by omega) fun H3 h3 => arI_w ?_)
  have := hk H3 (hL1.trans (h2.trans h3))
  unfold ofC ofE at this
  rw [hc] at this
  exact this
end Go.Proofs
end
