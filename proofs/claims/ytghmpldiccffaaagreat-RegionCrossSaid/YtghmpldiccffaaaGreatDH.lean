import Derived.Test.YtghmpldiccffaaaGreatDG
import Derived.Test.YtghmpldiccffaaaGreatBR
section
/- Regions: clones; watchers; a cell handed on. -/
namespace Go.Proofs
open Go Go.Vw Go.Vw.Ev
set_option linter.unusedVariables false
set_option linter.unusedSimpArgs false

/-! Clones. -/
theorem clone_w {sz bytes : Nat} {H : AH} {p : AP} {n z : Nat} {cs : List AS} {K : AV → AH → Bool} (sr : SR sz H p n z cs) (hb : n * bytes ≤ 140737488355328) (hn : n ≤ 1000000)
    (hk : ∀ H' p' c' z', Le H H' → SR sz H' p' n z' cs → CapOk c' n → (∀ a, ownP p' a → ¬ H.has a) → K (.s (.slice p' n c' z')) H' = true) :
    (fB (isNilP p) fun b1 => ifA b1 (K (AV.s (AS.slice AP.nil 0 (.lit 0) 1)) H) (newK H (.row []) fun g2 h3 => elK h3 p n sz fun ys4 => appA h3 (.at g2 0) 0 sz sz bytes ys4 n (.lit 0) fun p6 l6 c6 z6 h5 => K (AV.s (AS.slice p6 l6 c6 z6)) h5)) = true := by
  rw [fB_eq]
  rcases sr.2 with ⟨rfl, rfl⟩ | ⟨b, rfl, rfl, hb', gb⟩
  · have h0 : cs = [] := List.length_eq_zero_iff.1 (by rw [sr.1]; simp)
    subst h0
    exact hk _ _ _ _ (Le.refl H) SR.nil (Nat.le_refl 0) fun a ⟨o, e⟩ => by cases e
  · refine ifA_w (fun h => by cases h) (fun _ => ?_)
    refine new_w fun g H1 h1 hg ng gg => ?_
    refine elK_w (ys := cs) ((h1.get _ hb').trans gb) (by rw [sr.1]; omega) (by rw [List.drop_zero, ← sr.1, List.take_length]) ?_
    rcases Nat.eq_zero_or_pos n with h0 | h0
    · subst h0
      have hc : cs = [] := List.length_eq_zero_iff.1 (by rw [sr.1]; simp)
      subst hc
      rw [appA_eq0]
      unfold appA0
      refine fN_w (okK_w (by rw [Nat.ble_eq_true_of_le (by omega), Nat.ble_eq_true_of_le (by omega)]; rfl) ?_)
      exact hk _ _ _ _ h1 ⟨by simp, .inr ⟨g, rfl, rfl, hg, gg⟩⟩ (Nat.le_refl 0) fun a ⟨o, e⟩ => by cases e; exact ng
    · refine appS_w (sz := z) (⟨by simp, .inr ⟨g, rfl, rfl, hg, gg⟩⟩) sr.1 h0 (by rw [Nat.zero_add]; exact hb) (by omega) fun g' H2 ng' f2 sr2 => ?_
      rw [Nat.zero_add] at sr2 ⊢
      exact hk _ _ _ _ ⟨fun a ha => f2.has a (h1.has a ha), fun a ha => (f2.get a (h1.has a ha) fun ⟨o, e⟩ => ng (by cases e; exact ha)).trans (h1.get a ha)⟩ sr2 trivial fun a ⟨o, e⟩ ha => by cases e; exact ng' (h1.has _ ha)
def CCl (sz f : Nat) (cl : Cl) : Prop := ∀ H p n c z cs K, SR sz H p n z cs → n ≤ 1000000 → (∀ H' p' c' z', Le H H' → SR sz H' p' n z' cs → CapOk c' n → (∀ a, ownP p' a → ¬ H.has a) → K (.s (.slice p' n c' z')) H' = true) → cl f [.s (.slice p n c z)] H K = true
section
variable {lf : Nat} {cl : Cl} {H : AH} {p : AP} {n z : Nat} {c : ACap} {cs : List AS} {K : AV → AH → Bool}
theorem B_slices_Clone_Thing_ (sr : SR 11 H p n z cs) (hn : n ≤ 1000000) (hk : ∀ H' p' c' z', Le H H' → SR 11 H' p' n z' cs → CapOk c' n → (∀ a, ownP p' a → ¬ H.has a) → K (.s (.slice p' n c' z')) H' = true) : B_slices_Clone_Thing lf cl p n c z H K = true := clone_w sr (by omega) hn hk
theorem B_slices_Clone_Hand_ (sr : SR 2 H p n z cs) (hn : n ≤ 1000000) (hk : ∀ H' p' c' z', Le H H' → SR 2 H' p' n z' cs → CapOk c' n → (∀ a, ownP p' a → ¬ H.has a) → K (.s (.slice p' n c' z')) H' = true) : B_slices_Clone_Hand lf cl p n c z H K = true := clone_w sr (by omega) hn hk
theorem B_slices_Clone_Command_ (sr : SR 22 H p n z cs) (hn : n ≤ 1000000) (hk : ∀ H' p' c' z', Le H H' → SR 22 H' p' n z' cs → CapOk c' n → (∀ a, ownP p' a → ¬ H.has a) → K (.s (.slice p' n c' z')) H' = true) : B_slices_Clone_Command lf cl p n c z H K = true := clone_w sr (by omega) hn hk
theorem B_slices_Clone_Note_ (sr : SR 6 H p n z cs) (hn : n ≤ 1000000) (hk : ∀ H' p' c' z', Le H H' → SR 6 H' p' n z' cs → CapOk c' n → (∀ a, ownP p' a → ¬ H.has a) → K (.s (.slice p' n c' z')) H' = true) : B_slices_Clone_Note lf cl p n c z H K = true := clone_w sr (by omega) hn hk
end
theorem BK.le {H H' : AH} {g : Pn} {l : List Wt} (h : BK H g l) (k : Le H H') : BK H' g l := h.fr (k.fr fun _ => False) fun h => h
def CBkAll (cl : Cl) : Prop := ∀ H g l K, BK H g l → (∀ H', Le H H' → K (.agg (wtsC l)) H' = true) → cl i_watch_Book_All [.s (.ptr (.at g 0))] H K = true
theorem B_watch_Book_All_ {lf : Nat} {cl : Cl} {H : AH} {g : Pn} {l : List Wt} {K : AV → AH → Bool} (bk : BK H g l) (hk : ∀ H', Le H H' → K (.agg (wtsC l)) H' = true) : B_watch_Book_All lf cl (.at g 0) H K = true := by
  unfold B_watch_Book_All
  refine new_w fun gn H2 h2 hh2 n2 g2 => ?_
  have hl : (wtsC l).length = 28 := by rw [wtsC, flat_len wtC_len, bk.len]
  simp only [nilK_at, fN_eq, Nat.add_eq, Nat.add_zero]
  refine rowK_w ((h2.get _ bk.has).trans bk.get) (ldG_we (ys := wtsC l) (by rw [hl]; decide) (by decide) (by rw [List.drop_zero, ← hl, List.take_length]) ?_)
  refine stoN_we (ds := wtsC l) g2 hl (by simp) (by simp) (rowK_w (get_put _ _ _) (ldG_we (ys := wtsC l) (by rw [hl]; decide) (by decide) (by rw [List.drop_zero, ← hl, List.take_length]) ?_))
  exact hk _ (h2.put n2 _)
theorem flat_put {α : Type} {f : α → List AS} {sz k m : Nat} (hf : ∀ a, (f a).length = sz) {A B : List α} {w v : α} {i : Nat} {us : List AS} (h : A.length = i) (hkm : k + m ≤ sz) (he : (f w).take k ++ (us ++ (f w).drop (k + m)) = f v) :
    ((A ++ w :: B).flatMap f).take (i * sz + k) ++ (us ++ ((A ++ w :: B).flatMap f).drop (i * sz + k + m)) = (A ++ v :: B).flatMap f := by
  have la : (A.flatMap f).length = i * sz := by rw [flat_len hf, h]
  have e : ∀ X : List α, (A ++ X).flatMap f = A.flatMap f ++ X.flatMap f := fun X => List.flatMap_append
  rw [e, e, List.flatMap_cons, List.flatMap_cons, ← la, List.take_length_add_append, Nat.add_assoc, ← List.drop_drop (i := k + m) (j := (A.flatMap f).length), List.drop_left, List.take_append_of_le_length (by rw [hf]; omega), List.drop_append_of_le_length (by rw [hf]; omega), ← he]
  simp
end Go.Proofs
end
section
/- Regions: what a note must be; a cell handed on. -/
namespace Go.Proofs
open Go Go.Vw Go.Vw.Ev
set_option linter.unusedVariables false
set_option linter.unusedSimpArgs false

/-! Is one of these so? -/
theorem index_w {α : Type} {f : α → List AS} {sz lf : Nat} {cl : Cl} (hf : ∀ a, (f a).length = sz) (hsz : 0 < sz) (hlf : 100000 ≤ lf) {H : AH} {p : AP} {n z : Nat} {c : ACap} {l : List α} {v : AV} {P : α → Bool} {K : AV → AH → Bool} (sr : SR sz H p n z (l.flatMap f)) (hn : n < 10000)
    (hp : ∀ a H' K, Le H H' → (∀ H'', Le H' H'' → K (.s (.bool (P a))) H'' = true) → callV PG cl none v [.agg (f a)] H' K = true)
    (hk : ∀ H' (r : Int), Le H H' → (0 ≤ r ↔ l.any P = true) → K (.s (.int .i64 r)) H' = true) :
    (loopX lf (fun (self3 : ((AP × Nat × ACap × Nat) × AV × Int × Int) → AH → Bool) (x1 : (AP × Nat × ACap × Nat) × AV × Int × Int) (h2 : AH) => pR x1 fun u4 r4 => pR u4 fun p4 r4a => pR r4a fun l4 r4b => pR r4b fun c4 z4 => pR r4 fun v5 r6 => pR r6 fun n7 r8 => fB (iLt r8 n7) fun b10 => ifA b10 (nilK p4 fun g11 o12 => idxK r8 l4 fun m13 => fN (Nat.add o12 (Nat.mul m13 sz)) fun o14 => rowK h2 g11 fun cs15 => ldG cs15 o14 sz fun cs16 => callV PG cl none (v5) [AV.agg cs16] h2 fun r17 h18 => asB r17 fun b19 => ifA b19 (K (AV.s (AS.int .i64 r8)) h18) (w64 (iAdd r8 (Int.ofNat 1)) fun n20 => self3 ((p4, l4, c4, z4), v5, n7, n20) h18)) (K (AV.s (AS.int .i64 (Int.negSucc 0))) h2)) ((p, n, c, z), v, (Int.ofNat n), (Int.ofNat 0)) H) = true := by
  have hl := hds_n hf hsz sr
  refine loopX_w (fun x Hx => Le H Hx ∧ ∃ i : Nat, x = ((p, n, c, z), v, (n : Int), (i : Int)) ∧ i ≤ n ∧ (l.take i).any P = false) (fun x => n - x.2.2.2.toNat) ⟨Le.refl _, 0, rfl, by omega, rfl⟩ (by simp; omega) ?_
  rintro self x Hx ⟨hL, i, rfl, hi, hno⟩ ih
  simp only [pR_, fB_eq, iLt_dec]
  refine ifA_w (fun hx => ?_) (fun hx => ?_)
  · have hx : i < n := by have := of_decide_eq_true hx; omega
    have hxl : i < l.length := by omega
    obtain ⟨b, rfl, hb, gb⟩ := sr.at (by omega)
    simp only [nilK_at, fN_eq, Nat.add_eq, Nat.mul_eq, Nat.zero_add]
    refine idxK_w (by omega) (by omega) ?_
    rw [Int.toNat_natCast]
    have hln := sr.1
    have hbd : i * sz + sz ≤ n * sz := by rw [← Nat.succ_mul]; exact Nat.mul_le_mul_right _ hx
    refine rowK_w ((hL.get _ hb).trans gb) (ldG_we (ys := f (l[i]'hxl)) (by omega) hsz (flat_at hf l i hxl) ?_)
    refine hp _ _ _ hL fun H2 h2 => ?_
    show asB (.s (.bool _)) _ = true
    have tk : (l.take (i + 1)).any P = ((l.take i).any P || P l[i]) := by rw [List.take_succ_eq_append_getElem hxl, List.any_append]; simp
    refine (show ifA (P (l[i]'hxl)) _ _ = true from ifA_w (fun hb' => ?_) (fun hb' => ?_))
    · exact hk _ _ (hL.trans h2) ⟨fun _ => List.any_eq_true.2 ⟨_, List.getElem_mem hxl, hb'⟩, fun _ => by omega⟩
    · rw [iAdd_]
      exact w64_w (by simp only [Int.ofNat_eq_natCast]; omega) (by simp only [Int.ofNat_eq_natCast]; omega) (ih _ _ ⟨hL.trans h2, i + 1, by simp, by omega, by rw [tk, hno, hb']; rfl⟩ (by simp; omega))
  · have hx : i = n := by have := of_decide_eq_false hx; omega
    rw [hx, ← hl, List.take_length] at hno
    exact hk _ _ hL ⟨fun h => absurd h (by decide), fun h => by rw [hno] at h; cases h⟩
/-- A watcher's command that is none. -/
noncomputable def wrongC (c : Cm) : Bool := !IsCm c || !watB c
def CWrong (cl : Cl) : Prop := ∀ c H K, (∀ H', Le H H' → K (.s (.bool (wrongC c))) H' = true) → cl i_note_Is_1 [.agg (cmC c)] H K = true
theorem B_note_Is_1_ {lf : Nat} {cl : Cl} (his : CIsCm cl) (hw : CWat cl) {c : Cm} {H : AH} {K : AV → AH → Bool} (hk : ∀ H', Le H H' → K (.s (.bool (wrongC c))) H' = true) : B_note_Is_1 lf cl (cmC c) H K = true := by
  unfold B_note_Is_1
  refine new_w fun g H1 h1 hg ng gg => ?_
  refine rowK_w gg (ldG_we (ys := cmC c) (lb rfl) (by decide) rfl ?_)
  refine his _ _ _ fun H2 h2 => arB_w ?_
  simp only [fB_eq]
  refine ifA_w (fun hx => ?_) (fun hx => ?_)
  · have := hk _ (h1.trans h2)
    unfold wrongC at this
    rw [hx, Bool.true_or] at this
    exact this
  · refine rowK_w ((h2.get _ hg).trans gg) (ldG_we (ys := cmC c) (lb rfl) (by decide) rfl ?_)
    refine hw _ _ _ fun H3 h3 => arB_w ?_
    have := hk _ ((h1.trans h2).trans h3)
    unfold wrongC at this
    rw [hx, Bool.false_or] at this
    exact this
def CContC (cl : Cl) : Prop := ∀ H p n c z (l : List Cm) K, SR 22 H p n z (l.flatMap cmC) → n < 10000 → (∀ H', Le H H' → K (.s (.bool (l.any wrongC))) H' = true) → cl i_slices_ContainsFunc_Command [.s (.slice p n c z), .s (.func i_note_Is_1 [] [])] H K = true
def CIndexC (cl : Cl) : Prop := ∀ H p n c z (l : List Cm) K, SR 22 H p n z (l.flatMap cmC) → n < 10000 → (∀ H' (r : Int), Le H H' → (0 ≤ r ↔ l.any wrongC = true) → K (.s (.int .i64 r)) H' = true) → cl i_slices_IndexFunc_Command [.s (.slice p n c z), .s (.func i_note_Is_1 [] [])] H K = true
theorem B_slices_IndexFunc_Command_ {lf : Nat} {cl : Cl} (hlf : 100000 ≤ lf) (hc : BoolF i_note_Is_1) (h1 : CWrong cl) {H : AH} {p : AP} {n z : Nat} {c : ACap} {l : List Cm} {K : AV → AH → Bool} (sr : SR 22 H p n z (l.flatMap cmC)) (hn : n < 10000)
    (hk : ∀ H' (r : Int), Le H H' → (0 ≤ r ↔ l.any wrongC = true) → K (.s (.int .i64 r)) H' = true) : B_slices_IndexFunc_Command lf cl p n c z (.s (.func i_note_Is_1 [] [])) H K = true := by
  obtain ⟨t, c1, c2⟩ := hc
  exact index_w cmC_len (by decide) hlf sr hn (fun a H' K hL hk => callV_bool c1 c2 (h1 a H' _ fun H2 h2 => arB_w (hk _ h2))) hk
theorem B_slices_ContainsFunc_Command_ {lf : Nat} {cl : Cl} (hix : CIndexC cl) {H : AH} {p : AP} {n z : Nat} {c : ACap} {l : List Cm} {K : AV → AH → Bool} (sr : SR 22 H p n z (l.flatMap cmC)) (hn : n < 10000)
    (hk : ∀ H', Le H H' → K (.s (.bool (l.any wrongC))) H' = true) : B_slices_ContainsFunc_Command lf cl p n c z (.s (.func i_note_Is_1 [] [])) H K = true := by
  unfold B_slices_ContainsFunc_Command
  refine hix _ _ _ _ _ _ _ sr hn fun H' r hL hr => arI_w ?_
  rw [fB_eq, iLe_dec]
  have e : decide (Int.ofNat 0 ≤ r) = l.any wrongC := by
    rw [Bool.eq_iff_iff, decide_eq_true_eq]
    exact hr
  rw [e]
  exact hk _ hL
/-- The other test whether a cell is handed over. -/
def CHandedN (cl : Cl) : Prop := ∀ h g k H K, H.has g → H.get g = some (.row [.int .i64 k]) → (∀ H', Le H H' → K (.s (.bool (decide (h.1 = k)))) H' = true) → cl i_note_isThings_1 [.agg (hdC h), .s (.ptr (.at g 0))] H K = true
theorem B_note_isThings_1_ {lf : Nat} {cl : Cl} {h : Int × Int} {g : Pn} {k : Int} {H : AH} {K : AV → AH → Bool} (hh : H.has g) (hg : H.get g = some (.row [.int .i64 k])) (hk : ∀ H', Le H H' → K (.s (.bool (decide (h.1 = k)))) H' = true) :
    B_note_isThings_1 lf cl (hdC h) (.at g 0) H K = true := by
  unfold B_note_isThings_1
  refine new_w fun g1 H1 h1 hg1 ng1 gg1 => ?_
  refine rowK_w gg1 (ldI_w (n := h.1) rfl ?_)
  simp only [nilK_at]
  refine rowK_w ((h1.get _ hh).trans hg) (ldI_w (n := k) rfl ?_)
  rw [fB_eq, iEq_dec]
  exact hk _ h1
def isN (v : AV) (P : Int × Int → Bool) (H : AH) : Prop := ∃ g k, v = .s (.func i_note_isThings_1 [] [.ptr (.at g 0)]) ∧ H.has g ∧ H.get g = some (.row [.int .i64 k]) ∧ P = fun h => decide (h.1 = k)
theorem isN_pred {cl : Cl} (hc : BoolF i_note_isThings_1) (h1 : CHandedN cl) {v : AV} {P : Int × Int → Bool} {H : AH} (h : isN v P H) : PredH cl v P H := by
  obtain ⟨g, k, rfl, hh, hg, rfl⟩ := h
  obtain ⟨t, c1, c2⟩ := hc
  intro h H' K hL hk
  refine callV_bool c1 c2 ?_
  exact h1 h g k H' _ (hL.has _ hh) ((hL.get _ hh).trans hg) fun H2 h2 => arB_w (hk _ h2)
/-! Rows of hands, of things. -/
def pvB (prev : Option Int) (x : Int) : Bool := match prev with
  | none => true
  | some p => decide (p < x)
theorem pv_some (p x : Int) : pvB (some p) x = decide (p < x) := rfl
def hdsB (src k : Int) : Option Int → List (Int × Int) → Bool
  | _, [] => true
  | prev, h :: r => isC h.1 && (pvB prev h.1 && (decide (0 ≤ h.2) && (decide (h.2 < k) && (!decide (h.2 = src) && hdsB src k (some h.1) r))))
def CIsHands (cl : Cl) : Prop := ∀ H p n c z hs src k K, SR 2 H p n z (hdsC hs) → n < 10000 → (∀ H', Le H H' → K (.s (.bool (hdsB src k none hs))) H' = true) → cl i_note_isHands [.s (.slice p n c z), .s (.int .i64 src), .s (.int .i64 k)] H K = true
def lastOf {α : Type} (f : α → Int) (l : List α) (i : Nat) : Option Int := if i = 0 then none else (l[i - 1]?).map f
theorem lastOf_succ {α : Type} (f : α → Int) {l : List α} {i : Nat} (h : i < l.length) : lastOf f l (i + 1) = some (f l[i]) := by
  unfold lastOf
  rw [if_neg (by omega)]
  simp [h]
theorem B_note_isHands_ {lf : Nat} {cl : Cl} (hlf : 100000 ≤ lf) (his : CIsC cl) {H : AH} {p : AP} {n z : Nat} {c : ACap} {hs : List (Int × Int)} {src k : Int} {K : AV → AH → Bool} (sr : SR 2 H p n z (hdsC hs)) (hn : n < 10000)
    (hk : ∀ H', Le H H' → K (.s (.bool (hdsB src k none hs))) H' = true) : B_note_isHands lf cl p n c z src k H K = true := by
  unfold B_note_isHands
  have hl := hds_n hdC_len (by decide) sr
  refine loopX_w (fun x Hx => Le H Hx ∧ ∃ i : Nat, x = ((p, n, c, z), src, k, (p, n, c, z), (n : Int), (i : Int)) ∧ i ≤ n ∧ hdsB src k none hs = hdsB src k (lastOf (·.1) hs i) (hs.drop i)) (fun x => n - x.2.2.2.2.2.toNat) ⟨Le.refl _, 0, rfl, by omega, rfl⟩ (by simp; omega) ?_
  rintro self x Hx ⟨hL, i, rfl, hi, hB⟩ ih
  simp only [pR_, fB_eq, iLt_dec, iLe_dec, iEq_dec]
  refine ifA_w (fun hx => ?_) (fun hx => ?_)
  · have hx : i < n := by have := of_decide_eq_true hx; omega
    have hxl : i < hs.length := by omega
    have hsucc := lastOf_succ (fun h : Int × Int => h.1) hxl
    rw [List.drop_eq_getElem_cons hxl, hdsB] at hB
    obtain ⟨b, rfl, hb, gb⟩ := sr.at (by omega)
    have hln := sr.1
    have gbx : ∀ {Hy}, Le H Hy → Hy.get b = some (.row (hdsC hs)) := fun k => (k.get _ hb).trans gb
    simp only [nilK_at, fN_eq, Nat.add_eq, Nat.mul_eq, Nat.zero_add, Nat.add_zero]
    refine idxK_w (by omega) (by omega) ?_
    rw [Int.toNat_natCast]
    refine rowK_w (gbx hL) (ldG_we (ys := hdC hs[i]) (by omega) (by decide) (flat_at hdC_len hs i hxl) ?_)
    refine tmp_w rfl rfl fun g1 H1 h1 hg1 ng1 gg1 => ?_
    refine rowK_w gg1 (ldI_w (n := (hs[i]).1) rfl ?_)
    refine his _ _ _ (arB_w ?_)
    have hL1 := hL.trans h1
    have no : hdsB src k none hs = false → K (.s (.bool false)) H1 = true := fun e => by have := hk _ hL1; rwa [e] at this
    refine ifA_w (fun hc => no (by rw [hB, show isC (hs[i]).1 = false by simpa using hc]; rfl)) (fun hc => ?_)
    have hc : isC (hs[i]).1 = true := by simpa using hc
    rw [hc, Bool.true_and] at hB
    have rest : pvB (lastOf (fun h : Int × Int => h.1) hs i) (hs[i]).1 = true → ∀ hB' : hdsB src k none hs = (decide (0 ≤ (hs[i]).2) && (decide ((hs[i]).2 < k) && (!decide ((hs[i]).2 = src) && hdsB src k (some (hs[i]).1) (hs.drop (i + 1))))),
        rowK H1 g1 (fun cs50 => ldI cs50 1 .i64 fun n51 => ifA (decide (n51 < Int.ofNat 0)) (K (AV.s (AS.bool false)) H1) (rowK H1 g1 fun cs53 => ldI cs53 1 .i64 fun n54 => ifA (decide (k ≤ n54)) (K (AV.s (AS.bool false)) H1) (rowK H1 g1 fun cs56 => ldI cs56 1 .i64 fun n57 => ifA (decide (n57 = src)) (K (AV.s (AS.bool false)) H1) (w64 (iAdd (i : Int) (Int.ofNat 1)) fun n60 => self ((.at b 0, n, c, z), src, k, (.at b 0, n, c, z), (n : Int), n60) H1)))) = true := by
      intro _ hB'
      refine rowK_w gg1 (ldI_w (n := (hs[i]).2) rfl ?_)
      refine ifA_w (fun h2 => no (by rw [hB', decide_eq_false (show ¬ 0 ≤ (hs[i]).2 from Int.not_le.2 (of_decide_eq_true h2))]; rfl)) (fun h2 => ?_)
      refine rowK_w gg1 (ldI_w (n := (hs[i]).2) rfl ?_)
      refine ifA_w (fun h3 => no (by rw [hB', decide_eq_false (show ¬ (hs[i]).2 < k from Int.not_lt.2 (of_decide_eq_true h3)), Bool.false_and, Bool.and_false])) (fun h3 => ?_)
      refine rowK_w gg1 (ldI_w (n := (hs[i]).2) rfl ?_)
      refine ifA_w (fun h4 => no (by rw [hB', h4]; simp)) (fun h4 => ?_)
      rw [iAdd_]
      refine w64_w (by simp only [Int.ofNat_eq_natCast]; omega) (by simp only [Int.ofNat_eq_natCast]; omega) (ih _ _ ⟨hL1, i + 1, by simp, by omega, ?_⟩ (by simp; omega))
      rw [hB', h4, decide_eq_true (show 0 ≤ (hs[i]).2 from Int.not_lt.1 (of_decide_eq_false h2)), decide_eq_true (show (hs[i]).2 < k from Int.not_le.1 (of_decide_eq_false h3)), hsucc]; rfl
    refine ifA_w (fun h0 => ?_) (fun h0 => ?_)
    · have h0 : 0 < i := by have := of_decide_eq_true h0; simp only [Int.ofNat_eq_natCast] at this; omega
      refine rowK_w gg1 (ldI_w (n := (hs[i]).1) rfl ?_)
      rw [iSub_]
      refine w64_w (by simp only [Int.ofNat_eq_natCast]; omega) (by simp only [Int.ofNat_eq_natCast]; omega) ?_
      have ei : (i : Int) - Int.ofNat 1 = ((i - 1 : Nat) : Int) := by simp only [Int.ofNat_eq_natCast]; omega
      rw [ei]
      refine idxK_w (by omega) (by omega) ?_
      rw [Int.toNat_natCast]
      have hx1 : i - 1 < hs.length := by omega
      have elast : lastOf (fun h : Int × Int => h.1) hs i = some (hs[i - 1]).1 := by unfold lastOf; rw [if_neg (by omega)]; simp [hx1]
      refine rowK_w (gbx hL1) (ldI_w (n := (hs[i - 1]).1) (by have := flat_cell (k := 0) hdC_len hx1 (by decide); rw [Nat.add_zero] at this; exact this) ?_)
      rw [elast] at hB
      refine ifA_w (fun h1' => no (by rw [hB, pv_some, decide_eq_false (Int.not_lt.2 (of_decide_eq_true h1'))]; rfl)) (fun h1' => ?_)
      have hp : pvB (lastOf (fun h : Int × Int => h.1) hs i) (hs[i]).1 = true := by rw [elast]; exact decide_eq_true (Int.not_le.1 (of_decide_eq_false h1'))
      refine rest hp ?_
      rw [← elast, hp, Bool.true_and] at hB
      exact hB
    · have h0 : i = 0 := by have := of_decide_eq_false h0; simp only [Int.ofNat_eq_natCast] at this; omega
      have hp : pvB (lastOf (fun h : Int × Int => h.1) hs i) (hs[i]).1 = true := by unfold lastOf; rw [if_pos h0]; rfl
      refine rest hp ?_
      rw [hp, Bool.true_and] at hB
      exact hB
  · have hx : i = n := by have := of_decide_eq_false hx; omega
    rw [hx, ← hl, List.drop_length] at hB
    have := hk _ hL
    rw [hB] at this
    exact this
def thsB (hs : List (Int × Int)) (inn : Bool) : Option Int → List Th → Bool
  | _, [] => true
  | prev, t :: r => IsTh t && (pvB prev t.id && ((handB hs (ofC t.pt) == inn) && thsB hs inn (some t.id) r))
def CIsThings (cl : Cl) : Prop := ∀ H p n c z ts p' n' c' z' hs inn K, SR 11 H p n z (thsC ts) → SR 2 H p' n' z' (hdsC hs) → n < 10000 → n' < 10000 → (∀ H', Le H H' → K (.s (.bool (thsB hs inn none ts && decide (ts.length ≤ 200)))) H' = true) →
  cl i_note_isThings [.s (.slice p n c z), .s (.slice p' n' c' z'), .s (.bool inn)] H K = true
theorem B_note_isThings_ {lf : Nat} {cl : Cl} (hlf : 100000 ≤ lf) (hof : COfC cl) (hct : CContH isN cl) (his : CThIs cl) {H : AH} {p p' : AP} {n z n' z' : Nat} {c c' : ACap} {ts : List Th} {hs : List (Int × Int)} {inn : Bool} {K : AV → AH → Bool} (sr : SR 11 H p n z (thsC ts)) (sh : SR 2 H p' n' z' (hdsC hs)) (hn : n < 10000) (hn' : n' < 10000)
    (hk : ∀ H', Le H H' → K (.s (.bool (thsB hs inn none ts && decide (ts.length ≤ 200)))) H' = true) : B_note_isThings lf cl p n c z p' n' c' z' inn H K = true := by
  unfold B_note_isThings
  have hl := hds_n thC_len' (by decide) sr
  refine loopX_w (fun x Hx => Le H Hx ∧ ∃ i : Nat, x = ((p, n, c, z), (p', n', c', z'), inn, (p, n, c, z), (n : Int), (i : Int)) ∧ i ≤ n ∧ thsB hs inn none ts = thsB hs inn (lastOf (·.id) ts i) (ts.drop i)) (fun x => n - x.2.2.2.2.2.toNat) ⟨Le.refl _, 0, rfl, by omega, rfl⟩ (by simp; omega) ?_
  rintro self x Hx ⟨hL, i, rfl, hi, hB⟩ ih
  simp only [pR_, fB_eq, iLt_dec, iLe_dec]
  refine ifA_w (fun hx => ?_) (fun hx => ?_)
  · have hx : i < n := by have := of_decide_eq_true hx; omega
    have hxl : i < ts.length := by omega
    have hsucc := lastOf_succ (fun t : Th => t.id) hxl
    rw [List.drop_eq_getElem_cons hxl, thsB] at hB
    obtain ⟨b, rfl, hb, gb⟩ := sr.at (by omega)
    have hln := sr.1
    have gbx : ∀ {Hy}, Le H Hy → Hy.get b = some (.row (thsC ts)) := fun k => (k.get _ hb).trans gb
    simp only [nilK_at, fN_eq, Nat.add_eq, Nat.mul_eq, Nat.zero_add, Nat.add_zero]
    refine idxK_w (by omega) (by omega) ?_
    rw [Int.toNat_natCast]
    refine rowK_w (gbx hL) (ldG_we (ys := thC ts[i]) (by omega) (by decide) (flat_at thC_len' ts i hxl) ?_)
    refine tmp_w rfl rfl fun g1 H1 h1 hg1 ng1 gg1 => ?_
    refine rowK_w gg1 (ldG_we (ys := ptC (ts[i]).pt) (lb rfl) (by decide) rfl ?_)
    refine hof _ _ _ fun H2 h2 => ?_
    rw [tup2_]
    refine arI_w (arI_w ?_)
    have hL2 := (hL.trans h1).trans h2
    refine new_w fun g2 H3 h3 hg2 ng2 gg2 => ?_
    refine sto1_w gg2 (by simp) ?_
    have h3' : Le H2 (H3.put g2 (.row [.int .i64 (ofC (ts[i]).pt)])) := h3.put ng2 _
    have gg3 := get_put H3 g2 (.row [.int .i64 (ofC (ts[i]).pt)])
    have hg3 : (H3.put g2 (.row [.int .i64 (ofC (ts[i]).pt)])).has g2 := hg2
    change cl _ _ (H3.put g2 (.row [.int .i64 (ofC (ts[i]).pt)])) _ = true
    generalize H3.put g2 (.row [.int .i64 (ofC (ts[i]).pt)]) = H4 at *
    have hL4 := hL2.trans h3'
    refine hct _ _ _ _ _ _ _ _ _ (sh.le hL4) hn' ⟨g2, ofC (ts[i]).pt, rfl, hg3, gg3, rfl⟩ fun H5 h5 => arB_w ?_
    have hL5 := hL4.trans h5
    have gg1' := ((h2.trans (h3'.trans h5)).get _ hg1).trans gg1
    have hg1' := (h2.trans (h3'.trans h5)).has _ hg1
    refine rowK_w gg1' (ldG_we (ys := thC ts[i]) (lb rfl) (by decide) rfl ?_)
    refine his _ _ _ fun H6 h6 => arB_w ?_
    have hL6 := hL5.trans h6
    have gg6 := (h6.get _ hg1').trans gg1'
    have no : thsB hs inn none ts = false → K (.s (.bool false)) H6 = true := fun e => by have := hk _ hL6; rw [e, Bool.false_and] at this; exact this
    refine ifA_w (fun hc => no (by rw [hB, show IsTh ts[i] = false by simpa using hc]; rfl)) (fun hc => ?_)
    have hc : IsTh ts[i] = true := by simpa using hc
    rw [hc, Bool.true_and] at hB
    change thsB hs inn none ts = (pvB (lastOf (fun t : Th => t.id) ts i) (ts[i]).id && ((handB hs (ofC (ts[i]).pt) == inn) && thsB hs inn (some (ts[i]).id) (ts.drop (i + 1)))) at hB
    change ifA _ (rowK H6 g1 fun cs43 => ldI cs43 0 .i64 fun n44 => w64 (iSub (i : Int) (Int.ofNat 1)) fun n45 => idxK n45 n fun m48 => rowK H6 b fun cs51 => ldI cs51 (m48 * 11) .i64 fun n52 => ifA (decide (n44 ≤ n52)) (K (AV.s (AS.bool false)) H6) (ifA (!bEq (handB hs (ofC (ts[i]).pt)) inn) (K (AV.s (AS.bool false)) H6) (w64 (iAdd (i : Int) (Int.ofNat 1)) fun n56 => self ((.at b 0, n, c, z), (p', n', c', z'), inn, (.at b 0, n, c, z), (n : Int), n56) H6))) (ifA (!bEq (handB hs (ofC (ts[i]).pt)) inn) (K (AV.s (AS.bool false)) H6) (w64 (iAdd (i : Int) (Int.ofNat 1)) fun n57 => self ((.at b 0, n, c, z), (p', n', c', z'), inn, (.at b 0, n, c, z), (n : Int), n57) H6)) = true
    have ebe : bEq (handB hs (ofC (ts[i]).pt)) inn = (handB hs (ofC (ts[i]).pt) == inn) := by cases handB hs (ofC (ts[i]).pt) <;> cases inn <;> rfl
    rw [ebe]
    have rest : pvB (lastOf (fun t : Th => t.id) ts i) (ts[i]).id = true → (ifA (!(handB hs (ofC (ts[i]).pt) == inn)) (K (AV.s (AS.bool false)) H6) (w64 (iAdd (i : Int) (Int.ofNat 1)) fun n56 => self ((.at b 0, n, c, z), (p', n', c', z'), inn, (.at b 0, n, c, z), (n : Int), n56) H6)) = true := by
      intro hp
      rw [hp, Bool.true_and] at hB
      refine ifA_w (fun h2 => no (by rw [hB, show (handB hs (ofC (ts[i]).pt) == inn) = false by simpa using h2]; rfl)) (fun h2 => ?_)
      have h2 : (handB hs (ofC (ts[i]).pt) == inn) = true := by
        cases e : (handB hs (ofC (ts[i]).pt) == inn) with
        | true => rfl
        | false => rw [e] at h2; cases h2
      rw [iAdd_]
      refine w64_w (by simp only [Int.ofNat_eq_natCast]; omega) (by simp only [Int.ofNat_eq_natCast]; omega) (ih _ _ ⟨hL6, i + 1, by simp, by omega, ?_⟩ (by simp; omega))
      rw [hB, h2, hsucc]; rfl
    refine ifA_w (fun h0 => ?_) (fun h0 => ?_)
    · have h0 : 0 < i := by have := of_decide_eq_true h0; simp only [Int.ofNat_eq_natCast] at this; omega
      refine rowK_w gg6 (ldI_w (n := (ts[i]).id) rfl ?_)
      rw [iSub_]
      refine w64_w (by simp only [Int.ofNat_eq_natCast]; omega) (by simp only [Int.ofNat_eq_natCast]; omega) ?_
      have ei : (i : Int) - Int.ofNat 1 = ((i - 1 : Nat) : Int) := by simp only [Int.ofNat_eq_natCast]; omega
      rw [ei]
      refine idxK_w (by omega) (by omega) ?_
      rw [Int.toNat_natCast]
      have hx1 : i - 1 < ts.length := by omega
      have elast : lastOf (fun t : Th => t.id) ts i = some (ts[i - 1]).id := by unfold lastOf; rw [if_neg (by omega)]; simp [hx1]
      refine rowK_w (gbx hL6) (ldI_w (n := (ts[i - 1]).id) (by have := flat_cell (k := 0) thC_len' hx1 (by decide); rw [Nat.add_zero] at this; exact this) ?_)
      refine ifA_w (fun h1' => no (by rw [hB, elast, pv_some, decide_eq_false (Int.not_lt.2 (of_decide_eq_true h1'))]; rfl)) (fun h1' => ?_)
      exact rest (by rw [elast]; exact decide_eq_true (Int.not_le.1 (of_decide_eq_false h1')))
    · have h0 : i = 0 := by have := of_decide_eq_false h0; simp only [Int.ofNat_eq_natCast] at this; omega
      exact rest (by unfold lastOf; rw [if_pos h0]; rfl)
  · have hx : i = n := by have := of_decide_eq_false hx; omega
    rw [hx, ← hl, List.drop_length] at hB
    have := hk _ hL
    rw [hB, hl] at this
    change K _ _ = true at this
    have e : decide (Int.ofNat n ≤ Int.ofNat 200) = decide (n ≤ 200) := by congr 1; simp only [Int.ofNat_eq_natCast]; exact propext (by omega)
    rw [e]
    exact this
end Go.Proofs
end
section
/- Regions: notes, in the order of servers; those that are heard. -/
namespace Go.Proofs
open Go Go.Vw Go.Vw.Ev
set_option linter.unusedVariables false
set_option linter.unusedSimpArgs false

/-! Notes as they stand in a row. -/
structure Rw where
  src : Int
  beat : Int
  m : AS
  h : AS
  g : AS
  w : AS
def rwC (r : Rw) : List AS := [.int .i64 r.src, .int .i64 r.beat, r.m, r.h, r.g, r.w]
theorem rwC_len (r : Rw) : (rwC r).length = 6 := rfl
structure NOf (H : AH) (r : Rw) (nt : Nt) : Prop where
  src : r.src = nt.src
  beat : r.beat = nt.beat
  m : SF 11 thC H r.m nt.moved
  h : SF 2 hdC H r.h nt.hands
  g : SF 11 thC H r.g nt.given
  w : SF 22 cmC H r.w nt.watch
def ownW (r : Rw) (a : Pn) : Prop := ownA r.m a ∨ ownA r.h a ∨ ownA r.g a ∨ ownA r.w a
theorem NOf.fr {F : Pn → Prop} {H H' : AH} {r : Rw} {nt : Nt} (n : NOf H r nt) (k : Fr F H H') (hf : ∀ a, ownW r a → ¬ F a) : NOf H' r nt :=
  ⟨n.src, n.beat, n.m.fr k fun a h => hf a (.inl h), n.h.fr k fun a h => hf a (.inr (.inl h)), n.g.fr k fun a h => hf a (.inr (.inr (.inl h))), n.w.fr k fun a h => hf a (.inr (.inr (.inr h)))⟩
theorem NOf.le {H H' : AH} {r : Rw} {nt : Nt} (n : NOf H r nt) (k : Le H H') : NOf H' r nt := n.fr (k.fr fun _ => False) fun _ _ h => h
theorem NOf.has {H : AH} {r : Rw} {nt : Nt} (n : NOf H r nt) (a : Pn) (h : ownW r a) : H.has a := by
  rcases h with h | h | h | h
  · exact n.m.has a h
  · exact n.h.has a h
  · exact n.g.has a h
  · exact n.w.has a h
/-! The order of servers. -/
def keyS (n : Int) : Int := min (max n (-1)) 4
def CCmpN (cl : Cl) : Prop := ∀ a b H K, (∀ H', Le H H' → K (.s (.int .i64 (keyS a.src - keyS b.src))) H' = true) → cl i_region_Region_heard_1 [.agg (rwC a), .agg (rwC b)] H K = true
theorem B_region_Region_heard_1_ {lf : Nat} {cl : Cl} {a b : Rw} {H : AH} {K : AV → AH → Bool} (hk : ∀ H', Le H H' → K (.s (.int .i64 (keyS a.src - keyS b.src))) H' = true) : B_region_Region_heard_1 lf cl (rwC a) (rwC b) H K = true := by
  unfold B_region_Region_heard_1
  refine new_w fun g1 H1 h1 hg1 ng1 gg1 => ?_
  refine new_w fun g2 H2 h2 hg2 ng2 gg2 => ?_
  refine rowK_w ((h2.get _ hg1).trans gg1) (ldI_w (n := a.src) rfl ?_)
  simp only [mxA_, mnA_, fI_eq, iSub_]
  refine rowK_w gg2 (ldI_w (n := b.src) rfl ?_)
  show w64 (keyS a.src - keyS b.src) _ = true
  refine w64_w (by unfold keyS; omega) (by unfold keyS; omega) ?_
  exact hk _ (h1.trans h2)
def IntF (f : Nat) : Prop := ∃ t, callable PG f = some [t] ∧ PG.underlying t = some (.int .i64)
theorem callV_int {f : Nat} {first cap : List AS} {cl : Cl} {args : List AV} {H : AH} {K : AV → AH → Bool} (hc : IntF f)
    (h : cl f (first.map .s ++ (args ++ cap.map .s)) H (fun r H => arI r .i64 fun n => K (.s (.int .i64 n)) H) = true) : callV PG cl none (.s (.func f first cap)) args H K = true := by
  obtain ⟨t, c1, c2⟩ := hc
  unfold callV
  dsimp only
  rw [c1, ap_eq, ap_eq]
  dsimp only
  simp only [shA, tyA, c2]
  exact h
/-- One put into its place, from the right; rows the other way round. -/
def insRv (x : Rw) : List Rw → List Rw
  | [] => [x]
  | y :: r => if keyS x.src < keyS y.src then y :: insRv x r else x :: y :: r
def srtRv : List Rw → List Rw → List Rw
  | acc, [] => acc
  | acc, x :: r => srtRv (insRv x acc) r
def srtN (l : List Rw) : List Rw := (srtRv [] l).reverse
def CInsN (cl : Cl) : Prop := ∀ H b n c l K, l.length = n → 0 < n → n < 1000 → H.has b → H.get b = some (.row (l.flatMap rwC)) → (∀ H', Fr (fun a => a = b) H H' → H'.get b = some (.row ((srtN l).flatMap rwC)) → K (.tup []) H' = true) →
  cl i_slices_insertionSortCmpFunc_Note [.s (.slice (.at b 0) n c 6), .s (.int .i64 (Int.ofNat 0)), .s (.int .i64 (Int.ofNat n)), .s (.func i_region_Region_heard_1 [] [])] H K = true
theorem insRv_len (x : Rw) : ∀ l : List Rw, (insRv x l).length = l.length + 1
  | [] => rfl
  | y :: r => by unfold insRv; split <;> simp [insRv_len x r]
theorem srtRv_len : ∀ (l acc : List Rw), (srtRv acc l).length = acc.length + l.length
  | [], acc => by simp [srtRv]
  | x :: r, acc => by rw [srtRv, srtRv_len r, insRv_len, List.length_cons]; omega
theorem srtN_len (l : List Rw) : (srtN l).length = l.length := by unfold srtN; rw [List.length_reverse, srtRv_len]; simp
theorem B_slices_insertionSortCmpFunc_Note_ {lf : Nat} {cl : Cl} (hlf : 100000 ≤ lf) (hif : IntF i_region_Region_heard_1) (hcmp : CCmpN cl) {H : AH} {b : Pn} {n : Nat} {c : ACap} {l : List Rw} {K : AV → AH → Bool} (hl : l.length = n) (hpos : 0 < n) (hn : n < 1000) (hb : H.has b) (gb : H.get b = some (.row (l.flatMap rwC)))
    (hk : ∀ H', Fr (fun a => a = b) H H' → H'.get b = some (.row ((srtN l).flatMap rwC)) → K (.tup []) H' = true) :
    B_slices_insertionSortCmpFunc_Note lf cl (.at b 0) n c 6 (Int.ofNat 0) (Int.ofNat n) (.s (.func i_region_Region_heard_1 [] [])) H K = true := by
  unfold B_slices_insertionSortCmpFunc_Note
  rw [iAdd_]
  refine w64_w (by decide) (by decide) ?_
  refine loopX_w (fun x Hx => ∃ (i : Nat) (P : List Rw), x = ((.at b 0, n, c, 6), Int.ofNat 0, (n : Int), .s (.func i_region_Region_heard_1 [] []), (i : Int)) ∧ 1 ≤ i ∧ i ≤ n ∧ Fr (fun a => a = b) H Hx ∧ P.length = i ∧ Hx.get b = some (.row ((P.reverse ++ l.drop i).flatMap rwC)) ∧ srtRv [] l = srtRv P (l.drop i)) (fun x => n - x.2.2.2.2.toNat)
    ⟨1, (l.take 1), rfl, by omega, by omega, Fr.refl _ _, by simp; omega, ?_, ?_⟩ (by simp; omega) ?_
  · cases l with
    | nil => simp at hl; omega
    | cons x r => exact gb
  · cases l with
    | nil => simp at hl; omega
    | cons x r => rfl
  rintro self x Hx ⟨i, P, rfl, h1, hi, fx, hP, gx, hS⟩ ih
  simp only [pR_, fB_eq, iLt_dec]
  refine ifA_w (fun hx => ?_) (fun hx => ?_)
  · have hx : i < n := by have := of_decide_eq_true hx; omega
    have hxl : i < l.length := by omega
    have ed := List.drop_eq_getElem_cons hxl
    rw [ed] at gx hS
    rw [srtRv] at hS
    generalize l[i] = e at *
    -- the inner loop
    refine loopX_w (fun y Hy => ∃ (j : Nat) (A B : List Rw), y = ((.at b 0, n, c, 6), Int.ofNat 0, (n : Int), .s (.func i_region_Region_heard_1 [] []), (i : Int), (j : Int)) ∧ A.length = j ∧ A.length + B.length = i ∧ Fr (fun a => a = b) H Hy ∧ Hy.get b = some (.row ((A ++ e :: (B ++ l.drop (i + 1))).flatMap rwC)) ∧ insRv e P = B.reverse ++ insRv e A.reverse) (fun y => y.2.2.2.2.2.toNat)
      ⟨i, P.reverse, [], rfl, by simp [hP], by simp [hP], fx, by simpa using gx, by simp⟩ (by simp; omega) ?_
    rintro self2 y Hy ⟨j, A, B, rfl, hA, hAB, fy, gy, hI⟩ ih2
    simp only [pR_, fB_eq, iLt_dec]
    have bk : H.has b → Hy.has b := fy.has b
    have stop : ∀ {Hz : AH}, Fr (fun a => a = b) H Hz → Hz.get b = some (.row ((A ++ e :: (B ++ l.drop (i + 1))).flatMap rwC)) → insRv e A.reverse = e :: A.reverse →
        w64 (iAdd (i : Int) (Int.ofNat 1)) (fun n70 => self ((.at b 0, n, c, 6), Int.ofNat 0, (n : Int), .s (.func i_region_Region_heard_1 [] []), n70) Hz) = true := by
      intro Hz fz gz he
      rw [iAdd_]
      refine w64_w (by simp only [Int.ofNat_eq_natCast]; omega) (by simp only [Int.ofNat_eq_natCast]; omega) (ih _ _ ⟨i + 1, insRv e P, by simp, by omega, by omega, fz, by rw [insRv_len, hP], ?_, hS⟩ (by simp; omega))
      rw [hI, he, gz]
      simp
    refine ifA_w (fun hx2 => ?_) (fun hx2 => ?_)
    · have hj : 0 < j := by have := of_decide_eq_true hx2; simp only [Int.ofNat_eq_natCast] at this; omega
      obtain ⟨A', y', rfl⟩ : ∃ A' y', A = A' ++ [y'] := by
        have hne : A ≠ [] := fun h => by rw [h] at hA; simp at hA; omega
        exact ⟨A.dropLast, A.getLast hne, (List.dropLast_concat_getLast hne).symm⟩
      have hA' : A'.length = j - 1 := by simp at hA; omega
      have hlen : ((A' ++ [y'] ++ e :: (B ++ l.drop (i + 1))).flatMap rwC).length = n * 6 := by
        rw [flat_len rwC_len]
        simp only [List.length_append, List.length_cons, List.length_drop, List.length_nil] at *
        congr 1
        omega
      have at0 : (((A' ++ [y'] ++ e :: (B ++ l.drop (i + 1))).flatMap rwC).drop (j * 6)).take 6 = rwC e := by
        have hj' : j < (A' ++ [y'] ++ e :: (B ++ l.drop (i + 1))).length := by simp at hA ⊢; omega
        rw [flat_at rwC_len _ j hj', List.getElem_append_right (by omega)]
        simp [hA]
      have at1 : (((A' ++ [y'] ++ e :: (B ++ l.drop (i + 1))).flatMap rwC).drop ((j - 1) * 6)).take 6 = rwC y' := by
        have hj' : j - 1 < (A' ++ [y'] ++ e :: (B ++ l.drop (i + 1))).length := by simp at hA ⊢; omega
        rw [flat_at rwC_len _ (j - 1) hj', List.getElem_append_left (by omega), List.getElem_append_right (by omega)]
        simp [hA']
      simp only [nilK_at, fN_eq, Nat.add_eq, Nat.mul_eq, Nat.zero_add, iSub_]
      refine idxK_w (by omega) (by omega) ?_
      rw [Int.toNat_natCast]
      refine rowK_w gy (ldG_we (ys := rwC e) (by omega) (by decide) at0 ?_)
      have ej : (j : Int) - Int.ofNat 1 = ((j - 1 : Nat) : Int) := by simp only [Int.ofNat_eq_natCast]; omega
      rw [ej]
      refine w64_w (by omega) (by omega) ?_
      refine idxK_w (by omega) (by omega) ?_
      rw [Int.toNat_natCast]
      refine rowK_w gy (ldG_we (ys := rwC y') (by omega) (by decide) at1 ?_)
      refine callV_int hif (hcmp e y' _ _ fun H2 h2 => arI_w ?_)
      show fB (iLt (keyS e.src - keyS y'.src) (Int.ofNat 0)) _ = true
      rw [fB_eq, iLt_dec]
      have gy2 := (h2.get _ (bk hb)).trans gy
      have f2 : Fr (fun a => a = b) H H2 := fy.trans (h2.fr _) fun _ h => .inl h
      show ifA _ _ _ = true
      refine ifA_w (fun hlt => ?_) (fun hlt => ?_)
      · have hlt : keyS e.src < keyS y'.src := by have := of_decide_eq_true hlt; simp only [Int.ofNat_eq_natCast] at this; omega
        refine w64_w (by omega) (by omega) (w64_w (by omega) (by omega) ?_)
        refine idxK_w (by omega) (by omega) ?_
        rw [Int.toNat_natCast]
        refine rowK_w gy2 (ldG_we (ys := rwC y') (by omega) (by decide) at1 ?_)
        refine idxK_w (by omega) (by omega) ?_
        rw [Int.toNat_natCast]
        refine rowK_w gy2 (ldG_we (ys := rwC e) (by omega) (by decide) at0 ?_)
        refine idxK_w (by omega) (by omega) ?_
        rw [Int.toNat_natCast]
        have p1 := flat_put (f := rwC) (k := 0) (m := 6) rwC_len (A := A' ++ [y']) (B := B ++ l.drop (i + 1)) (w := e) (v := y') (us := rwC y') hA (by decide) (by simp [rwC])
        refine stoN_we (ds := (A' ++ [y'] ++ y' :: (B ++ l.drop (i + 1))).flatMap rwC) gy2 rfl (by omega) p1 ?_
        refine idxK_w (by omega) (by omega) ?_
        rw [Int.toNat_natCast]
        have e2 : A' ++ [y'] ++ y' :: (B ++ l.drop (i + 1)) = A' ++ y' :: (y' :: (B ++ l.drop (i + 1))) := by simp
        have p2 := flat_put (f := rwC) (k := 0) (m := 6) rwC_len (A := A') (B := y' :: (B ++ l.drop (i + 1))) (w := y') (v := e) (us := rwC e) hA' (by decide) (by simp [rwC])
        rw [← e2] at p2
        refine stoN_we (ds := (A' ++ e :: (y' :: (B ++ l.drop (i + 1)))).flatMap rwC) (get_put _ _ _) rfl ?_ p2 ?_
        · rw [flat_len rwC_len]
          simp only [List.length_append, List.length_cons, List.length_nil] at *
          omega
        refine w64_w (by omega) (by omega) (ih2 _ _ ⟨j - 1, A', y' :: B, rfl, hA', by simp at hAB ⊢; omega, (f2.put (.inl rfl) _).put (.inl rfl) _, by rw [get_put]; simp, ?_⟩ (by simp; omega))
        rw [hI, List.reverse_append, List.reverse_singleton, List.singleton_append, insRv, if_pos hlt]
        simp
      · have hlt : ¬ keyS e.src < keyS y'.src := by have := of_decide_eq_false hlt; simp only [Int.ofNat_eq_natCast] at this; omega
        refine stop f2 gy2 ?_
        rw [List.reverse_append, List.reverse_singleton, List.singleton_append, insRv, if_neg hlt]
    · have hj : j = 0 := by have := of_decide_eq_false hx2; simp only [Int.ofNat_eq_natCast] at this; omega
      have hA0 : A = [] := List.length_eq_zero_iff.1 (by omega)
      exact stop fy gy (by rw [hA0]; rfl)
  · have hx : i = n := by have := of_decide_eq_false hx; omega
    rw [hx, ← hl, List.drop_length] at gx hS
    refine hk Hx fx ?_
    unfold srtN
    rw [hS, srtRv, gx, List.append_nil]
def CSrtN (cl : Cl) : Prop := ∀ H b n c l K, l.length = n → 0 < n → n < 20 → H.has b → H.get b = some (.row (l.flatMap rwC)) → (∀ H', Fr (fun a => a = b) H H' → H'.get b = some (.row ((srtN l).flatMap rwC)) → K (.tup []) H' = true) →
  cl i_slices_SortStableFunc_Note [.s (.slice (.at b 0) n c 6), .s (.func i_region_Region_heard_1 [] [])] H K = true
def CStbN (cl : Cl) : Prop := ∀ H b n c l K, l.length = n → 0 < n → n < 20 → H.has b → H.get b = some (.row (l.flatMap rwC)) → (∀ H', Fr (fun a => a = b) H H' → H'.get b = some (.row ((srtN l).flatMap rwC)) → K (.tup []) H' = true) →
  cl i_slices_stableCmpFunc_Note [.s (.slice (.at b 0) n c 6), .s (.int .i64 (Int.ofNat n)), .s (.func i_region_Region_heard_1 [] [])] H K = true
theorem B_slices_stableCmpFunc_Note_ {lf : Nat} {cl : Cl} (hlf : 100000 ≤ lf) (hins : CInsN cl) {H : AH} {b : Pn} {n : Nat} {c : ACap} {l : List Rw} {K : AV → AH → Bool} (hl : l.length = n) (hpos : 0 < n) (hn : n < 20) (hb : H.has b) (gb : H.get b = some (.row (l.flatMap rwC)))
    (hk : ∀ H', Fr (fun a => a = b) H H' → H'.get b = some (.row ((srtN l).flatMap rwC)) → K (.tup []) H' = true) :
    B_slices_stableCmpFunc_Note lf cl (.at b 0) n c 6 (Int.ofNat n) (.s (.func i_region_Region_heard_1 [] [])) H K = true := by
  unfold B_slices_stableCmpFunc_Note
  refine loopX_w (fun x Hx => Hx = H ∧ x = ((.at b 0, n, c, 6), Int.ofNat n, .s (.func i_region_Region_heard_1 [] []), Int.ofNat 20, Int.ofNat 0, Int.ofNat 20)) (fun _ => 0) ⟨rfl, rfl⟩ (by omega) ?_
  rintro self x Hx ⟨rfl, rfl⟩ _
  simp only [pR_, fB_eq, iLe_dec, iLt_dec]
  refine ifA_w (fun h => absurd (of_decide_eq_true h) (by simp only [Int.ofNat_eq_natCast]; omega)) (fun _ => ?_)
  refine hins _ _ _ _ _ _ hl hpos (by omega) hb gb fun H1 f1 g1 => ?_
  rw [tup0_]
  refine loopX_w (fun x Hx => Hx = H1 ∧ x = ((.at b 0, n, c, 6), Int.ofNat n, .s (.func i_region_Region_heard_1 [] []), Int.ofNat 20)) (fun _ => 0) ⟨rfl, rfl⟩ (by omega) ?_
  rintro self2 x Hy ⟨rfl, rfl⟩ _
  simp only [pR_]
  refine ifA_w (fun h => absurd (of_decide_eq_true h) (by simp only [Int.ofNat_eq_natCast]; omega)) (fun _ => hk _ f1 g1)
theorem B_slices_SortStableFunc_Note_ {lf : Nat} {cl : Cl} (hst : CStbN cl) {H : AH} {b : Pn} {n : Nat} {c : ACap} {l : List Rw} {K : AV → AH → Bool} (hl : l.length = n) (hpos : 0 < n) (hn : n < 20) (hb : H.has b) (gb : H.get b = some (.row (l.flatMap rwC)))
    (hk : ∀ H', Fr (fun a => a = b) H H' → H'.get b = some (.row ((srtN l).flatMap rwC)) → K (.tup []) H' = true) :
    B_slices_SortStableFunc_Note lf cl (.at b 0) n c 6 (.s (.func i_region_Region_heard_1 [] [])) H K = true := by
  unfold B_slices_SortStableFunc_Note
  exact hst _ _ _ _ _ _ hl hpos hn hb gb fun H1 f1 g1 => by rw [tup0_]; exact hk _ f1 g1
end Go.Proofs
end
section
/- Regions: what a note must be; what is heard; a note's copy; what comes. -/
namespace Go.Proofs
open Go Go.Vw Go.Vw.Ev
set_option linter.unusedVariables false
set_option linter.unusedSimpArgs false

theorem SF.plain {α : Type} {sz : Nat} {fc : α → List AS} {H : AH} {x : AS} {l : List α} (h : SF sz fc H x l) : plain x = true := by
  obtain ⟨p, c, z, rfl, _, sr⟩ := h
  rcases sr.2 with ⟨_, rfl⟩ | ⟨b, rfl, _⟩ <;> rfl
theorem NOf.plain {H : AH} {r : Rw} {nt : Nt} (n : NOf H r nt) : (rwC r).all Go.Vw.Ev.plain = true := by
  simp only [rwC, List.all_cons, List.all_nil, n.m.plain, n.h.plain, n.g.plain, n.w.plain]
  rfl
/-- Lists that are not too long. -/
structure SmN (nt : Nt) : Prop where
  m : nt.moved.length < 1000
  h : nt.hands.length < 1000
  g : nt.given.length < 1000
  w : nt.watch.length < 1000
noncomputable def noteB (nt : Nt) (k : Int) : Bool :=
  !decide (nt.src < 0) && (!decide (min k 4 ≤ nt.src) && (!decide (nt.beat < 0) && (!decide (1073741824 < nt.beat) && (!decide (20 < nt.watch.length) &&
    (hdsB nt.src (min k 4) none nt.hands && ((thsB nt.hands false none nt.moved && decide (nt.moved.length ≤ 200)) && ((thsB nt.hands true none nt.given && decide (nt.given.length ≤ 200)) && !nt.watch.any wrongC)))))))
def CIsNote (cl : Cl) : Prop := ∀ H r nt k K, NOf H r nt → SmN nt → (∀ H', Le H H' → K (.s (.bool (noteB nt k))) H' = true) → cl i_note_Is [.agg (rwC r), .s (.int .i64 k)] H K = true
theorem B_note_Is_ {lf : Nat} {cl : Cl} (hh : CIsHands cl) (ht : CIsThings cl) (hc : CContC cl) {H : AH} {r : Rw} {nt : Nt} {k : Int} {K : AV → AH → Bool} (no : NOf H r nt) (sm : SmN nt) (hk : ∀ H', Le H H' → K (.s (.bool (noteB nt k))) H' = true) : B_note_Is lf cl (rwC r) k H K = true := by
  unfold B_note_Is
  refine new_w fun g H1 h1 hg ng gg => ?_
  have no1 := no.le h1
  obtain ⟨pm, cm, zm, em, hcm, srm⟩ := no1.m
  obtain ⟨ph, ch, zh, eh, hch, srh⟩ := no1.h
  obtain ⟨pg, cg, zg, eg, hcg, srg⟩ := no1.g
  obtain ⟨pw, cw, zw, ew, hcw, srw⟩ := no1.w
  have gx : ∀ {Hy}, Le H1 Hy → Hy.get g = some (.row (rwC r)) := fun k => (k.get _ hg).trans gg
  have c0 : (rwC r)[0]? = some (.int .i64 nt.src) := by show some (AS.int .i64 r.src) = _; rw [no.src]
  have c1 : (rwC r)[1]? = some (.int .i64 nt.beat) := by show some (AS.int .i64 r.beat) = _; rw [no.beat]
  have c2 : (rwC r)[2]? = some (.slice pm nt.moved.length cm zm) := by show some r.m = _; rw [em]
  have c3 : (rwC r)[3]? = some (.slice ph nt.hands.length ch zh) := by show some r.h = _; rw [eh]
  have c4 : (rwC r)[4]? = some (.slice pg nt.given.length cg zg) := by show some r.g = _; rw [eg]
  have c5 : (rwC r)[5]? = some (.slice pw nt.watch.length cw zw) := by show some r.w = _; rw [ew]
  have fin : ∀ {H'} {b : Bool}, Le H1 H' → noteB nt k = b → K (.s (.bool b)) H' = true := fun hl e => by have := hk _ (h1.trans hl); rwa [e] at this
  have L0 := Le.refl H1
  simp only [mnA_, fI_eq, fB_eq, iLt_dec, iLe_dec, Int.ofNat_eq_natCast]
  unfold noteB at fin
  refine rowK_w gg (ldI_w c0 ?_)
  refine ifA_w (fun hx => fin L0 (by rw [show decide (nt.src < 0) = true from hx]; rfl)) (fun a1 => ?_)
  rw [show decide (nt.src < 0) = false from a1, Bool.not_false, Bool.true_and] at fin
  refine rowK_w gg (ldI_w c0 ?_)
  refine ifA_w (fun hx => fin L0 (by rw [show decide (min k 4 ≤ nt.src) = true from hx]; rfl)) (fun a2 => ?_)
  rw [show decide (min k 4 ≤ nt.src) = false from a2, Bool.not_false, Bool.true_and] at fin
  refine rowK_w gg (ldI_w c1 ?_)
  refine ifA_w (fun hx => fin L0 (by rw [show decide (nt.beat < 0) = true from hx]; rfl)) (fun a3 => ?_)
  rw [show decide (nt.beat < 0) = false from a3, Bool.not_false, Bool.true_and] at fin
  refine rowK_w gg (ldI_w c1 ?_)
  refine ifA_w (fun hx => fin L0 (by rw [show decide (1073741824 < nt.beat) = true from hx]; rfl)) (fun a4 => ?_)
  rw [show decide (1073741824 < nt.beat) = false from a4, Bool.not_false, Bool.true_and] at fin
  refine rowK_w gg (ldSl_w c5 ?_)
  have ew20 : decide (((20 : Nat) : Int) < (nt.watch.length : Int)) = decide (20 < nt.watch.length) := by congr 1; exact propext (by omega)
  rw [ew20]
  refine ifA_w (fun hx => fin L0 (by rw [hx]; rfl)) (fun a5 => ?_)
  rw [a5, Bool.not_false, Bool.true_and] at fin
  have hw := sm.w
  have hm := sm.m
  have hhl := sm.h
  have hgl := sm.g
  refine rowK_w gg (ldSl_w c3 (rowK_w gg (ldI_w c0 ?_)))
  refine hh _ _ _ _ _ _ _ _ _ srh (by omega) fun H2 h2 => arB_w ?_
  refine ifA_w (fun b1 => ?_) (fun b1 => fin h2 (by rw [show hdsB nt.src (min k 4) none nt.hands = false from b1]; rfl))
  rw [show hdsB nt.src (min k 4) none nt.hands = true from b1, Bool.true_and] at fin
  refine rowK_w (gx h2) (ldSl_w c2 (rowK_w (gx h2) (ldSl_w c3 ?_)))
  refine ht _ _ _ _ _ _ _ _ _ _ _ _ _ (srm.le h2) (srh.le h2) (by omega) (by omega) fun H3 h3 => arB_w ?_
  have h23 := h2.trans h3
  refine ifA_w (fun b2 => ?_) (fun b2 => fin h23 (by rw [b2]; rfl))
  rw [b2, Bool.true_and] at fin
  refine rowK_w (gx h23) (ldSl_w c4 (rowK_w (gx h23) (ldSl_w c3 ?_)))
  refine ht _ _ _ _ _ _ _ _ _ _ _ _ _ (srg.le h23) (srh.le h23) (by omega) (by omega) fun H4 h4 => arB_w ?_
  have h24 := h23.trans h4
  refine ifA_w (fun b3 => ?_) (fun b3 => fin h24 (by rw [b3]; rfl))
  rw [b3, Bool.true_and] at fin
  refine rowK_w (gx h24) (ldSl_w c5 ?_)
  refine hc _ _ _ _ _ _ _ (srw.le h24) (by omega) fun H5 h5 => arB_w ?_
  exact fin (h24.trans h5) rfl
/-! A note's copy. -/
def CNCopy (cl : Cl) : Prop := ∀ H r nt K, NOf H r nt → SmN nt → (∀ H' r', Le H H' → NOf H' r' nt → (∀ a, ownW r' a → ¬ H.has a) → K (.agg (rwC r')) H' = true) → cl i_note_Copy [.agg (rwC r)] H K = true
theorem SF.mk' {α : Type} {sz : Nat} {fc : α → List AS} {H : AH} {p : AP} {c : ACap} {z : Nat} {l : List α} {n : Nat} (hn : n = l.length) (hc : CapOk c n) (sr : SR sz H p n z (l.flatMap fc)) : SF sz fc H (.slice p n c z) l := by
  subst hn; exact ⟨p, c, z, rfl, hc, sr⟩
theorem B_note_Copy_ {lf : Nat} {cl : Cl} (ct : CCl 11 i_slices_Clone_Thing cl) (chd : CCl 2 i_slices_Clone_Hand cl) (cc : CCl 22 i_slices_Clone_Command cl) {H : AH} {r : Rw} {nt : Nt} {K : AV → AH → Bool} (no : NOf H r nt) (sm : SmN nt)
    (hk : ∀ H' r', Le H H' → NOf H' r' nt → (∀ a, ownW r' a → ¬ H.has a) → K (.agg (rwC r')) H' = true) : B_note_Copy lf cl (rwC r) H K = true := by
  unfold B_note_Copy
  refine new_w fun g H1 h1 hg ng gg => new_w fun g3 H2 h2 hg3 ng3 gg3 => ?_
  have h12 := h1.trans h2
  have no2 := no.le h12
  obtain ⟨pm, cm, zm, em, hcm, srm⟩ := no2.m
  obtain ⟨ph, ch, zh, eh, hch, srh⟩ := no2.h
  obtain ⟨pg, cg, zg, eg, hcg, srg⟩ := no2.g
  obtain ⟨pw, cw, zw, ew, hcw, srw⟩ := no2.w
  have g2 := (h2.get _ hg).trans gg
  have hg2 := h2.has _ hg
  have c2 : (rwC r)[2]? = some (.slice pm nt.moved.length cm zm) := by show some r.m = _; rw [em]
  have c3 : (rwC r)[3]? = some (.slice ph nt.hands.length ch zh) := by show some r.h = _; rw [eh]
  have c4 : (rwC r)[4]? = some (.slice pg nt.given.length cg zg) := by show some r.g = _; rw [eg]
  have c5 : (rwC r)[5]? = some (.slice pw nt.watch.length cw zw) := by show some r.w = _; rw [ew]
  have ks : ∀ {Hy}, Le H2 Hy → kSame ((g, .row (rwC r)) :: (g, .row (rwC r)) :: (g, .row (rwC r)) :: []) Hy = true := fun k => kSame_p ((k.get _ hg2).trans g2) no.plain (kSame_p ((k.get _ hg2).trans g2) no.plain (kSame_p ((k.get _ hg2).trans g2) no.plain rfl))
  have hw := sm.w
  have hm := sm.m
  have hhl := sm.h
  have hgl := sm.g
  refine rowK_w g2 (ldSl_w c2 (getK_w g2 (rowK_w g2 (ldSl_w c3 (getK_w g2 (rowK_w g2 (ldSl_w c4 (getK_w g2 (rowK_w g2 (ldSl_w c5 ?_))))))))))
  refine ct _ _ _ _ _ _ _ srm (by omega) fun H3 p3 cc3 z3 h3 s3 k3 o3 => ?_
  refine okK_w (ks h3) ?_
  rw [asSl_]
  refine chd _ _ _ _ _ _ _ (srh.le h3) (by omega) fun H4 p4 cc4 z4 h4 s4 k4 o4 => ?_
  have h24 := h3.trans h4
  refine okK_w (ks h24) ?_
  rw [asSl_]
  refine ct _ _ _ _ _ _ _ (srg.le h24) (by omega) fun H5 p5 cc5 z5 h5 s5 k5 o5 => ?_
  have h25 := h24.trans h5
  refine okK_w (ks h25) ?_
  rw [asSl_]
  refine cc _ _ _ _ _ _ _ (srw.le h25) (by omega) fun H6 p6 cc6 z6 h6 s6 k6 o6 => ?_
  have h26 := h25.trans h6
  rw [asSl_]
  have ne : ∀ a, H2.has a → ¬ H2.has a → False := fun a h h' => h' h
  have e6 := (h26.get _ hg2).trans g2
  have e63 := (h26.get _ hg3).trans gg3
  have d3 : g ≠ g3 := fun e => ng3 (e ▸ hg)
  refine sto1_w e6 (by simp [rwC]) (sto1_w (get_put _ _ _) (by simp [rwC]) (sto1_w (get_put _ _ _) (by simp [rwC]) (sto1_w (get_put _ _ _) (by simp [rwC]) ?_)))
  refine rowK_w (get_put _ _ _) (ldG_we (ys := rwC ⟨r.src, r.beat, .slice p3 nt.moved.length cc3 z3, .slice p4 nt.hands.length cc4 z4, .slice p5 nt.given.length cc5 z5, .slice p6 nt.watch.length cc6 z6⟩) (by simp [rwC]) (by decide) rfl ?_)
  refine stoN_we (ds := rwC ⟨r.src, r.beat, .slice p3 nt.moved.length cc3 z3, .slice p4 nt.hands.length cc4 z4, .slice p5 nt.given.length cc5 z5, .slice p6 nt.watch.length cc6 z6⟩) ((get_put_ne (Ne.symm d3)).trans ((get_put_ne (Ne.symm d3)).trans ((get_put_ne (Ne.symm d3)).trans ((get_put_ne (Ne.symm d3)).trans e63)))) rfl (by simp) (by simp [rwC]) ?_
  refine rowK_w (get_put _ _ _) (ldG_we (ys := rwC ⟨r.src, r.beat, .slice p3 nt.moved.length cc3 z3, .slice p4 nt.hands.length cc4 z4, .slice p5 nt.given.length cc5 z5, .slice p6 nt.watch.length cc6 z6⟩) (by simp [rwC]) (by decide) rfl ?_)
  have ngH3 : ¬ H.has g3 := fun h => ng3 (h1.has _ h)
  have fG : ∀ {Hy b1 b2 b3 b4 b5}, Fr (fun a => a = g ∨ a = g3) Hy (((((Hy.put g b1).put g b2).put g b3).put g b4).put g3 b5) := fun {Hy _ _ _ _ _} => (((((Fr.refl (fun a => a = g ∨ a = g3) Hy).put (.inl (.inl rfl)) _).put (.inl (.inl rfl)) _).put (.inl (.inl rfl)) _).put (.inl (.inl rfl)) _).put (.inl (.inr rfl)) _
  have ofg : ∀ {p : AP} {Hy : AH}, Le H2 Hy → (∀ a, ownP p a → ¬ Hy.has a) → ∀ a, ownP p a → ¬ (a = g ∨ a = g3) := fun k o a h e => by
    rcases e with e | e
    · exact o a h (e ▸ k.has _ hg2)
    · exact o a h (e ▸ k.has _ hg3)
  refine hk _ _ ((((((h12.trans h26).put ng _).put ng _).put ng _).put ng _).put ngH3 _) ⟨no.src, no.beat, ?_, ?_, ?_, ?_⟩ ?_
  · exact SF.mk' rfl k3 ((s3.le (h4.trans (h5.trans h6))).fr fG (ofg (Le.refl _) o3))
  · exact SF.mk' rfl k4 ((s4.le (h5.trans h6)).fr fG (ofg h3 o4))
  · exact SF.mk' rfl k5 ((s5.le h6).fr fG (ofg h24 o5))
  · exact SF.mk' rfl k6 (s6.fr fG (ofg h25 o6))
  · rintro a (h | h | h | h) ha
    · exact o3 a h (h12.has _ ha)
    · exact o4 a h ((h12.trans h3).has _ ha)
    · exact o5 a h ((h12.trans h24).has _ ha)
    · exact o6 a h ((h12.trans h25).has _ ha)
end Go.Proofs
end
