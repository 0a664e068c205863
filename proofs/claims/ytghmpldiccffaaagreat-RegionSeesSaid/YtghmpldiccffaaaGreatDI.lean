import Derived.Test.YtghmpldiccffaaaGreatDG
import Derived.Test.YtghmpldiccffaaaGreatBR
section
namespace Go.Proofs
open Go Go.Vw Go.Vw.Ev
set_option linter.unusedVariables false
set_option linter.unusedSimpArgs false
def insP (x : Rw × Nt) : List (Rw × Nt) → List (Rw × Nt)
 | [] => [x]
 | y :: r => if keyS x.1.src < keyS y.1.src then y :: insP x r else x :: y :: r
def srtRvP : List (Rw × Nt) → List (Rw × Nt) → List (Rw × Nt)
 | acc, [] => acc
 | acc, x :: r => srtRvP (insP x acc) r
def srtP (l : List (Rw × Nt)) : List (Rw × Nt) := (srtRvP [] l).reverse
theorem insP_map (x : Rw × Nt) : ∀ l : List (Rw × Nt), (insP x l).map (·.1) = insRv x.1 (l.map (·.1))
 | [] => rfl
 | y :: r => by
  unfold insP
  rw [List.map_cons, insRv]
  split
  ·rw [List.map_cons, insP_map x r]
  ·rfl
theorem srtRvP_map : ∀ (l acc : List (Rw × Nt)), (srtRvP acc l).map (·.1) = srtRv (acc.map (·.1)) (l.map (·.1))
 | [], _ => rfl
 | x :: r, acc => by rw [srtRvP, srtRvP_map r, insP_map, List.map_cons, srtRv]
theorem srtP_map (l : List (Rw × Nt)) : (srtP l).map (·.1) = srtN (l.map (·.1)) := by unfold srtP srtN; rw [List.map_reverse, srtRvP_map]; rfl
theorem insP_mem (x y : Rw × Nt) : ∀ l : List (Rw × Nt), y ∈ insP x l → y = x ∨ y ∈ l
 | [], h => by rw [insP, List.mem_singleton] at h; exact .inl h
 | z :: r, h => by
  unfold insP at h
  split at h
  ·rcases List.mem_cons.1 h with h | h
   ·exact .inr (by rw [h]; simp)
   ·rcases insP_mem x y r h with h | h
    ·exact .inl h
    ·exact .inr (List.mem_cons_of_mem _ h)
  ·rcases List.mem_cons.1 h with h | h
   ·exact .inl h
   ·exact .inr h
theorem srtRvP_mem : ∀ (l acc : List (Rw × Nt)) (y : Rw × Nt), y ∈ srtRvP acc l → y ∈ acc ∨ y ∈ l
 | [], _, _, h => .inl h
 | x :: r, acc, y, h => by
  rw [srtRvP] at h
  rcases srtRvP_mem r _ y h with h | h
  ·rcases insP_mem x y acc h with h | h
   ·exact .inr (by rw [h]; simp)
   ·exact .inl h
  ·exact .inr (List.mem_cons_of_mem _ h)
theorem srtP_mem {l : List (Rw × Nt)} {y : Rw × Nt} (h : y ∈ srtP l) : y ∈ l := by
 unfold srtP at h
 rw [List.mem_reverse] at h
 rcases srtRvP_mem l [] y h with h | h
 ·cases h
 ·exact h
theorem srtP_len (l : List (Rw × Nt)) : (srtP l).length = l.length := by
 have := congrArg List.length (srtP_map l)
 rw [List.length_map, srtN_len, List.length_map] at this
 exact this
noncomputable def chkN (s : RgSt) : Int → List Nt → Bool
 | _, [] => true
 | i, x :: r => decide (x.src = i) && (decide (x.beat = s.beat - 1) && ((decide (i = s.id) || noteB x s.n) && chkN s (i + 1) r))
def lastR (f : Nat → AS) (s : RgSt) : Rw := ⟨s.last.src, s.last.beat, f 41, f 42, f 43, f 44⟩
theorem RB.last {H : AH} {s : RgSt} {f : Nat → AS} {Q : Nat → Pn → Prop} (r : RB H s f Q) : NOf H (lastR f s) s.last := ⟨rfl, rfl, r.s41, r.s42, r.s43, r.s44⟩
theorem last_cells {H : AH} {s : RgSt} {f : Nat → AS} {Q : Nat → Pn → Prop} (r : RB H s f Q) : ((c48 f).drop 39).take 6 = rwC (lastR f s) := by
 show [f 39, f 40, f 41, f 42, f 43, f 44] = _
 rw [r.i39, r.i40]; rfl
def heardL (f : Nat → AS) (s : RgSt) (l : List (Rw × Nt)) : List (Rw × Nt) := srtP (l ++ [(lastR f s, s.last)])
def CHeard (cl : Cl) : Prop := ∀ H g s f Q p n c z (l : List (Rw × Nt)) K, RB H s f Q → H.has g → H.get g = some (.row (c48 f)) → SR 6 H p n z ((l.map (·.1)).flatMap rwC) → (∀ x ∈ l, NOf H x.1 x.2 ∧ SmN x.2) → SmN s.last → 0 ≤ s.beat ∧ s.beat ≤ 1000000 → n < 15 →
 (s.beat = 0 → K (.tup [.s (.slice .nil 0 (.lit 0) 1), .s (.bool (decide (n = 0)))]) H = true) →
 (s.beat ≠ 0 → ∀ H' p' m c' z' b, Le H H' → (b = true → chkN s 0 ((heardL f s l).map (·.2)) = true ∧ ((n + 1 : Nat) : Int) = s.n ∧ m = n + 1 ∧ SR 6 H' p' m z' (((heardL f s l).map (·.1)).flatMap rwC) ∧ (∀ a, ownP p' a → ¬ H.has a)) →
  (b = false → (chkN s 0 ((heardL f s l).map (·.2)) && decide (((n + 1 : Nat) : Int) = s.n)) = false) → K (.tup [.s (.slice p' m c' z'), .s (.bool b)]) H' = true) →
 cl i_region_Region_heard [.s (.ptr (.at g 0)), .s (.slice p n c z)] H K = true
theorem B_region_Region_heard_ {lf : Nat} {cl : Cl} (hlf : 100000 ≤ lf) (hcl : CCl 6 i_slices_Clone_Note cl) (hsrt : CSrtN cl) (his : CIsNote cl) {H : AH} {g : Pn} {s : RgSt} {f : Nat → AS} {Q : Nat → Pn → Prop} {p : AP} {n z : Nat} {c : ACap} {l : List (Rw × Nt)} {K : AV → AH → Bool}
  (rb : RB H s f Q) (hg : H.has g) (gg : H.get g = some (.row (c48 f))) (sr : SR 6 H p n z ((l.map (·.1)).flatMap rwC)) (hl : ∀ x ∈ l, NOf H x.1 x.2 ∧ SmN x.2) (hsl : SmN s.last) (hb0 : 0 ≤ s.beat ∧ s.beat ≤ 1000000) (hn : n < 15)
  (k0 : s.beat = 0 → K (.tup [.s (.slice .nil 0 (.lit 0) 1), .s (.bool (decide (n = 0)))]) H = true)
  (k1 : s.beat ≠ 0 → ∀ H' p' m c' z' b, Le H H' → (b = true → chkN s 0 ((heardL f s l).map (·.2)) = true ∧ ((n + 1 : Nat) : Int) = s.n ∧ m = n + 1 ∧ SR 6 H' p' m z' (((heardL f s l).map (·.1)).flatMap rwC) ∧ (∀ a, ownP p' a → ¬ H.has a)) →
   (b = false → (chkN s 0 ((heardL f s l).map (·.2)) && decide (((n + 1 : Nat) : Int) = s.n)) = false) → K (.tup [.s (.slice p' m c' z'), .s (.bool b)]) H' = true) :
  B_region_Region_heard lf cl (.at g 0) p n c z H K = true := by
 unfold B_region_Region_heard
 have gx : ∀ {Hy}, Le H Hy → Hy.get g = some (.row (c48 f)) := fun k => (k.get _ hg).trans gg
 simp only [nilK_at, fN_eq, Nat.add_eq, Nat.zero_add, Nat.add_zero, fB_eq, iEq_dec]
 refine rowK_w gg (ldI_w (n := s.beat) (by rw [c48_get _ (by decide), rb.i2]) ?_)
 have hln : l.length = n := by have := hds_n rwC_len (by decide) sr; rwa [List.length_map] at this
 refine ifA_w (fun hx => ?_) (fun hx => ?_)
 ·have e : decide (Int.ofNat n = Int.ofNat 0) = decide (n = 0) := by congr 1; simp only [Int.ofNat_eq_natCast]; exact propext (by omega)
  rw [e]
  exact k0 (of_decide_eq_true hx)
 have hbz : s.beat ≠ 0 := of_decide_eq_false hx
 replace k1 := k1 hbz
 refine joinX_w (fun x Hx => ∃ b c' , x = (.at g 0, (.at b 0, n + 1, c', 6)) ∧ Le H Hx ∧ Hx.has b ∧ ¬ H.has b ∧ Hx.get b = some (.row (((l ++ [(lastR f s, s.last)]).map (·.1)).flatMap rwC))) ?_ ?_
 ·rintro x H1 ⟨b, c', rfl, h1, hb, nb, gb⟩
  simp only [pR_]
  refine hsrt H1 b (n + 1) c' _ _ (by simp [hln]) (by omega) (by omega) hb gb fun H2 f2 g2 => ?_
  rw [tup0_]
  have h2 : Le H H2 := ⟨fun a ha => f2.has a (h1.has a ha), fun a ha => (f2.get a (h1.has a ha) fun e => nb (e ▸ ha)).trans (h1.get a ha)⟩
  have hb2 := f2.has _ hb
  rw [← srtP_map] at g2
  change H2.get b = some (.row (((heardL f s l).map (·.1)).flatMap rwC)) at g2
  have hL : (heardL f s l).length = n + 1 := by unfold heardL; rw [srtP_len]; simp [hln]
  have hN : ∀ x ∈ heardL f s l, NOf H x.1 x.2 ∧ SmN x.2 := fun x hx => by
   rcases List.mem_append.1 (srtP_mem hx) with h | h
   ·exact hl x h
   ·rw [List.mem_singleton] at h; subst h; exact ⟨rb.last, hsl⟩
  generalize heardL f s l = L at *
  have sr2 : SR 6 H2 (.at b 0) (n + 1) 6 ((L.map (·.1)).flatMap rwC) := ⟨by rw [flat_len rwC_len, List.length_map, hL], .inr ⟨b, rfl, rfl, hb2, g2⟩⟩
  have bad : ∀ {Hy p'' m'' c'' z''}, Le H2 Hy → chkN s 0 (L.map (·.2)) = false → K (.tup [.s (.slice p'' m'' c'' z''), .s (.bool false)]) Hy = true := fun k e => k1 _ _ _ _ _ false (h2.trans k) (fun h => by cases h) fun _ => by rw [e]; rfl
  refine loopX_w (fun x Hx => Le H2 Hx ∧ ∃ i : Nat, x = (.at g 0, (.at b 0, n + 1, c', 6), (.at b 0, n + 1, c', 6), ((n + 1 : Nat) : Int), (i : Int)) ∧ i ≤ n + 1 ∧ chkN s 0 (L.map (·.2)) = chkN s i ((L.map (·.2)).drop i)) (fun x => n + 1 - x.2.2.2.2.toNat) ⟨Le.refl _, 0, rfl, by omega, rfl⟩ (by simp; omega) ?_
  rintro self x Hx ⟨hx2, i, rfl, hi, hC⟩ ih
  simp only [pR_, nilK_at, fN_eq, Nat.add_eq, Nat.zero_add, Nat.add_zero, iLt_dec, Nat.mul_eq]
  have gx2 := gx (h2.trans hx2)
  refine ifA_w (fun hx => ?_) (fun hx => ?_)
  ·have hx : i < n + 1 := by have := of_decide_eq_true hx; omega
   have hxl : i < L.length := by omega
   have hxm : i < (L.map (·.2)).length := by rw [List.length_map]; exact hxl
   rw [List.drop_eq_getElem_cons hxm, chkN, List.getElem_map] at hC
   obtain ⟨no, smx⟩ := hN _ (List.getElem_mem hxl)
   have hx1 : i < (L.map (·.1)).length := by rw [List.length_map]; exact hxl
   have hseg := flat_at rwC_len (L.map (·.1)) i hx1
   rw [List.getElem_map] at hseg
   have hfl : ((L.map (·.1)).flatMap rwC).length = (n + 1) * 6 := sr2.1
   generalize L[i] = e at *
   refine idxK_w (by omega) (by omega) ?_
   rw [Int.toNat_natCast]
   refine rowK_w ((hx2.get _ hb2).trans g2) (ldG_we (ys := rwC e.1) (by omega) (by decide) hseg ?_)
   refine tmp_w rfl rfl fun g1 H3 h3 hg1 ng1 gg1 => ?_
   have h23 := hx2.trans h3
   refine rowK_w gg1 (ldI_w (n := e.2.src) (by show some (AS.int .i64 e.1.src) = _; rw [no.src]) ?_)
   refine ifA_w (fun h1' => bad h23 (by rw [hC, show decide (e.2.src = (i : Int)) = false by simpa using h1']; rfl)) (fun h1' => ?_)
   have e1 : e.2.src = (i : Int) := by simpa using h1'
   rw [decide_eq_true e1, Bool.true_and] at hC
   refine rowK_w gg1 (ldI_w (n := e.2.beat) (by show some (AS.int .i64 e.1.beat) = _; rw [no.beat]) ?_)
   have gx3 := gx (h2.trans h23)
   refine rowK_w gx3 (ldI_w (n := s.beat) (by rw [c48_get _ (by decide), rb.i2]) ?_)
   rw [iSub_]
   have hbig := hb0.2
   have hb00 := hb0.1
   ·refine w64_w (by simp only [Int.ofNat_eq_natCast]; omega) (by simp only [Int.ofNat_eq_natCast]; omega) ?_
    refine ifA_w (fun h2' => bad h23 (by rw [hC, show decide (e.2.beat = s.beat - 1) = false by simpa using h2']; rfl)) (fun h2' => ?_)
    have e2 : e.2.beat = s.beat - 1 := by simpa using h2'
    rw [decide_eq_true e2, Bool.true_and] at hC
    refine rowK_w gx3 (ldI_w (n := s.id) (by rw [c48_get _ (by decide), rb.i0]) ?_)
    refine ifA_w (fun h3' => ?_) (fun h3' => ?_)
    ·have h3' : decide ((i : Int) = s.id) = false := by simpa using h3'
     rw [h3', Bool.false_or] at hC
     refine rowK_w gg1 (ldG_we (ys := rwC e.1) (by simp [rwC]) (by decide) rfl ?_)
     refine rowK_w gx3 (ldI_w (n := s.n) (by rw [c48_get _ (by decide), rb.i1]) ?_)
     refine his _ _ _ _ _ (no.le (h2.trans h23)) smx fun H4 h4 => arB_w ?_
     have h24 := h23.trans h4
     refine ifA_w (fun h5 => bad h24 (by rw [hC, show noteB e.2 s.n = false by simpa using h5]; rfl)) (fun h5 => ?_)
     have h5 : noteB e.2 s.n = true := by simpa using h5
     rw [iAdd_]
     refine w64_w (by simp only [Int.ofNat_eq_natCast]; omega) (by simp only [Int.ofNat_eq_natCast]; omega) (ih _ _ ⟨h24, i + 1, by simp, by omega, ?_⟩ (by simp; omega))
     rw [hC, h5, Bool.true_and]
     simp
    ·have h3' : decide ((i : Int) = s.id) = true := by simpa using h3'
     rw [h3', Bool.true_or, Bool.true_and] at hC
     rw [iAdd_]
     refine w64_w (by simp only [Int.ofNat_eq_natCast]; omega) (by simp only [Int.ofNat_eq_natCast]; omega) (ih _ _ ⟨h23, i + 1, by simp, by omega, ?_⟩ (by simp; omega))
     rw [hC]
     simp
  ·have hx : i = n + 1 := by have := of_decide_eq_false hx; omega
   rw [hx, List.drop_of_length_le (by rw [List.length_map]; omega)] at hC
   refine rowK_w gx2 (ldI_w (n := s.n) (by rw [c48_get _ (by decide), rb.i1]) ?_)
   refine k1 _ _ _ _ _ _ (h2.trans hx2) (fun e => ⟨hC, ?_, rfl, sr2.le hx2, ?_⟩) fun e => ?_
   ·have := of_decide_eq_true e
    simpa using this
   ·rintro a ⟨o, e⟩ ha; cases e; exact nb ha
   ·rw [hC]
    show (true && decide (((n + 1 : Nat) : Int) = s.n)) = false
    rw [Bool.true_and]
    have e' := of_decide_eq_false e
    exact decide_eq_false (by simpa using e')
 ·intro J hJ
  have hlast := last_cells rb
  refine getK_w gg (rowK_w gg (ldG_we (ys := rwC (lastR f s)) (by rw [c48_len]; decide) (by decide) hlast ?_))
  have ks : ∀ {Hy}, Le H Hy → kSame ((g, .row (c48 f)) :: []) Hy = true := fun k => kSame_p (gx k) rb.pl rfl
  have fl : (l.map (·.1)).flatMap rwC ++ rwC (lastR f s) = ((l ++ [(lastR f s, s.last)]).map (·.1)).flatMap rwC := by simp
  refine okK_w ?_ (okK_w rfl (fL_w (okK_w rfl ?_)))
  ·refine hcl _ _ _ _ _ _ _ sr (by omega) fun H1 p1 c1 z1 h1 s1 k1' o1 => ?_
   refine okK_w (ks h1) ?_
   rw [asSl_]
   refine okK_w rfl (fL_w (okK_w rfl (new_w fun g2 H2 h2 hg2 ng2 gg2 => ?_)))
   refine elK_w (ys := rwC (lastR f s)) gg2 (lb rfl) rfl ?_
   refine appS_w (s1.le h2) rfl (by decide) (by omega) (by omega) fun b H3 nb f3 s3 => ?_
   rw [fl] at s3
   obtain ⟨b', e, hb', gb'⟩ := s3.at (by omega)
   cases e
   exact hJ _ _ ⟨b, _, rfl, ⟨fun a ha => f3.has a (h2.has a (h1.has a ha)), fun a ha => (f3.get a (h2.has a (h1.has a ha)) fun h => o1 a h ha).trans ((h2.get a (h1.has a ha)).trans (h1.get a ha))⟩, hb', fun h => nb (h2.has _ (h1.has _ h)), gb'⟩
  ·refine new_w fun g2 H2 h2 hg2 ng2 gg2 => ?_
   refine hcl _ _ _ _ _ _ _ (sr.le h2) (by omega) fun H1 p1 c1 z1 h1 s1 k1' o1 => ?_
   refine okK_w (ks (h2.trans h1)) ?_
   rw [asSl_]
   refine elK_w (ys := rwC (lastR f s)) ((h1.get _ hg2).trans gg2) (lb rfl) rfl ?_
   refine appS_w s1 rfl (by decide) (by omega) (by omega) fun b H3 nb f3 s3 => ?_
   rw [fl] at s3
   obtain ⟨b', e, hb', gb'⟩ := s3.at (by omega)
   cases e
   exact hJ _ _ ⟨b, _, rfl, ⟨fun a ha => f3.has a (h1.has a (h2.has a ha)), fun a ha => (f3.get a (h1.has a (h2.has a ha)) fun h => o1 a h (h2.has a ha)).trans ((h1.get a (h2.has a ha)).trans (h2.get a ha))⟩, hb', fun h => nb (h1.has _ (h2.has _ h)), gb'⟩
end Go.Proofs
end
section
namespace Go.Proofs
open Go Go.Vw Go.Vw.Ev
set_option linter.unusedVariables false
set_option linter.unusedSimpArgs false
theorem SR.el {sz : Nat} {H : AH} {p : AP} {n z : Nat} {cs : List AS} {K : List AS → Bool} (sr : SR sz H p n z cs) (hk : K cs = true) : elK H p n sz K = true := by
 rcases sr.2 with ⟨rfl, rfl⟩ | ⟨b, rfl, _, _, gb⟩
 ·have : cs = [] := List.length_eq_zero_iff.1 (by rw [sr.1]; simp)
  subst this
  rw [elK_eq0]
  exact okK_w rfl hk
 ·exact elK_w gb (by rw [sr.1]; omega) (by rw [List.drop_zero, ← sr.1, List.take_length]) hk
theorem appT_w {sz bytes : Nat} {H : AH} {p : AP} {n z m : Nat} {cs ys : List AS} {c : ACap} {K : AP → Nat → ACap → Nat → AH → Bool} (h : SR sz H p n z cs) (hc : CapOk c n) (hy : ys.length = m * sz) (hb : (n + m) * bytes ≤ 140737488355328) (hb2 : n + m ≤ 140737488355328)
  (hk : ∀ p' c' z' H', Fr (ownP p) H H' → SR sz H' p' (n + m) z' (cs ++ ys) → CapOk c' (n + m) → (∀ a, ownP p' a → ownP p a ∨ ¬ H.has a) → K p' (n + m) c' z' H' = true) : appA H p n z sz bytes ys m c K = true := by
 rcases Nat.eq_zero_or_pos m with h0 | h0
 ·subst h0
  have hy0 : ys = [] := List.length_eq_zero_iff.1 (by rw [hy]; simp)
  subst hy0
  rw [appA_eq0]
  unfold appA0
  refine fN_w (okK_w (by rw [Nat.ble_eq_true_of_le hb, Nat.ble_eq_true_of_le hb2]; rfl) ?_)
  exact hk _ _ _ _ (Fr.refl _ _) (by rw [List.append_nil]; exact h) hc fun a ha => .inl ha
 ·exact appS_w h hy h0 hb hb2 fun g' H' ng f sr => hk _ _ _ _ f sr trivial fun a ⟨o, e⟩ => by cases e; exact .inr ng
def comesB (s : RgSt) (t : Th) : Bool := decide (ofE t.pt = 0) && hasB s (ofC t.pt)
def bothT (nt : Nt) : List Th := nt.moved ++ nt.given
def comesL (s : RgSt) (l : List Nt) : List Th := (l.flatMap bothT).filter (comesB s)
theorem comesL_succ (s : RgSt) {l : List Nt} {i : Nat} (h : i < l.length) : comesL s (l.take (i + 1)) = comesL s (l.take i) ++ (bothT l[i]).filter (comesB s) := by
 unfold comesL
 rw [List.take_succ_eq_append_getElem h, List.flatMap_append, List.filter_append]
 simp
def CComes (cl : Cl) : Prop := ∀ H g s O p n c z (l : List (Rw × Nt)) K, RgS H g s O → SR 6 H p n z ((l.map (·.1)).flatMap rwC) → (∀ x ∈ l, NOf H x.1 x.2 ∧ SmN x.2) → n < 100 →
 (∀ H' p' c' z', Le H H' → SR 11 H' p' (comesL s (l.map (·.2))).length z' (thsC (comesL s (l.map (·.2)))) → (∀ a, ownP p' a → ¬ H.has a) → K (.s (.slice p' (comesL s (l.map (·.2))).length c' z')) H' = true) → cl i_region_Region_comes [.s (.ptr (.at g 0)), .s (.slice p n c z)] H K = true
theorem comes_le (s : RgSt) : ∀ {l : List Nt}, (∀ x ∈ l, SmN x) → (comesL s l).length ≤ l.length * 2000
 | [], _ => Nat.le_refl 0
 | x :: r, h => by
  have h1 := comes_le s (l := r) fun y hy => h y (List.mem_cons_of_mem _ hy)
  have h2 := h x (by simp)
  have e : comesL s (x :: r) = (bothT x).filter (comesB s) ++ comesL s r := by unfold comesL; rw [List.flatMap_cons, List.filter_append]
  have h3 := List.length_filter_le (comesB s) (bothT x)
  have h4 : (bothT x).length < 2000 := by unfold bothT; rw [List.length_append]; have := h2.m; have := h2.g; omega
  rw [e, List.length_append, List.length_cons]
  omega
theorem B_region_Region_comes_ {lf : Nat} {cl : Cl} (hlf : 100000 ≤ lf) (hcl : CCl 11 i_slices_Clone_Thing cl) (hof : COfC cl) (hhas : CHas cl) {H : AH} {g : Pn} {s : RgSt} {O : Pn → Prop} {p : AP} {n z : Nat} {c : ACap} {l : List (Rw × Nt)} {K : AV → AH → Bool}
  (rg : RgS H g s O) (sr : SR 6 H p n z ((l.map (·.1)).flatMap rwC)) (hl : ∀ x ∈ l, NOf H x.1 x.2 ∧ SmN x.2) (hn : n < 100)
  (hk : ∀ H' p' c' z', Le H H' → SR 11 H' p' (comesL s (l.map (·.2))).length z' (thsC (comesL s (l.map (·.2)))) → (∀ a, ownP p' a → ¬ H.has a) → K (.s (.slice p' (comesL s (l.map (·.2))).length c' z')) H' = true) : B_region_Region_comes lf cl (.at g 0) p n c z H K = true := by
 unfold B_region_Region_comes
 have hln : l.length = n := by have := hds_n rwC_len (by decide) sr; rwa [List.length_map] at this
 have hbig := comes_le s (l := l.map (·.2)) fun x hx => by
  obtain ⟨y, hy, rfl⟩ := List.mem_map.1 hx
  exact (hl y hy).2
 rw [List.length_map, hln] at hbig
 refine loopX_w (fun x Hx => Le H Hx ∧ ∃ (i : Nat) (p1 : AP) (c1 : ACap) (z1 : Nat), x = (.at g 0, (p1, (comesL s ((l.map (·.2)).take i)).length, c1, z1), (p, n, c, z), (n : Int), (i : Int)) ∧ i ≤ n ∧ SR 11 Hx p1 (comesL s ((l.map (·.2)).take i)).length z1 (thsC (comesL s ((l.map (·.2)).take i))) ∧ ∀ a, ownP p1 a → ¬ H.has a) (fun x => n - x.2.2.2.2.toNat)
  ⟨Le.refl _, 0, .nil, _, _, rfl, by omega, SR.nil, fun a ⟨o, e⟩ => (by cases e)⟩ (by simp; omega) ?_
 rintro self x Hx ⟨hL, i, p1, c1, z1, rfl, hi, sl, of1⟩ ih
 simp only [pR_, fB_eq, iLt_dec]
 refine ifA_w (fun hx => ?_) (fun hx => ?_)
 ·have hx : i < n := by have := of_decide_eq_true hx; omega
  have hxl : i < l.length := by omega
  have hx1 : i < (l.map (·.1)).length := by rw [List.length_map]; exact hxl
  have hx2 : i < (l.map (·.2)).length := by rw [List.length_map]; exact hxl
  have hseg := flat_at rwC_len (l.map (·.1)) i hx1
  have hsucc := comesL_succ s hx2
  rw [List.getElem_map] at hseg hsucc
  obtain ⟨no, smx⟩ := hl _ (List.getElem_mem hxl)
  have hfl := sr.1
  obtain ⟨b, rfl, hb, gb⟩ := sr.at (by omega)
  have hpre : (comesL s ((l.map (·.2)).take i)).length ≤ i * 2000 := by
   have := comes_le s (l := (l.map (·.2)).take i) fun x hx => by
    obtain ⟨y, hy, rfl⟩ := List.mem_map.1 (List.mem_of_mem_take hx)
    exact (hl y hy).2
   rw [List.length_take, List.length_map] at this
   have e : min i l.length = i := by omega
   rw [e] at this
   exact this
  generalize l[i] = e at *
  generalize comesL s ((l.map (·.2)).take i) = o at *
  simp only [nilK_at, fN_eq, Nat.add_eq, Nat.mul_eq, Nat.zero_add, Nat.add_zero]
  refine idxK_w (by omega) (by omega) ?_
  rw [Int.toNat_natCast]
  refine rowK_w ((hL.get _ hb).trans gb) (ldG_we (ys := rwC e.1) (by omega) (by decide) hseg ?_)
  refine tmp_w rfl rfl fun g1 H1 h1 hg1 ng1 gg1 => ?_
  have hL1 := hL.trans h1
  have no1 := no.le hL1
  obtain ⟨pm, cm, zm, em, hcm, srm⟩ := no1.m
  obtain ⟨pg, cg, zg, eg, hcg, srg⟩ := no1.g
  refine rowK_w gg1 (ldSl_w (p := pm) (n := e.2.moved.length) (c := cm) (z := zm) (by show some e.1.m = _; rw [em]) ?_)
  refine getK_w gg1 (rowK_w gg1 (ldSl_w (p := pg) (n := e.2.given.length) (c := cg) (z := zg) (by show some e.1.g = _; rw [eg]) ?_))
  have hm := smx.m
  have hgl := smx.g
  refine hcl _ _ _ _ _ _ _ srm (by omega) fun H2 p2 c2 z2 h2 s2 k2 o2 => ?_
  refine okK_w (kSame_p ((h2.get _ hg1).trans gg1) no.plain rfl) ?_
  rw [asSl_]
  refine (srg.le h2).el ?_
  refine appT_w s2 k2 srg.1 (by omega) (by omega) fun p3 c3 z3 H3 f3 s3 k3 o3 => ?_
  have hL2 := hL1.trans h2
  have hL3 : Le H H3 := ⟨fun a ha => f3.has a (hL2.has a ha), fun a ha => (f3.get a (hL2.has a ha) fun h => o2 a h (hL1.has a ha)).trans (hL2.get a ha)⟩
  have sl1 := sl.le h1
  have slf : SR 11 H3 p1 o.length z1 (thsC o) := (sl1.le h2).fr f3 fun a ha h => o2 a h (sl1.has a ha)
  have eb : e.2.moved.flatMap thC ++ e.2.given.flatMap thC = thsC (bothT e.2) := by unfold bothT; exact List.flatMap_append.symm
  rw [eb] at s3
  have hbl : (bothT e.2).length = e.2.moved.length + e.2.given.length := by unfold bothT; rw [List.length_append]
  have ob : ∀ a, ownP p3 a → ¬ H.has a := fun a ha h => (o3 a ha).elim (fun h' => o2 a h' (hL1.has a h)) fun h' => h' (hL2.has a h)
  have hb3 : ∀ a, ownP p3 a → ownP p1 a → False := fun a ha ha1 => (o3 a ha).elim (fun h' => o2 a h' (sl1.has a ha1)) fun h' => h' ((sl1.le h2).has a ha1)
  refine loopX_w (fun y Hy => Le H Hy ∧ ∃ (j : Nat) (p4 : AP) (c4 : ACap) (z4 : Nat), y = (.at g 0, (p4, (o ++ ((bothT e.2).take j).filter (comesB s)).length, c4, z4), (.at b 0, n, c, z), (n : Int), (i : Int), (p3, e.2.moved.length + e.2.given.length, c3, z3), ((e.2.moved.length + e.2.given.length : Nat) : Int), (j : Int)) ∧ j ≤ e.2.moved.length + e.2.given.length ∧
    SR 11 Hy p4 (o ++ ((bothT e.2).take j).filter (comesB s)).length z4 (thsC (o ++ ((bothT e.2).take j).filter (comesB s))) ∧ (∀ a, ownP p4 a → ¬ H.has a) ∧ SR 11 Hy p3 (e.2.moved.length + e.2.given.length) z3 (thsC (bothT e.2)) ∧ (∀ a, ownP p3 a → ownP p4 a → False)) (fun y => e.2.moved.length + e.2.given.length - y.2.2.2.2.2.2.2.toNat)
   ⟨hL3, 0, p1, c1, z1, by simp, by omega, by simpa using slf, of1, s3, hb3⟩ (by simp; omega) ?_
  rintro self2 y Hy ⟨hLy, j, p4, c4, z4, rfl, hj, sly, of4, sry, hb4⟩ ih2
  simp only [pR_, fB_eq, iLt_dec]
  refine ifA_w (fun hx3 => ?_) (fun hx3 => ?_)
  ·have hx3 : j < e.2.moved.length + e.2.given.length := by have := of_decide_eq_true hx3; omega
   have hjl : j < (bothT e.2).length := by omega
   have hseg2 := flat_at thC_len' (bothT e.2) j hjl
   have tk : ((bothT e.2).take (j + 1)).filter (comesB s) = ((bothT e.2).take j).filter (comesB s) ++ (if comesB s (bothT e.2)[j] = true then [(bothT e.2)[j]] else []) := by
    rw [List.take_succ_eq_append_getElem hjl, List.filter_append, List.filter_cons, List.filter_nil]
   have hle2 := List.length_filter_le (comesB s) ((bothT e.2).take j)
   rw [List.length_take] at hle2
   generalize (bothT e.2)[j] = t at *
   obtain ⟨b3, rfl, hb3', gb3⟩ := sry.at (by omega)
   simp only [nilK_at, fN_eq, Nat.add_eq, Nat.mul_eq, Nat.zero_add, Nat.add_zero]
   refine idxK_w (by omega) (by omega) ?_
   rw [Int.toNat_natCast]
   have hfl2 := sry.1
   refine rowK_w gb3 (ldG_we (ys := thC t) (by omega) (by decide) hseg2 ?_)
   refine tmp_w rfl rfl fun gt H4 h4 hgt ngt ggt => ?_
   refine rowK_w ggt (ldG_we (ys := ptC t.pt) (lb rfl) (by decide) rfl ?_)
   refine hof _ _ _ fun H5 h5 => ?_
   rw [tup2_]
   refine arI_w (arI_w ?_)
   have h45 := h4.trans h5
   rw [iEq_dec]
   have skip : ∀ {Hz}, Le Hy Hz → comesB s t = false → w64 (iAdd (j : Int) (Int.ofNat 1)) (fun n78 => self2 (.at g 0, (p4, (o ++ ((bothT e.2).take j).filter (comesB s)).length, c4, z4), (.at b 0, n, c, z), (n : Int), (i : Int), (.at b3 0, e.2.moved.length + e.2.given.length, c3, z3), ((e.2.moved.length + e.2.given.length : Nat) : Int), n78) Hz) = true := by
    intro Hz hz hf
    rw [if_neg (by rw [hf]; simp), List.append_nil] at tk
    rw [iAdd_]
    exact w64_w (by simp only [Int.ofNat_eq_natCast]; omega) (by simp only [Int.ofNat_eq_natCast]; omega) (ih2 _ _ ⟨hLy.trans hz, j + 1, p4, c4, z4, by rw [tk]; simp, by omega, by rw [tk]; exact sly.le hz, of4, sry.le hz, hb4⟩ (by simp; omega))
   refine ifA_w (fun h6 => skip h45 (by unfold comesB; rw [show decide (ofE t.pt = 0) = false by simpa using h6]; rfl)) (fun h6 => ?_)
   have h6 : decide (ofE t.pt = 0) = true := by simpa using h6
   refine hhas _ _ _ _ _ _ (rg.le (hLy.trans h45)) fun H6 h6' => arB_w ?_
   have h46 := h45.trans h6'
   refine ifA_w (fun h7 => skip h46 (by unfold comesB; rw [show hasB s (ofC t.pt) = false by simpa using h7, Bool.and_false])) (fun h7 => ?_)
   have h7 : hasB s (ofC t.pt) = true := by simpa using h7
   have hy : comesB s t = true := by unfold comesB; rw [h6, h7]; rfl
   rw [if_pos hy] at tk
   refine rowK_w (((h5.trans h6').get _ hgt).trans ggt) (ldG_we (ys := thC t) (lb rfl) (by decide) rfl ?_)
   refine okK_w rfl (fL_w ?_)
   rw [ap_eq, List.append_nil]
   refine okK_w rfl (newK_w ?_)
   refine elK_w (ys := thC t) (get_new _ _) (lb rfl) rfl ?_
   have hLn := h46.newr (.row (thC t))
   refine appS_w (sly.le hLn) (m := 1) rfl (by decide) (by rw [List.length_append]; omega) (by rw [List.length_append]; omega) fun g5 H7 ng5 f7 s7 => ?_
   rw [iAdd_]
   refine w64_w (by simp only [Int.ofNat_eq_natCast]; omega) (by simp only [Int.ofNat_eq_natCast]; omega) (ih2 _ _ ⟨⟨fun a ha => f7.has a (hLn.has a (hLy.has a ha)), fun a ha => (f7.get a (hLn.has a (hLy.has a ha)) fun h => of4 a h ha).trans ((hLn.get a (hLy.has a ha)).trans (hLy.get a ha))⟩, j + 1, .at g5 0, .of g5 0, 11, by rw [tk]; simp [Nat.add_assoc], by omega, ?_, fun a ⟨o', ea⟩ ha => (by cases ea; exact ng5 (hLn.has _ (hLy.has _ ha))), (sry.le hLn).fr f7 fun a ha h => hb4 a ha h, fun a ha ⟨o', ea⟩ => (by cases ea; exact ng5 ((sry.le hLn).has _ ha))⟩ (by simp; omega))
   rw [tk, ← List.append_assoc, List.length_append, thsC, List.flatMap_append]
   simpa [thsC] using s7
  ·have hx3 : j = e.2.moved.length + e.2.given.length := by have := of_decide_eq_false hx3; omega
   rw [hx3, List.take_of_length_le (by omega), ← hsucc] at sly
   rw [hx3, List.take_of_length_le (by omega), ← hsucc, iAdd_]
   exact w64_w (by simp only [Int.ofNat_eq_natCast]; omega) (by simp only [Int.ofNat_eq_natCast]; omega) (ih _ _ ⟨hLy, i + 1, p4, c4, z4, by simp, by omega, sly, of4⟩ (by simp; omega))
 ·have hx : i = n := by have := of_decide_eq_false hx; omega
  rw [hx, List.take_of_length_le (by rw [List.length_map]; omega)] at sl ⊢
  exact hk _ _ _ _ hL sl of1
end Go.Proofs
end
section
namespace Go.Proofs
open Go Go.Vw Go.Vw.Ev
set_option linter.unusedVariables false
set_option linter.unusedSimpArgs false
set_option maxRecDepth 100000
def CLen0 (cl : Cl) : Prop := ∀ H K, K (.s (.int .i64 0)) H = true → cl i_math_bits_Len [.s (.int .u64 0)] H K = true
def CLen64 (cl : Cl) : Prop := ∀ H K, K (.s (.int .i64 0)) H = true → cl i_math_bits_Len64 [.s (.int .u64 0)] H K = true
theorem B_math_bits_Len64_ {lf : Nat} {cl : Cl} {H : AH} {K : AV → AH → Bool} (hk : K (.s (.int .i64 0)) H = true) : B_math_bits_Len64 lf cl 0 H K = true := by
 have e : B_math_bits_Len64 lf cl 0 H K = K (.s (.int .i64 0)) H := rfl
 rw [e]; exact hk
theorem B_math_bits_Len_ {lf : Nat} {cl : Cl} (h64 : CLen64 cl) {H : AH} {K : AV → AH → Bool} (hk : K (.s (.int .i64 0)) H = true) : B_math_bits_Len lf cl 0 H K = true := by
 unfold B_math_bits_Len
 exact h64 _ _ (arI_w hk)
def hcmpF : AV := .s (.func i_region_Region_leaves_1 [] [])
def CIns0 (cl : Cl) : Prop := ∀ H p c z K, K (.tup []) H = true → cl i_slices_insertionSortCmpFunc_Hand [.s (.slice p 0 c z), .s (.int .i64 (Int.ofNat 0)), .s (.int .i64 (Int.ofNat 0)), hcmpF] H K = true
theorem B_slices_insertionSortCmpFunc_Hand_ {lf : Nat} {cl : Cl} (hlf : 10 ≤ lf) {H : AH} {p : AP} {c : ACap} {z : Nat} {K : AV → AH → Bool} (hk : K (.tup []) H = true) : B_slices_insertionSortCmpFunc_Hand lf cl p 0 c z (Int.ofNat 0) (Int.ofNat 0) hcmpF H K = true := by
 unfold B_slices_insertionSortCmpFunc_Hand
 rw [iAdd_]
 refine w64_w (by decide) (by decide) ?_
 refine loopX_w (fun x Hx => Hx = H ∧ x = ((p, 0, c, z), Int.ofNat 0, Int.ofNat 0, hcmpF, Int.ofNat 0 + Int.ofNat 1)) (fun _ => 0) ⟨rfl, rfl⟩ (by omega) ?_
 rintro self x Hx ⟨rfl, rfl⟩ _
 simp only [pR_, fB_eq, iLt_dec]
 exact ifA_w (fun h => absurd (of_decide_eq_true h) (by decide)) (fun _ => hk)
def CPdq0 (cl : Cl) : Prop := ∀ H p c z K, K (.tup []) H = true → cl i_slices_pdqsortCmpFunc_Hand [.s (.slice p 0 c z), .s (.int .i64 (Int.ofNat 0)), .s (.int .i64 (Int.ofNat 0)), .s (.int .i64 0), hcmpF] H K = true
theorem B_slices_pdqsortCmpFunc_Hand_ {lf : Nat} {cl : Cl} (hlf : 10 ≤ lf) (hins : CIns0 cl) {H : AH} {p : AP} {c : ACap} {z : Nat} {K : AV → AH → Bool} (hk : K (.tup []) H = true) : B_slices_pdqsortCmpFunc_Hand lf cl p 0 c z (Int.ofNat 0) (Int.ofNat 0) 0 hcmpF H K = true := by
 unfold B_slices_pdqsortCmpFunc_Hand
 refine loopX_w (fun x Hx => Hx = H ∧ ∃ b1 b2, x = ((p, 0, c, z), Int.ofNat 0, Int.ofNat 0, 0, hcmpF, b1, b2)) (fun _ => 0) ⟨rfl, _, _, rfl⟩ (by omega) ?_
 rintro self x Hx ⟨rfl, b1, b2, rfl⟩ _
 simp only [pR_, fB_eq, iLe_dec, iSub_]
 refine w64_w (by decide) (by decide) ?_
 refine ifA_w (fun _ => ?_) (fun h => absurd (of_decide_eq_false h) (by decide))
 exact hins _ _ _ _ _ (by rw [tup0_]; exact hk)
def CSrt0 (cl : Cl) : Prop := ∀ H p c z K, K (.tup []) H = true → cl i_slices_SortFunc_Hand [.s (.slice p 0 c z), hcmpF] H K = true
theorem B_slices_SortFunc_Hand_ {lf : Nat} {cl : Cl} (hlen : CLen0 cl) (hpdq : CPdq0 cl) {H : AH} {p : AP} {c : ACap} {z : Nat} {K : AV → AH → Bool} (hk : K (.tup []) H = true) : B_slices_SortFunc_Hand lf cl p 0 c z hcmpF H K = true := by
 unfold B_slices_SortFunc_Hand
 rw [wrapK_eq]
 show cl i_math_bits_Len [.s (.int .u64 0)] H _ = true
 exact hlen _ _ (arI_w (hpdq _ _ _ _ _ (by rw [tup0_]; exact hk)))
def goneB (s : RgSt) (t : Th) : Bool := !hasB s (ofC t.pt)
noncomputable def goneL (s : RgSt) : List Th := ((allT s.th).map (thOf s.th)).filter (goneB s)
def dropT (L : List (Int × Th)) (l : List Th) : List (Int × Th) := l.foldl (fun L t => aDel L t.id) L
noncomputable def leavesS (s : RgSt) : RgSt := { s with beat := s.beat + 1, took := 0, watch := [], hands := [], th := dropT s.th (goneL s), was := (allT (dropT s.th (goneL s))).map (thOf (dropT s.th (goneL s))), last := ⟨s.id, s.beat, goneL s, s.hands, [], s.watch⟩ }
theorem aDel_le (L : List (Int × Th)) (k : Int) : (aDel L k).length ≤ L.length := by
 induction L with
 | nil => exact Nat.le_refl 0
 | cons x r ih => unfold aDel; split <;> simp <;> omega
theorem dropT_le : ∀ (l : List Th) (L : List (Int × Th)), (dropT L l).length ≤ L.length
 | [], _ => Nat.le_refl _
 | t :: r, L => by
  have := dropT_le r (aDel L t.id)
  have := aDel_le L t.id
  show (dropT (aDel L t.id) r).length ≤ _
  omega
theorem c48_six (f : Nat → AS) (u0 u1 u2 u3 u4 u5 : AS) : (c48 f).take 39 ++ ([u0, u1, u2, u3, u4, u5] ++ (c48 f).drop 45) = c48 (updA (updA (updA (updA (updA (updA f 39 u0) 40 u1) 41 u2) 42 u3) 43 u4) 44 u5) := rfl
def endQ (Q : Nat → Pn → Prop) (pm pw : AP) : Nat → Pn → Prop := fun i a =>
 if i = 0 then Q 0 a else if i = 4 then ownP pw a else if i = 38 then Q 38 a else if i = 41 then ownP pm a else if i = 42 then Q 36 a else if i = 44 then Q 35 a else if i = 45 then Q 45 a else if i = 46 then Q 46 a else if i = 47 then Q 47 a else False
theorem endQ_dis {Q : Nat → Pn → Prop} {pm pw : AP} (hd : ∀ i j a, Q i a → Q j a → i = j) (hm : ∀ i a, Q i a → ¬ ownP pm a) (hw : ∀ i a, Q i a → ¬ ownP pw a) (hmw : ∀ a, ownP pm a → ¬ ownP pw a) : ∀ i j a, endQ Q pm pw i a → endQ Q pm pw j a → i = j := by
 have key : ∀ i a, endQ Q pm pw i a → (i = 0 ∧ Q 0 a) ∨ (i = 4 ∧ ownP pw a) ∨ (i = 38 ∧ Q 38 a) ∨ (i = 41 ∧ ownP pm a) ∨ (i = 42 ∧ Q 36 a) ∨ (i = 44 ∧ Q 35 a) ∨ (i = 45 ∧ Q 45 a) ∨ (i = 46 ∧ Q 46 a) ∨ (i = 47 ∧ Q 47 a) := by
  intro i a h
  unfold endQ at h
  repeat' (split at h; · rename_i e; simp only [e, h, true_and, true_or, or_true, and_true, or_self])
  exact h.elim
 intro i j a h1 h2
 rcases key i a h1 with ⟨e1, q1⟩ | ⟨e1, q1⟩ | ⟨e1, q1⟩ | ⟨e1, q1⟩ | ⟨e1, q1⟩ | ⟨e1, q1⟩ | ⟨e1, q1⟩ | ⟨e1, q1⟩ | ⟨e1, q1⟩ <;>
 rcases key j a h2 with ⟨e2, q2⟩ | ⟨e2, q2⟩ | ⟨e2, q2⟩ | ⟨e2, q2⟩ | ⟨e2, q2⟩ | ⟨e2, q2⟩ | ⟨e2, q2⟩ | ⟨e2, q2⟩ | ⟨e2, q2⟩ <;>
 first
  | exact e1.trans e2.symm
  | exact absurd (hd _ _ a q1 q2) (by decide)
  | exact absurd q2 (hm _ a q1)
  | exact absurd q1 (hm _ a q2)
  | exact absurd q2 (hw _ a q1)
  | exact absurd q1 (hw _ a q2)
  | exact absurd q2 (hmw a q1)
  | exact absurd q1 (hmw a q2)
theorem endQ_all {Q : Nat → Pn → Prop} {pm pw : AP} {P : Pn → Prop} (hQ : ∀ i a, Q i a → P a) (hm : ∀ a, ownP pm a → P a) (hw : ∀ a, ownP pw a → P a) {i : Nat} {a : Pn} (h : endQ Q pm pw i a) : P a := by
 unfold endQ at h
 split at h
 ·exact hQ _ _ h
 split at h
 ·exact hw _ h
 split at h
 ·exact hQ _ _ h
 split at h
 ·exact hm _ h
 split at h
 ·exact hQ _ _ h
 split at h
 ·exact hQ _ _ h
 split at h
 ·exact hQ _ _ h
 split at h
 ·exact hQ _ _ h
 split at h
 ·exact hQ _ _ h
 ·exact h.elim
end Go.Proofs
end
section
namespace Go.Proofs
open Go Go.Vw Go.Vw.Ev
set_option linter.unusedVariables false
set_option linter.unusedSimpArgs false
set_option maxRecDepth 100000
def nilS : AS := .slice .nil 0 (.lit 0) 1
theorem gput_w {H : AH} {g : Pn} {f : Nat → AS} {k : Nat} {u : AS} {K : AH → Bool} (gg : H.get g = some (.row (c48 f))) (hk : k < 48) (hK : ∀ H', Fr (fun a => a = g) H H' → H'.get g = some (.row (c48 (updA f k u))) → K H' = true) : sto1 H g k u K = true := by
 refine sto1_w gg (by rw [c48_len]; exact hk) ?_
 rw [c48_set]
 exact hK _ ((Fr.refl (fun a => a = g) _).put (.inl rfl) _) (get_put _ _ _)
theorem gsix_w {H : AH} {g : Pn} {f : Nat → AS} {u0 u1 u2 u3 u4 u5 : AS} {K : AH → Bool} (gg : H.get g = some (.row (c48 f))) (hK : ∀ H', Fr (fun a => a = g) H H' → H'.get g = some (.row (c48 (updA (updA (updA (updA (updA (updA f 39 u0) 40 u1) 41 u2) 42 u3) 43 u4) 44 u5))) → K H' = true) : stoN H g 39 6 [u0, u1, u2, u3, u4, u5] K = true := by
 refine stoN_we gg rfl (by rw [c48_len]; decide) (c48_six _ _ _ _ _ _ _) ?_
 exact hK _ ((Fr.refl (fun a => a = g) _).put (.inl rfl) _) (get_put _ _ _)
theorem updA_self {α : Type} (f : Nat → α) (k : Nat) : updA f k (f k) = f := by
 funext i
 unfold updA
 split
 ·rename_i e; rw [e]
 ·rfl
theorem updA_updA {α : Type} (f : Nat → α) (k : Nat) (x y : α) : updA (updA f k x) k y = updA f k y := by
 funext i
 unfold updA
 split <;> rfl
theorem dropT_succ (L : List (Int × Th)) {l : List Th} {j : Nat} (h : j < l.length) : dropT L (l.take (j + 1)) = aDel (dropT L (l.take j)) (l[j]).id := by
 unfold dropT
 rw [List.take_succ_eq_append_getElem h, List.foldl_append]
 rfl
def CLeaves (cl : Cl) : Prop := ∀ H g s O K, RgS H g s O → Sm s → s.hands = [] → 0 ≤ s.beat ∧ s.beat ≤ 1000000 → (∀ H' r O', Fr O H H' → RgS H' g (leavesS s) O' → (∀ a, O' a → O a ∨ ¬ H.has a) → NOf H' r (leavesS s).last → (∀ a, ownW r a → O' a) → K (.agg (rwC r)) H' = true) →
 cl i_region_Region_leaves [.s (.ptr (.at g 0))] H K = true
theorem B_region_Region_leaves_ {lf : Nat} {cl : Cl} (hlf : 100000 ≤ lf) (hsrt : CSrt0 cl) (hall : CTAll cl) (hof : COfC cl) (hhas : CHas cl) (hand : CHanded cl) (hcl : CCl 11 i_slices_Clone_Thing cl) (hdrop : CTDrop cl) {H : AH} {g : Pn} {s : RgSt} {O : Pn → Prop} {K : AV → AH → Bool}
  (rg : RgS H g s O) (sm : Sm s) (hh : s.hands = []) (hb : 0 ≤ s.beat ∧ s.beat ≤ 1000000)
  (hk : ∀ H' r O', Fr O H H' → RgS H' g (leavesS s) O' → (∀ a, O' a → O a ∨ ¬ H.has a) → NOf H' r (leavesS s).last → (∀ a, ownW r a → O' a) → K (.agg (rwC r)) H' = true) : B_region_Region_leaves lf cl (.at g 0) H K = true := by
 unfold B_region_Region_leaves
 refine new_w fun g1 H1 h1 hg1 ng1 gg1 => ?_
 have rg1 := rg.le h1
 have rgH := rg
 obtain ⟨f, Q, rb, hg, gg, q0, ho⟩ := rg
 have qH : ∀ i a, Q i a → H.has a := rb.qh
 have hg_1 := h1.has _ hg
 have gg_1 := (h1.get _ hg).trans gg
 have hsth := sm.th
 obtain ⟨ph, ch, zh, e36, hch, srh⟩ := rb.s36
 obtain ⟨pw, cw, zw, e35, hcw, srw⟩ := rb.s35
 have l0 : s.hands.length = 0 := by rw [hh]; rfl
 obtain ⟨gt, e45, tt⟩ := rb.tab
 simp only [nilK_at, fN_eq, Nat.add_eq, Nat.zero_add, Nat.add_zero]
 refine getK_w gg_1 (rowK_w gg_1 (ldI_w (n := s.id) (by rw [c48_get _ (by decide), rb.i0]) ?_))
 refine getK_w gg_1 (rowK_w gg_1 (ldI_w (n := s.beat) (by rw [c48_get _ (by decide), rb.i2]) ?_))
 refine getK_w gg_1 (rowK_w gg_1 (ldSl_w (by rw [c48_get _ (by decide), e36]) ?_))
 refine getK_w gg_1 (rowK_w gg_1 (ldSl_w (by rw [c48_get _ (by decide), e35]) ?_))
 refine tmp_w rfl rfl fun gn H2 h2 hgn ngn ggn => ?_
 have h12 := h1.trans h2
 have ngnH : ¬ H.has gn := fun h => ngn (h1.has _ h)
 have d1n : g1 ≠ gn := fun e => ngn (e ▸ hg1)
 have dgn : g ≠ gn := fun e => ngnH (e ▸ hg)
 have dg1 : g ≠ g1 := fun e => ng1 (e ▸ hg)
 refine rowK_w ggn (ldSl_w (p := ph) (n := 0) (c := ch) (z := zh) (by rw [← l0]; rfl) ?_)
 refine hsrt _ _ _ _ _ ?_
 rw [tup0_]
 refine rowK_w ((h12.get _ hg).trans gg) (ldP_w (p := .at gt 0) (by rw [c48_get _ (by decide), e45]) ?_)
 refine hall _ _ _ _ _ (tt.le h12) (by omega) fun H3 p3 c3 z3 h3 sl3 => ?_
 rw [asSl_]
 have tsn := Sl.sr sl3
 have tsf : ∀ a, ownP p3 a → ¬ H2.has a := fun a ⟨o, e⟩ => by
  rcases sl3.rep with ⟨_, e'⟩ | ⟨g', e', _, _, _, ng'⟩
  ·rw [e'] at e; cases e
  ·rw [e'] at e; cases e; exact ng'
 have hn3 : (allT s.th).length < 9000 := by rw [allT_len]; exact hsth
 have hmt : ((allT s.th).map (thOf s.th)).length = (allT s.th).length := List.length_map _
 have hgl : goneL s = ((allT s.th).map (thOf s.th)).filter (goneB s) := rfl
 generalize hts : (allT s.th).map (thOf s.th) = ts at *
 generalize (allT s.th).length = n3 at *
 have h13 : Le H1 H3 := h2.trans h3
 refine loopX_w (fun x Hx => ∃ (i : Nat) (pm : AP) (cm : ACap) (zm : Nat), x = (.at g 0, .at g1 0, .at gn 0, (p3, n3, c3, z3), (n3 : Int), (i : Int)) ∧ i ≤ n3 ∧ Le H1 Hx ∧ Hx.has gn ∧ Hx.get gn = some (.row (rwC ⟨s.id, s.beat, .slice pm ((ts.take i).filter (goneB s)).length cm zm, f 36, nilS, f 35⟩)) ∧
   SR 11 Hx pm ((ts.take i).filter (goneB s)).length zm (thsC ((ts.take i).filter (goneB s))) ∧ CapOk cm ((ts.take i).filter (goneB s)).length ∧ (∀ a, ownP pm a → ¬ H2.has a ∧ ¬ ownP p3 a) ∧ SR 11 Hx p3 n3 z3 (thsC ts) ∧ ∀ a, H2.has a → Hx.has a) (fun x => n3 - x.2.2.2.2.2.toNat)
  ⟨0, .nil, .lit 0, 1, rfl, by omega, h13, h3.has _ hgn, ?_, SR.nil, Nat.le_refl 0, fun a ⟨o, e⟩ => (by cases e), tsn, h3.has⟩ (by simp; omega) ?_
 ·rw [(h3.get _ hgn).trans ggn, e36, e35]; rfl
 rintro self x Hx ⟨i, pm, cm, zm, rfl, hi, hL, hgnx, ggnx, srm, capm, om, srt, hmon⟩ ih
 have gx : Hx.get g = some (.row (c48 f)) := (hL.get _ hg_1).trans gg_1
 have pl36 : plain (f 36) = true := rb.s36.plain
 have pl35 : plain (f 35) = true := rb.s35.plain
 simp only [pR_, fB_eq, iLt_dec]
 refine ifA_w (fun hx => ?_) (fun hx => ?_)
 ·have hx : i < n3 := by have := of_decide_eq_true hx; omega
  have hxl : i < ts.length := by omega
  have hseg := flat_at thC_len' ts i hxl
  have tk : (ts.take (i + 1)).filter (goneB s) = (ts.take i).filter (goneB s) ++ (if goneB s ts[i] = true then [ts[i]] else []) := by
   rw [List.take_succ_eq_append_getElem hxl, List.filter_append, List.filter_cons, List.filter_nil]
  have hle := List.length_filter_le (goneB s) (ts.take i)
  rw [List.length_take] at hle
  generalize ts[i] = t at *
  generalize (ts.take i).filter (goneB s) = mv at *
  obtain ⟨b3, rfl, hb3, gb3⟩ := srt.at (by omega)
  have hfl := srt.1
  simp only [nilK_at, fN_eq, Nat.add_eq, Nat.mul_eq, Nat.zero_add, Nat.add_zero]
  refine idxK_w (by omega) (by omega) ?_
  rw [Int.toNat_natCast]
  refine rowK_w gb3 (ldG_we (ys := thC t) (by omega) (by decide) hseg ?_)
  refine tmp_w rfl rfl fun gc H4 h4 hgc ngc ggc => ?_
  refine rowK_w ggc (ldG_we (ys := ptC t.pt) (lb rfl) (by decide) rfl ?_)
  refine hof _ _ _ fun H5 h5 => ?_
  rw [tup2_]
  refine arI_w (arI_w ?_)
  refine hhas _ _ _ _ _ _ (rg1.le (hL.trans (h4.trans h5))) fun H6 h6 => arB_w ?_
  have h46 := h4.trans (h5.trans h6)
  have hL6 := hL.trans h46
  have gn6 := (h46.get _ hgnx).trans ggnx
  have hgn6 := h46.has _ hgnx
  refine ifA_w (fun hy => ?_) (fun hy => ?_)
  ·have hgo : goneB s t = true := hy
   rw [if_pos hgo] at tk
   refine rowK_w gn6 (ldSl_w (p := pm) (n := mv.length) (c := cm) (z := zm) rfl ?_)
   refine rowK_w (((h5.trans h6).get _ hgc).trans ggc) (ldG_we (ys := thC t) (lb rfl) (by decide) rfl ?_)
   refine okK_w rfl (fL_w ?_)
   rw [ap_eq, List.append_nil]
   refine okK_w rfl (newK_w (elK_w (ys := thC t) (get_new _ _) (lb rfl) rfl ?_))
   have hLn := h46.newr (.row (thC t))
   refine appS_w (srm.le hLn) (m := 1) rfl (by decide) (by omega) (by omega) fun g5 H7 ng5 f7 s7 => ?_
   have hgn7 := f7.has _ (hLn.has _ hgnx)
   have npm : ¬ ownP pm gn := fun h => (om gn h).1 hgn
   have gn7 := (f7.get _ (hLn.has _ hgnx) npm).trans ((hLn.get _ hgnx).trans ggnx)
   refine sto1_w gn7 (by simp [rwC]) ?_
   have hL7 : Le H1 H7 := ⟨fun a ha => f7.has a (hLn.has a (hL.has a ha)), fun a ha => (f7.get a (hLn.has a (hL.has a ha)) fun h => (om a h).1 (h2.has a ha)).trans ((hLn.get a (hL.has a ha)).trans (hL.get a ha))⟩
   have fg : Fr (fun a => a = gn) H7 (H7.put gn (.row ((rwC ⟨s.id, s.beat, .slice pm mv.length cm zm, f 36, nilS, f 35⟩).set 2 (.slice (.at g5 0) (mv.length + 1) (.of g5 0) 11)))) := (Fr.refl (fun a => a = gn) _).put (.inl rfl) _
   have ng5x : ¬ Hx.has g5 := fun h => ng5 (hLn.has _ h)
   rw [iAdd_]
   refine w64_w (by simp only [Int.ofNat_eq_natCast]; omega) (by simp only [Int.ofNat_eq_natCast]; omega) (ih _ _ ⟨i + 1, .at g5 0, .of g5 0, 11, by simp, by omega, hL7.put ngn _, hgn7, ?_, ?_, trivial, ?_, ?_, fun a ha => f7.has a (hLn.has a (hmon a ha))⟩ (by simp; omega))
   ·rw [get_put, tk]; simp [rwC]
   ·rw [tk, List.length_append, thsC, List.flatMap_append]
    refine SR.fr ?_ fg fun a ⟨o, e⟩ e' => by cases e; exact ng5x (e' ▸ hgnx)
    simpa [thsC] using s7
   ·rintro a ⟨o, e⟩
    cases e
    exact ⟨fun h => ng5x (hmon _ h), fun ⟨o', e'⟩ => by cases e'; exact ng5x hb3⟩
   ·exact ((srt.le hLn).fr f7 fun a ha h => (om a h).2 ha).fr fg fun a ⟨o, e⟩ e' => by cases e; exact (tsf b3 ⟨0, rfl⟩) (e' ▸ hgn)
  ·have hgo : goneB s t = false := by cases e : goneB s t with
    | false => rfl
    | true => exact absurd (show (!hasB s (ofC t.pt)) = true from e) (by rw [hy]; decide)
   rw [if_neg (by rw [hgo]; simp), List.append_nil] at tk
   refine rowK_w gn6 (ldSl_w (p := ph) (n := 0) (c := ch) (z := zh) (by show some (f 36) = _; rw [e36, l0]) ?_)
   have srh0 : SR 2 H ph 0 zh (hdsC []) := by rw [hh] at srh; exact srh
   refine hand _ _ _ _ _ _ _ _ (srh0.le ((h1.trans hL).trans h46)) (by decide) fun H7 h7 => arB_w ?_
   refine ifA_w (fun h => by cases h) (fun _ => ?_)
   have h47 := h46.trans h7
   rw [iAdd_]
   exact w64_w (by simp only [Int.ofNat_eq_natCast]; omega) (by simp only [Int.ofNat_eq_natCast]; omega) (ih _ _ ⟨i + 1, pm, cm, zm, by simp, by omega, hL.trans h47, h47.has _ hgnx, by rw [tk]; exact (h47.get _ hgnx).trans ggnx, by rw [tk]; exact srm.le h47, by rw [tk]; exact capm, om, srt.le h47, fun a ha => h47.has a (hmon a ha)⟩ (by simp; omega))
 ·have hx : i = n3 := by have := of_decide_eq_false hx; omega
  rw [hx, List.take_of_length_le (by omega), ← hgl] at ggnx srm capm
  have hmv : (goneL s).length ≤ n3 := by rw [hgl, ← hmt]; exact List.length_filter_le _ _
  clear ih tsn sl3 tsf srt
  generalize hmvd : goneL s = mv at *
  have hrp : (rwC ⟨s.id, s.beat, .slice pm mv.length cm zm, f 36, nilS, f 35⟩).all plain = true := by
   have e1 : plain (.slice pm mv.length cm zm) = true := (SF.mk' (fc := thC) rfl capm srm : SF 11 thC Hx _ mv).plain
   simp only [rwC, List.all_cons, List.all_nil, e1, pl36, pl35]; rfl
  simp only [nilK_at, fN_eq, Nat.add_eq, Nat.zero_add, Nat.add_zero]
  refine rowK_w ggnx (ldSl_w (p := pm) (n := mv.length) (c := cm) (z := zm) rfl ?_)
  refine getK_w ggnx (rowK_w ggnx (ldSl_w (p := .nil) (n := 0) (c := .lit 0) (z := 1) rfl ?_))
  refine hcl _ _ _ _ _ _ _ srm (by omega) fun H4 p4 c4 z4 h4 s4 k4 o4 => ?_
  refine okK_w (kSame_p ((h4.get _ hgnx).trans ggnx) hrp rfl) ?_
  rw [asSl_, elK_eq0]
  refine okK_w rfl ?_
  refine appT_w s4 k4 (ys := []) (m := 0) rfl (by omega) (by omega) fun p5 c5 z5 H5 f5 s5 k5 o5 => ?_
  have hx4 := hL.trans h4
  have hL5 : Le H1 H5 := ⟨fun a ha => f5.has a (hx4.has a ha), fun a ha => (f5.get a (hx4.has a ha) fun h => o4 a h (hL.has a ha)).trans (hx4.get a ha)⟩
  have hgn5 := f5.has _ (h4.has _ hgnx)
  have gn5 := (f5.get _ (h4.has _ hgnx) fun h => o4 _ h hgnx).trans ((h4.get _ hgnx).trans ggnx)
  have srm5 := (srm.le h4).fr f5 fun a ha h => o4 a h (srm.has a ha)
  have own5 : ∀ a, ownP p5 a → ¬ Hx.has a := fun a ha h => (o5 a ha).elim (fun h' => o4 a h' h) fun h' => h' (h4.has a h)
  have hl5 : Le H H5 := h1.trans hL5
  have pmH : ∀ a, ownP pm a → ¬ H.has a := fun a ha h => (om a ha).1 (h12.has _ h)
  have pmg1 : ∀ a, ownP pm a → a ≠ g1 := fun a ha e => (om a ha).1 (e ▸ h2.has _ hg1)
  rw [List.append_nil] at s5
  have rb5 := rb.fr (hl5.fr fun _ => False) fun _ _ _ _ h => h
  have g5 := (hl5.get _ hg).trans gg
  have hg5 := hl5.has _ hg
  have gg15 := (hL5.get _ hg1).trans gg1
  have hg15 := hL5.has _ hg1
  have q45g : ¬ Q 45 g := fun h => absurd (rb.dis 45 0 g h ((q0 g).2 rfl)) (by decide)
  have q45n : ¬ Q 45 gn := fun h => ngnH (qH _ _ h)
  have q451 : ¬ Q 45 g1 := fun h => ng1 (qH _ _ h)
  rw [Nat.add_zero] at s5 ⊢
  refine loopX_w (fun y Hy => ∃ (j : Nat) (X : Pn → Prop), y = (.at g 0, .at g1 0, .at gn 0, (p5, mv.length, c5, z5), (mv.length : Int), (j : Int)) ∧ j ≤ mv.length ∧ RB Hy { s with th := dropT s.th (mv.take j) } f (updA Q 45 X) ∧ Fr (Q 45) H5 Hy ∧ (∀ a, X a → Q 45 a ∨ ¬ H5.has a)) (fun y => mv.length - y.2.2.2.2.2.toNat)
   ⟨0, Q 45, rfl, by omega, by rw [updA_self]; exact rb5, Fr.refl _ _, fun a h => .inl h⟩ (by simp; omega) ?_
  clear h4 s4 k4 o4 f5 hx4 o5 gx ggnx srm hgnx
  rintro self2 y Hy ⟨j, X, rfl, hj, rby, fy, xo⟩ ih2
  simp only [pR_, fB_eq, iLt_dec, nilK_at, fN_eq, Nat.add_eq, Nat.zero_add, Nat.add_zero, Nat.mul_eq]
  have gy := (fy.get _ hg5 q45g).trans g5
  have hgy := fy.has _ hg5
  refine ifA_w (fun hx2 => ?_) (fun hx2 => ?_)
  ·have hx2 : j < mv.length := by have := of_decide_eq_true hx2; omega
   have hseg := flat_at thC_len' mv j hx2
   have hds := dropT_succ s.th hx2
   have hsy := s5.fr fy fun a ha h => own5 a ha ((h1.trans hL).has _ (qH _ _ h))
   generalize mv[j] = t at *
   obtain ⟨b5, rfl, hb5, gb5⟩ := hsy.at (by omega)
   have hfl := hsy.1
   simp only [nilK_at, fN_eq, Nat.add_eq, Nat.zero_add, Nat.add_zero, Nat.mul_eq]
   refine idxK_w (by omega) (by omega) ?_
   rw [Int.toNat_natCast]
   refine rowK_w gb5 (ldG_we (ys := thC t) (by omega) (by decide) hseg ?_)
   refine tmp_w rfl rfl fun gc H6 h6 hgc ngc ggc => ?_
   refine rowK_w ((h6.get _ hgy).trans gy) (ldP_w (p := .at gt 0) (by rw [c48_get _ (by decide), e45]) ?_)
   refine rowK_w ggc (ldI_w (n := t.id) rfl ?_)
   have rb6 := rby.fr (h6.fr fun _ => False) fun _ _ _ _ h => h
   obtain ⟨gt', e45', tt6⟩ := rb6.tab
   obtain rfl : gt' = gt := by rw [e45] at e45'; cases e45'; rfl
   refine hdrop _ _ _ _ _ _ tt6 fun H7 O7 f7 t7 o7 => arI_w ?_
   have rb7 := rb6.tabOp e45 f7 t7 o7
   rw [updA_updA] at rb7
   rw [updA_same] at f7 o7
   rw [iAdd_]
   refine w64_w (by simp only [Int.ofNat_eq_natCast]; omega) (by simp only [Int.ofNat_eq_natCast]; omega) (ih2 _ _ ⟨j + 1, O7, by simp, by omega, by rw [hds]; exact rb7, (fy.trans (h6.fr _) fun _ h => .inl h).trans f7 fun a h => xo a h, fun a h => ?_⟩ (by simp; omega))
   rcases o7 a h with h | h
   ·exact xo a h
   ·exact .inr fun h' => h (h6.has _ (fy.has _ h'))
  ·have hx2 : j = mv.length := by have := of_decide_eq_false hx2; omega
   rw [hx2, List.take_length] at rby
   have gny := (fy.get _ hgn5 q45n).trans gn5
   have hgny := fy.has _ hgn5
   have g1y := (fy.get _ hg15 q451).trans gg15
   have hg1y := fy.has _ hg15
   have srmy := srm5.fr fy fun a ha h => pmH a ha (qH _ _ h)
   have hthl : (dropT s.th mv).length < 9000 := Nat.lt_of_le_of_lt (dropT_le mv s.th) hsth
   have hb1 := hb.1
   have hb2 := hb.2
   refine rowK_w gy (ldI_w (n := s.beat) (by rw [c48_get _ (by decide), rb.i2]) ?_)
   rw [iAdd_]
   refine w64_w (by simp only [Int.ofNat_eq_natCast]; omega) (by simp only [Int.ofNat_eq_natCast]; omega) ?_
   refine gput_w gy (by decide) fun K1 t1 y1 => ?_
   have kk : ∀ {Hz : AH}, Hz.get gn = some (.row (rwC ⟨s.id, s.beat, .slice pm mv.length cm zm, f 36, nilS, f 35⟩)) → (!kHas ((gn, .row (rwC ⟨s.id, s.beat, .slice pm mv.length cm zm, f 36, nilS, f 35⟩)) :: []) g && kSame ((gn, .row (rwC ⟨s.id, s.beat, .slice pm mv.length cm zm, f 36, nilS, f 35⟩)) :: []) Hz) = true := fun h => by
    rw [kHas_ne dgn rfl, kSame_p h hrp rfl]; rfl
   have gn1 := (t1.get _ hgny (Ne.symm dgn)).trans gny
   have hn1 := t1.has _ hgny
   refine getK_w gn1 (rowK_w gn1 (ldG_we (ys := rwC ⟨s.id, s.beat, .slice pm mv.length cm zm, f 36, nilS, f 35⟩) (by simp [rwC]) (by decide) rfl ?_))
   refine okK_w (kk gn1) ?_
   refine gput_w y1 (by decide) fun K2 t2 y2 => ?_
   have gn2 := (t2.get _ hn1 (Ne.symm dgn)).trans gn1
   have hn2 := t2.has _ hn1
   refine okK_w (kk gn2) ?_
   refine gput_w y2 (by decide) fun K3 t3 y3 => ?_
   have gn3 := (t3.get _ hn2 (Ne.symm dgn)).trans gn2
   have hn3' := t3.has _ hn2
   refine okK_w (kk gn3) ?_
   refine gput_w y3 (by decide) fun K4 t4 y4 => ?_
   have gn4 := (t4.get _ hn3' (Ne.symm dgn)).trans gn3
   have hn4 := t4.has _ hn3'
   refine gsix_w y4 fun K5 t5 y5 => ?_
   have gn5' := (t5.get _ hn4 (Ne.symm dgn)).trans gn4
   have hn5 := t5.has _ hn4
   have ft : Fr (fun a => a = g) Hy K5 := (((t1.trans t2 fun _ h => .inl h).trans t3 fun _ h => .inl h).trans t4 fun _ h => .inl h).trans t5 fun _ h => .inl h
   clear t1 t2 t3 t4 t5 gn1 gn2 gn3 gn4 hn1 hn2 hn3' hn4 y1 y2 y3 y4 K1 K2 K3 K4 kk
   have q0y : ∀ a, updA Q 45 X 0 a ↔ a = g := fun a => by rw [updA_ne _ _ (by decide)]; exact q0 a
   have rbk := rby.fr ft fun i a hi ha e => hi (rby.dis i 0 a ha ((q0y a).2 e))
   obtain ⟨gt', e45', ttk⟩ := rbk.tab
   obtain rfl : gt' = gt := by rw [e45] at e45'; cases e45'; rfl
   refine rowK_w y5 (ldP_w (p := .at gt' 0) (by rw [c48_get _ (by decide)]; exact congrArg some e45) ?_)
   refine hall _ _ _ _ _ ttk (by show (dropT s.th mv).length < 10000; omega) fun K6 pA cA zA h6 slA => ?_
   rw [asSl_]
   have y6 := (h6.get _ (ft.has _ hgy)).trans y5
   refine gput_w y6 (by decide) fun K7 t7 y7 => ?_
   have gn7 := (t7.get _ (h6.has _ hn5) (Ne.symm dgn)).trans ((h6.get _ hn5).trans gn5')
   refine rowK_w gn7 (ldG_we (ys := rwC ⟨s.id, s.beat, .slice pm mv.length cm zm, f 36, nilS, f 35⟩) (by simp [rwC]) (by decide) rfl ?_)
   have t57 : Fr (fun a => a = g) Hy K7 := (ft.trans (h6.fr _) fun _ h => .inl h).trans t7 fun _ h => .inl h
   have g17 := (t57.get _ hg1y (Ne.symm dg1)).trans g1y
   refine stoN_we (ds := rwC ⟨s.id, s.beat, .slice pm mv.length cm zm, f 36, nilS, f 35⟩) g17 rfl (by simp) (by simp [rwC]) ?_
   refine rowK_w (get_put _ _ _) (ldG_we (ys := rwC ⟨s.id, s.beat, .slice pm mv.length cm zm, f 36, nilS, f 35⟩) (by simp [rwC]) (by decide) rfl ?_)
   have t8 : Fr (fun a => a = g ∨ a = g1) Hy (K7.put g1 (.row (rwC ⟨s.id, s.beat, .slice pm mv.length cm zm, f 36, nilS, f 35⟩))) := (t57.mono fun a h => .inl h).put (.inl (.inr rfl)) _
   have fin1 : Fr (fun a => a = g1) K7 (K7.put g1 (.row (rwC ⟨s.id, s.beat, .slice pm mv.length cm zm, f 36, nilS, f 35⟩))) := (Fr.refl (fun a => a = g1) _).put (.inl rfl) _
   have y8 := (get_put_ne (H := K7) (b := .row (rwC ⟨s.id, s.beat, .slice pm mv.length cm zm, f 36, nilS, f 35⟩)) dg1).trans y7
   generalize K7.put g1 (.row (rwC ⟨s.id, s.beat, .slice pm mv.length cm zm, f 36, nilS, f 35⟩)) = K8 at *
   have Qy : ∀ i a, updA Q 45 X i a → O a ∨ ¬ H5.has a := fun i a h => by
    by_cases e : i = 45
    ·subst e
     rw [updA_same] at h
     exact (xo a h).imp (fun h => (ho a).2 ⟨45, h⟩) fun h => h
    ·rw [updA_ne _ _ e] at h
     exact .inl ((ho a).2 ⟨i, h⟩)
   have Qn1 : ∀ i a, updA Q 45 X i a → a ≠ g1 := fun i a h e => by
    subst e
    rcases Qy i _ h with h' | h'
    ·exact ng1 (rgH.has _ h')
    ·exact h' hg15
   have rb8 := rby.fr t8 fun i a hi ha e => by
    rcases e with e | e
    ·exact hi (rby.dis i 0 a ha ((q0y a).2 e))
    ·exact Qn1 i a ha e
   have slS : SR 11 K8 pA (allT (dropT s.th mv)).length zA (thsC ((allT (dropT s.th mv)).map (thOf (dropT s.th mv)))) := by
    have ne : ∀ a, ownP pA a → ¬ K5.has a := fun a ⟨o, e⟩ => by
     rcases slA.rep with ⟨_, e'⟩ | ⟨g', e', _, _, _, ng'⟩
     ·rw [e'] at e; cases e
     ·rw [e'] at e; cases e; exact ng'
    exact ((Sl.sr slA).fr t7 fun a ha e => ne a ha (e ▸ ft.has _ hgy)).fr fin1 fun a ha e => ne a ha (e ▸ ft.has _ hg1y)
   have nA : ∀ a, ownP pA a → ¬ Hy.has a := fun a ⟨o, e⟩ h => by
    rcases slA.rep with ⟨_, e'⟩ | ⟨g', e', _, _, _, ng'⟩
    ·rw [e'] at e; cases e
    ·rw [e'] at e; cases e; exact ng' (ft.has _ h)
   have srm8 : SR 11 K8 pm mv.length zm (thsC mv) := srmy.fr t8 fun a ha e => by
    rcases e with e | e
    ·exact pmH a ha (e ▸ hg)
    ·exact pmg1 a ha e
   have pmQ : ∀ i a, updA Q 45 X i a → ¬ ownP pm a := fun i a h hp => by
    rcases Qy i a h with h' | h'
    ·exact pmH a hp (rgH.has _ h')
    ·exact h' (srm5.has a hp)
   have pAQ : ∀ i a, updA Q 45 X i a → ¬ ownP pA a := fun i a h hp => nA a hp (rby.qh i a h)
   have pmA : ∀ a, ownP pm a → ¬ ownP pA a := fun a h hp => nA a hp (srmy.has a h)
   have lS : leavesS s = { s with beat := s.beat + 1, took := 0, watch := [], hands := [], th := dropT s.th mv, was := (allT (dropT s.th mv)).map (thOf (dropT s.th mv)), last := ⟨s.id, s.beat, mv, s.hands, [], s.watch⟩ } := by unfold leavesS; rw [hmvd]
   have l0' : s.hands.length = 0 := l0
   have s42 : SF 2 hdC K8 (f 36) s.hands := rb8.s36
   have s44 : SF 22 cmC K8 (f 35) s.watch := rb8.s35
   have s41 : SF 11 thC K8 (.slice pm mv.length cm zm) mv := SF.mk' rfl capm srm8
   have s43 : SF 11 thC K8 nilS ([] : List Th) := SF.nil
   have no8 : NOf K8 ⟨s.id, s.beat, .slice pm mv.length cm zm, f 36, nilS, f 35⟩ (leavesS s).last := by rw [lS]; exact ⟨rfl, rfl, s41, s42, s43, s44⟩
   have frO : Fr O H K8 := ⟨fun a ha => t8.has a (fy.has a (hl5.has a ha)), fun a ha hn => (t8.get a (fy.has a (hl5.has a ha)) fun e => e.elim (fun e => hn ((ho a).2 ⟨0, (q0 a).2 e⟩)) fun e => ng1 (e ▸ ha)).trans ((fy.get a (hl5.has a ha) fun h => hn ((ho a).2 ⟨45, h⟩)).trans (hl5.get a ha))⟩
   have plf : (c48 f).all plain = true := rb.pl
   have plA : plain (.slice pA (allT (dropT s.th mv)).length cA zA) = true := by
    rcases slA.rep with ⟨_, rfl⟩ | ⟨g', rfl, _⟩ <;> rfl
   have plM : plain (.slice pm mv.length cm zm) = true := s41.plain
   have rbF : RB K8 { s with beat := s.beat + 1, took := 0, watch := [], hands := [], th := dropT s.th mv, was := (allT (dropT s.th mv)).map (thOf (dropT s.th mv)), last := ⟨s.id, s.beat, mv, s.hands, [], s.watch⟩ } (updA (updA (updA (updA (updA (updA (updA (updA (updA (updA (updA f 2 (.int .i64 (s.beat + Int.ofNat 1))) 35 nilS) 36 nilS) 37 (.int .i64 (Int.ofNat 0))) 39 (.int .i64 s.id)) 40 (.int .i64 s.beat)) 41 (.slice pm mv.length cm zm)) 42 (f 36)) 43 nilS) 44 (f 35)) 4 (.slice pA (allT (dropT s.th mv)).length cA zA)) (endQ (updA Q 45 X) pm pA) :=
    {i0 := (rb8.i0 : f 0 = _), i1 := (rb8.i1 : f 1 = _), i2 := rfl, i34 := (rb8.i34 : f 34 = _), i37 := rfl, i39 := rfl, i40 := rfl
     s4 := ⟨pA, cA, zA, (by rw [List.length_map]; rfl), (by rw [List.length_map]; exact slS)⟩
     s35 := (SF.nil : SF 22 cmC K8 nilS []), s36 := (SF.nil : SF 2 hdC K8 nilS [])
     s38 := (rb8.s38 : SF 25 tkC K8 (f 38) s.order)
     s41 := s41, s42 := s42, s43 := s43, s44 := s44
     tab := ⟨gt', (e45 : f 45 = _), rb8.tab.elim fun g' h => by
      obtain ⟨e', t'⟩ := h
      rw [e45] at e'
      cases e'
      exact t'⟩
     own := rb8.own.imp fun g' h => ⟨(h.1 : f 46 = _), h.2.1, h.2.2⟩
     book := rb8.book.imp fun g' h => ⟨(h.1 : f 47 = _), h.2.1, h.2.2⟩
     q4 := fun a => Iff.rfl
     q35 := fun a => nil_own, q36 := fun a => nil_own
     q38 := fun a => (rb8.q38 a : _ ↔ ownA (f 38) a)
     q41 := fun a => Iff.rfl
     q42 := fun a => (rb8.q36 a : _ ↔ ownA (f 36) a)
     q43 := fun a => nil_own
     q44 := fun a => (rb8.q35 a : _ ↔ ownA (f 35) a)
     dis := endQ_dis rby.dis pmQ pAQ pmA
     qh := fun i a h => endQ_all (P := K8.has) rb8.qh srm8.has slS.has h
     pl := pl_upd (pl_upd (pl_upd (pl_upd (pl_upd (pl_upd (pl_upd (pl_upd (pl_upd (pl_upd (pl_upd plf rfl) rfl) rfl) rfl) rfl) rfl) plM) pl36) rfl) pl35) plA }
   refine hk K8 _ (fun a => ∃ i, endQ (updA Q 45 X) pm pA i a) frO ?_ ?_ no8 ?_
   ·rw [lS]
    exact ⟨_, endQ (updA Q 45 X) pm pA, rbF, t8.has _ hgy, y8, fun a => by unfold endQ; rw [if_pos rfl]; exact q0y a, fun _ => Iff.rfl⟩
   ·rintro a ⟨i, h⟩
    exact endQ_all (P := fun a => O a ∨ ¬ H.has a) (fun i a h => (Qy i a h).imp (fun h => h) fun h h' => h (hl5.has a h')) (fun a h => .inr (pmH a h)) (fun a h => .inr fun h' => nA a h (fy.has a (hl5.has a h'))) h
   ·rintro a (h | h | h | h)
    ·exact ⟨41, h⟩
    ·exact ⟨42, (rb.q36 a).2 h⟩
    ·exact (nil_own.2 h).elim
    ·exact ⟨44, (rb.q35 a).2 h⟩
end Go.Proofs
end
section
namespace Go.Proofs
open Go Go.Vw Go.Vw.Ev
set_option linter.unusedVariables false
set_option linter.unusedSimpArgs false
def insM (x : Nt) : List Nt → List Nt
 | [] => [x]
 | y :: r => if keyS x.src < keyS y.src then y :: insM x r else x :: y :: r
def srtRvM : List Nt → List Nt → List Nt
 | acc, [] => acc
 | acc, x :: r => srtRvM (insM x acc) r
def srtM (l : List Nt) : List Nt := (srtRvM [] l).reverse
theorem insP_snd (x : Rw × Nt) (hx : x.1.src = x.2.src) : ∀ l : List (Rw × Nt), (∀ y ∈ l, y.1.src = y.2.src) → (insP x l).map (·.2) = insM x.2 (l.map (·.2))
 | [], _ => rfl
 | y :: r, h => by
  unfold insP
  rw [List.map_cons, insM, hx, h y (by simp)]
  split
  ·rw [List.map_cons, insP_snd x hx r fun z hz => h z (List.mem_cons_of_mem _ hz)]
  ·rfl
theorem srtRvP_snd : ∀ (l acc : List (Rw × Nt)), (∀ y ∈ l, y.1.src = y.2.src) → (∀ y ∈ acc, y.1.src = y.2.src) → (srtRvP acc l).map (·.2) = srtRvM (acc.map (·.2)) (l.map (·.2))
 | [], _, _, _ => rfl
 | x :: r, acc, h1, h2 => by
  rw [srtRvP, srtRvP_snd r _ (fun y hy => h1 y (List.mem_cons_of_mem _ hy)) (fun y hy => by
   rcases insP_mem x y acc hy with e | e
   ·rw [e]; exact h1 x (by simp)
   ·exact h2 y e), insP_snd x (h1 x (by simp)) acc h2, List.map_cons, srtRvM]
theorem heardL_snd {H : AH} {f : Nat → AS} {s : RgSt} {l : List (Rw × Nt)} (hl : ∀ x ∈ l, NOf H x.1 x.2 ∧ SmN x.2) : (heardL f s l).map (·.2) = srtM (l.map (·.2) ++ [s.last]) := by
 unfold heardL srtP srtM
 rw [List.map_reverse, srtRvP_snd]
 ·simp
 ·intro y hy
  rcases List.mem_append.1 hy with h | h
  ·exact (hl y h).1.src
  ·rw [List.mem_singleton] at h; subst h; rfl
 ·intro y hy; cases hy
def layT (L : List (Int × Th)) (l : List Th) : List (Int × Th) := l.foldl (fun L t => aSet L t.id t) L
theorem layT_succ (L : List (Int × Th)) {l : List Th} {j : Nat} (h : j < l.length) : layT L (l.take (j + 1)) = aSet (layT L (l.take j)) (l[j]).id l[j] := by
 unfold layT
 rw [List.take_succ_eq_append_getElem h, List.foldl_append]
 rfl
theorem layT_le : ∀ (l : List Th) (L : List (Int × Th)), (layT L l).length ≤ L.length + l.length
 | [], _ => Nat.le_refl _
 | t :: r, L => by
  have h1 := layT_le r (aSet L t.id t)
  have h2 : ∀ (L : List (Int × Th)) (k : Int) (v : Th), (aSet L k v).length ≤ L.length + 1 := fun L => by
   induction L with
   | nil => intro k v; simp [aSet]
   | cons x r ih =>
   intro k v; unfold aSet; split
   ·simp
   ·have := ih k v; simp only [List.length_cons]; omega
  have := h2 L t.id t
  show (layT (aSet L t.id t) r).length ≤ _
  rw [List.length_cons]
  omega
structure GoodT (t : Th) : Prop where
 on : On t.pt = true
 i0 : 0 ≤ t.id
 i1 : t.id ≤ 1000000
structure Quiet (s : RgSt) : Prop where
 h : s.hands = []
 w : s.watch = []
 off : ∀ w ∈ s.wat, w.on = false
structure QuietN (nt : Nt) : Prop where
 h : nt.hands = []
 g : nt.given = []
 w : nt.watch = []
 good : ∀ t ∈ nt.moved, GoodT t
end Go.Proofs
end
section
namespace Go.Proofs
open Go Go.Vw Go.Vw.Ev
set_option linter.unusedVariables false
set_option linter.unusedSimpArgs false
def endN (s : RgSt) (l : List Nt) : List Nt := if s.beat = 0 then [] else srtM (l ++ [s.last])
def OkEnd (s : RgSt) (l : List Nt) : Prop := (s.beat = 0 ∧ l = []) ∨ (s.beat ≠ 0 ∧ chkN s 0 (srtM (l ++ [s.last])) = true ∧ ((l.length + 1 : Nat) : Int) = s.n)
theorem wts_leafy : ∀ l : List Wt, (wtsC l).all leafy = true
 | [] => rfl
 | w :: r => by
  show (wtC w ++ wtsC r).all leafy = true
  rw [List.all_append, wts_leafy r]; rfl
end Go.Proofs
end
section
namespace Go.Proofs
open Go Go.Vw Go.Vw.Ev
set_option linter.unusedVariables false
set_option linter.unusedSimpArgs false
theorem hds_set2 {A B : List (Int × Int)} {e v : Int × Int} {n : Int} {i : Nat} (h : A.length = i) :
  (AS.int .i64 n :: hdsC (A ++ e :: B)).take (0 + 1 + i * 2) ++ (hdC v ++ (AS.int .i64 n :: hdsC (A ++ e :: B)).drop (0 + 1 + i * 2 + 2)) = AS.int .i64 n :: hdsC (A ++ v :: B) := by
 have hA : (hdsC A).length = i * 2 := by rw [hdsC, flat_len hdC_len, h]
 have e1 : ∀ x : Int × Int, hdsC (A ++ x :: B) = hdsC A ++ (hdC x ++ hdsC B) := fun x => by simp [hdsC]
 rw [e1, e1, show 0 + 1 + i * 2 + 2 = (i * 2 + 2) + 1 by omega, show 0 + 1 + i * 2 = i * 2 + 1 by omega, List.take_succ_cons, List.drop_succ_cons, ← hA, List.take_left, List.drop_append]
 have : List.drop ((hdsC A).length + 2) (hdsC A) = [] := List.drop_eq_nil_of_le (by omega)
 rw [this, List.nil_append, Nat.add_sub_cancel_left]
 rfl
def OwOk (n : Int) (l : List (Int × Int)) : Prop := ∀ h ∈ l, 0 ≤ h.1 ∧ h.1 < n ∧ 0 ≤ h.2 ∧ h.2 ≤ 1073741824
theorem wats4 {l : List Wt} (h : l.length = 4) : ∃ a b c d, l = [a, b, c, d] := match l, h with
 | [a, b, c, d], _ => ⟨a, b, c, d, rfl⟩
theorem B_watch_Load_ {lf : Nat} {cl : Cl} {H : AH} {l : List Wt} {K : AV → AH → Bool} (hl : l.length = 4) (hk : ∀ H' g, Le H H' → BK H' g l → ¬ H.has g → K (.s (.ptr (.at g 0))) H' = true) : B_watch_Load lf cl (wtsC l) H K = true := by
 unfold B_watch_Load
 obtain ⟨a, b, c, d, rfl⟩ := wats4 hl
 refine new_w fun g1 H1 h1 hg1 ng1 gg1 => rowK_w gg1 (ldG_we (ys := wtsC [a, b, c, d]) (Nat.le_refl 28) (by decide) rfl (okK_w rfl (fL_w ?_)))
 rw [ap_eq, List.append_nil]
 exact new_w fun g2 H2 h2 hg2 ng2 gg2 => hk _ _ (h1.trans h2) ⟨hg2, gg2, rfl⟩ fun h => ng2 (h1.has _ h)
def rowS (s : RgSt) (a3 a4 a5 a35 a36 a38 : AS) (r : Rw) : List AS := [.int .i64 s.id, .int .i64 s.n, .int .i64 s.beat, a3, a4, a5] ++ (wtsC s.wat ++ ([.int .i64 s.given, a35, a36, .int .i64 s.took, a38] ++ rwC r))
structure StV (H0 H : AH) (s : RgSt) (cs : List AS) : Prop where
 row : ∃ a3 a4 a5 a35 a36 a38 r, cs = rowS s a3 a4 a5 a35 a36 a38 r ∧ cs.all plain = true ∧ SW 11 thC H a3 ((allT s.th).map (thOf s.th)) ∧ (∃ b, a5 = .slice (.at b 0) 16 (.lit 16) 2 ∧ H.has b ∧ H.get b = some (.row (hdsC s.ow))) ∧
  SF 25 tkC H a38 s.order ∧ (∀ a, ownA a38 a → ¬ H0.has a)
structure SmS (s : RgSt) : Prop where
 th : s.th.length < 9000
 was : s.was.length ≤ 1000000
 w : s.watch.length ≤ 1000000
 h : s.hands.length ≤ 1000000
 o : s.order.length ≤ 1000000
 l : SmN s.last
end Go.Proofs
end
section
namespace Go.Proofs
open Go Go.Vw Go.Vw.Ev
set_option linter.unusedVariables false
set_option linter.unusedSimpArgs false
def RbV (P : Pn → Prop) (H : AH) (g : Pn) (beat : Int) (k : Nat) (L : List (Int × Th)) : Prop := ∃ cs gt Ot p c z ys, P g ∧ H.has g ∧ H.get g = some (.row cs) ∧ cs.length = 48 ∧ cs[2]? = some (.int .i64 beat) ∧ cs[38]? = some (.slice p k c z) ∧ SR 25 H p k z ys ∧ (∀ a, ownP p a → P a) ∧
 cs[45]? = some (.ptr (.at gt 0)) ∧ TT H gt L Ot ∧ ∀ a, Ot a → P a
structure OkS (s : RgSt) : Prop where
 n1 : 1 ≤ s.n
 n4 : s.n ≤ 4
 i0 : 0 ≤ s.id
 i1 : s.id < s.n
 b0 : 0 ≤ s.beat
 wl : s.wat.length = 4
 ol : s.ow.length = 16
 ow : OwOk s.n s.ow
 th : ∀ k ∈ allT s.th, GoodT (thOf s.th k)
end Go.Proofs
end
