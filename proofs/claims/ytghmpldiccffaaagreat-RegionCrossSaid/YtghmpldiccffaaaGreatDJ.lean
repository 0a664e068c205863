import Derived.Test.YtghmpldiccffaaaGreatDI
import Derived.Test.YtghmpldiccffaaaGreatDLaw18a
section
/- Regions: a beat ends, where nobody watches and nothing is handed on. -/
namespace Go.Proofs
open Go Go.Vw Go.Vw.Ev
set_option linter.unusedVariables false
set_option linter.unusedSimpArgs false

/-! Nobody watches. -/
def CFrames0 (cl : Cl) : Prop := ∀ H g s O old p n c z K, RgS H g s O → s.th.length < 9000 → (∀ w ∈ s.wat, w.on = false) → (∀ H', Le H H' → K (.s (.slice .nil 0 (.lit 0) 1)) H' = true) → cl i_region_Region_frames [.s (.ptr (.at g 0)), .agg old, .s (.slice p n c z)] H K = true
theorem B_region_Region_frames_ {lf : Nat} {cl : Cl} (hlf : 10 ≤ lf) (hall : CTAll cl) (hbk : CBkAll cl) {H : AH} {g : Pn} {s : RgSt} {O : Pn → Prop} {old : List AS} {p : AP} {n z : Nat} {c : ACap} {K : AV → AH → Bool} (rg : RgS H g s O) (hl : s.th.length < 9000) (hoff : ∀ w ∈ s.wat, w.on = false)
    (hk : ∀ H', Le H H' → K (.s (.slice .nil 0 (.lit 0) 1)) H' = true) : B_region_Region_frames lf cl (.at g 0) old p n c z H K = true := by
  unfold B_region_Region_frames
  obtain ⟨f, Q, rb, hg, gg, q0, ho⟩ := rg
  obtain ⟨gt, e45, tt⟩ := rb.tab
  obtain ⟨gb, e47, bk, _⟩ := rb.book
  refine new_w fun g1 H1 h1 hg1 ng1 gg1 => ?_
  simp only [nilK_at, fN_eq, Nat.add_eq, Nat.zero_add]
  refine rowK_w ((h1.get _ hg).trans gg) (ldP_w (p := .at gt 0) (by rw [c48_get _ (by decide), e45]) ?_)
  refine hall _ _ _ _ _ (tt.le h1) (by omega) fun H2 p2 c2 z2 h2 sl2 => ?_
  rw [asSl_]
  have h12 := h1.trans h2
  refine rowK_w ((h12.get _ hg).trans gg) (ldP_w (p := .at gb 0) (by rw [c48_get _ (by decide), e47]) ?_)
  refine hbk _ _ _ _ (bk.le h12) fun H3 h3 => ?_
  rw [asG_]
  have hlen := bk.len
  refine loopX_w (fun x Hx => Le H Hx ∧ ∃ i : Nat, x = (.at g 0, (p, n, c, z), .at g1 0, (.nil, 0, .lit 0, 1), (p2, (allT s.th).length, c2, z2), wtsC s.wat, (i : Int)) ∧ i ≤ 4) (fun x => 4 - x.2.2.2.2.2.2.toNat) ⟨h12.trans h3, 0, rfl, by omega⟩ (by simp; omega) ?_
  rintro self x Hx ⟨hL, i, rfl, hi⟩ ih
  simp only [pR_, fB_eq, iLt_dec, fN_eq, Nat.mul_eq]
  refine ifA_w (fun hx => ?_) (fun _ => hk _ hL)
  have hx : i < 4 := by have := of_decide_eq_true hx; simp only [Int.ofNat_eq_natCast] at this; omega
  have hxl : i < s.wat.length := by omega
  have hseg := flat_at wtC_len s.wat i hxl
  have hon := hoff _ (List.getElem_mem hxl)
  generalize s.wat[i] = w at *
  refine idxK_w (by omega) (by omega) ?_
  rw [Int.toNat_natCast]
  refine ldG_we (ys := wtC w) (by rw [wtsC, flat_len wtC_len]; omega) (by decide) hseg ?_
  refine tmp_w rfl rfl fun g4 H4 h4 hg4 ng4 gg4 => ?_
  refine rowK_w gg4 (ldB_w (b := w.on) rfl ?_)
  rw [hon]
  refine ifA_w (fun _ => ?_) (fun h => by cases h)
  rw [iAdd_]
  exact w64_w (by simp only [Int.ofNat_eq_natCast]; omega) (by simp only [Int.ofNat_eq_natCast]; omega) (ih _ _ ⟨hL.trans h4, i + 1, by simp, by omega⟩ (by simp; omega))
/-! Notes in order, by themselves. -/
def insM (x : Nt) : List Nt → List Nt
  | [] => [x]
  | y :: r => if keyS x.src < keyS y.src then y :: insM x r else x :: y :: r
def srtRvM : List Nt → List Nt → List Nt
  | acc, [] => acc
  | acc, x :: r => srtRvM (insM x acc) r
def srtM (l : List Nt) : List Nt := (srtRvM [] l).reverse
theorem insP_snd (x : Rw × Nt) (hx : x.1.src = x.2.src) : ∀ l : List (Rw × Nt), (∀ y ∈ l, y.1.src = y.2.src) → (insP x l).map (·.2) = insM x.2 (l.map (·.2))
  | [], _ => rfl
  | y :: r, h => by
    unfold insP
    rw [List.map_cons, insM, hx, h y (by simp)]
    split
    · rw [List.map_cons, insP_snd x hx r fun z hz => h z (List.mem_cons_of_mem _ hz)]
    · rfl
theorem srtRvP_snd : ∀ (l acc : List (Rw × Nt)), (∀ y ∈ l, y.1.src = y.2.src) → (∀ y ∈ acc, y.1.src = y.2.src) → (srtRvP acc l).map (·.2) = srtRvM (acc.map (·.2)) (l.map (·.2))
  | [], _, _, _ => rfl
  | x :: r, acc, h1, h2 => by
    rw [srtRvP, srtRvP_snd r _ (fun y hy => h1 y (List.mem_cons_of_mem _ hy)) (fun y hy => by
      rcases insP_mem x y acc hy with e | e
      · rw [e]; exact h1 x (by simp)
      · exact h2 y e), insP_snd x (h1 x (by simp)) acc h2, List.map_cons, srtRvM]
theorem heardL_snd {H : AH} {f : Nat → AS} {s : RgSt} {l : List (Rw × Nt)} (hl : ∀ x ∈ l, NOf H x.1 x.2 ∧ SmN x.2) : (heardL f s l).map (·.2) = srtM (l.map (·.2) ++ [s.last]) := by
  unfold heardL srtP srtM
  rw [List.map_reverse, srtRvP_snd]
  · simp
  · intro y hy
    rcases List.mem_append.1 hy with h | h
    · exact (hl y h).1.src
    · rw [List.mem_singleton] at h; subst h; rfl
  · intro y hy; cases hy
/-! The end of a beat. -/
def layT (L : List (Int × Th)) (l : List Th) : List (Int × Th) := l.foldl (fun L t => aSet L t.id t) L
theorem layT_succ (L : List (Int × Th)) {l : List Th} {j : Nat} (h : j < l.length) : layT L (l.take (j + 1)) = aSet (layT L (l.take j)) (l[j]).id l[j] := by
  unfold layT
  rw [List.take_succ_eq_append_getElem h, List.foldl_append]
  rfl
theorem aSet_leT : ∀ (L : List (Int × Th)) (k : Int) (v : Th), (aSet L k v).length ≤ L.length + 1
  | [], k, v => by simp [aSet]
  | x :: r, k, v => by
    have := aSet_leT r k v
    unfold aSet
    split
    · simp
    · simp only [List.length_cons]; omega
theorem layT_le : ∀ (l : List Th) (L : List (Int × Th)), (layT L l).length ≤ L.length + l.length
  | [], _ => Nat.le_refl _
  | t :: r, L => by
    have h1 := layT_le r (aSet L t.id t)
    have h2 : ∀ (L : List (Int × Th)) (k : Int) (v : Th), (aSet L k v).length ≤ L.length + 1 := fun L => by
      induction L with
      | nil => intro k v; simp [aSet]
      | cons x r ih => intro k v; unfold aSet; split
                       · simp
                       · have := ih k v; simp only [List.length_cons]; omega
    have := h2 L t.id t
    show (layT (aSet L t.id t) r).length ≤ _
    rw [List.length_cons]
    omega
structure GoodT (t : Th) : Prop where
  on : On t.pt = true
  i0 : 0 ≤ t.id
  i1 : t.id ≤ 1000000
noncomputable def endS (s : RgSt) (nts : List Nt) : RgSt := leavesS { s with th := layT s.th (comesL s nts) }
/-- Nobody watches, nothing is handed on. -/
structure Quiet (s : RgSt) : Prop where
  h : s.hands = []
  w : s.watch = []
  off : ∀ w ∈ s.wat, w.on = false
structure QuietN (nt : Nt) : Prop where
  h : nt.hands = []
  g : nt.given = []
  w : nt.watch = []
  good : ∀ t ∈ nt.moved, GoodT t
end Go.Proofs
end
section
/- Regions: a beat ends. -/
namespace Go.Proofs
open Go Go.Vw Go.Vw.Ev
set_option linter.unusedVariables false
set_option linter.unusedSimpArgs false

def endN (s : RgSt) (l : List Nt) : List Nt := if s.beat = 0 then [] else srtM (l ++ [s.last])
def OkEnd (s : RgSt) (l : List Nt) : Prop := (s.beat = 0 ∧ l = []) ∨ (s.beat ≠ 0 ∧ chkN s 0 (srtM (l ++ [s.last])) = true ∧ ((l.length + 1 : Nat) : Int) = s.n)
theorem heard_ok {cl : Cl} (hh : CHeard cl) {H : AH} {g : Pn} {s : RgSt} {f : Nat → AS} {Q : Nat → Pn → Prop} {p : AP} {n z : Nat} {c : ACap} {l : List (Rw × Nt)} {K : AV → AH → Bool}
    (rb : RB H s f Q) (hg : H.has g) (gg : H.get g = some (.row (c48 f))) (sr : SR 6 H p n z ((l.map (·.1)).flatMap rwC)) (hl : ∀ x ∈ l, (NOf H x.1 x.2 ∧ SmN x.2) ∧ QuietN x.2) (hsl : SmN s.last) (hql : QuietN s.last) (hb0 : 0 ≤ s.beat ∧ s.beat ≤ 1000000) (hn : n < 3) (hok : OkEnd s (l.map (·.2)))
    (hk : ∀ Hh pN m cN zN (LN : List (Rw × Nt)), Le H Hh → SR 6 Hh pN m zN ((LN.map (·.1)).flatMap rwC) → (∀ x ∈ LN, (NOf Hh x.1 x.2 ∧ SmN x.2) ∧ QuietN x.2) → LN.map (·.2) = endN s (l.map (·.2)) → m ≤ 3 → K (.tup [.s (.slice pN m cN zN), .s (.bool true)]) Hh = true) :
    cl i_region_Region_heard [.s (.ptr (.at g 0)), .s (.slice p n c z)] H K = true := by
  have hln : l.length = n := by have := hds_n rwC_len (by decide) sr; rwa [List.length_map] at this
  refine hh H g s f Q p n c z l K rb hg gg sr (fun x hx => (hl x hx).1) hsl hb0 (by omega) (fun hz => ?_) (fun hz H' p' m c' z' b h' hT hF => ?_)
  · rcases hok with ⟨_, h0⟩ | ⟨h, _⟩
    · have hl0 : l = [] := List.map_eq_nil_iff.1 h0
      have hn0 : n = 0 := by rw [← hln, hl0]; rfl
      rw [decide_eq_true hn0]
      exact hk H .nil 0 _ 1 [] (Le.refl _) SR.nil (fun x hx => by cases hx) (by unfold endN; rw [if_pos hz]; rfl) (by omega)
    · exact absurd hz h
  · have hs := heardL_snd (f := f) (s := s) fun x hx => (hl x hx).1
    rcases hok with ⟨h, _⟩ | ⟨_, h1, h2⟩
    · exact absurd h hz
    · rw [List.length_map, hln] at h2
      cases b with
      | false =>
        have := hF rfl
        rw [hs, h1, Bool.true_and] at this
        exact absurd h2 (of_decide_eq_false this)
      | true =>
        obtain ⟨_, _, em, sr', _⟩ := hT rfl
        refine hk H' p' m c' z' (heardL f s l) h' sr' (fun x hx => ?_) (by rw [hs]; unfold endN; rw [if_neg hz]) (by omega)
        rcases List.mem_append.1 (srtP_mem hx) with h | h
        · exact ⟨⟨(hl x h).1.1.le h', (hl x h).1.2⟩, (hl x h).2⟩
        · rw [List.mem_singleton] at h; subst h
          exact ⟨⟨rb.last.le h', hsl⟩, hql⟩
theorem wts_leafy : ∀ l : List Wt, (wtsC l).all leafy = true
  | [] => rfl
  | w :: r => by
    show (wtC w ++ wtsC r).all leafy = true
    rw [List.all_append, wts_leafy r]; rfl
def CEnd0 (cl : Cl) : Prop := ∀ H g s O p n c z (l : List (Rw × Nt)) K, RgS H g s O → Sm s → s.th.length + (comesL s (endN s (l.map (·.2)))).length < 1000 → Quiet s → SmN s.last → QuietN s.last → (∀ t ∈ s.was, GoodT t) → s.was.length < 2000 → SR 6 H p n z ((l.map (·.1)).flatMap rwC) → (∀ x ∈ l, (NOf H x.1 x.2 ∧ SmN x.2) ∧ QuietN x.2) → n < 3 → 0 ≤ s.beat ∧ s.beat ≤ 1000000 → OkEnd s (l.map (·.2)) →
  (∀ H' r O', Fr O H H' → RgS H' g (endS s (endN s (l.map (·.2)))) O' → (∀ a, O' a → O a ∨ ¬ H.has a) → NOf H' r (endS s (endN s (l.map (·.2)))).last → (∀ a, ownW r a → ¬ H.has a ∧ ¬ O' a) → K (.tup [.agg (rwC r), .s (.slice .nil 0 (.lit 0) 1), .s (.int .i64 0)]) H' = true) →
  cl i_region_Region_End [.s (.ptr (.at g 0)), .s (.slice p n c z)] H K = true
theorem B_region_Region_End_ {lf : Nat} {cl : Cl} (hlf : 100000 ≤ lf) (hheard : CHeard cl) (hbk : CBkAll cl) (htn : CTNew cl) (hlay : CTLay cl) (hcomes : CComes cl) (hall : CTAll cl) (hfr : CFrames0 cl) (hlv : CLeaves cl) (hcopy : CNCopy cl) {H : AH} {g : Pn} {s : RgSt} {O : Pn → Prop} {p : AP} {n z : Nat} {c : ACap} {l : List (Rw × Nt)} {K : AV → AH → Bool}
    (rg : RgS H g s O) (sm : Sm s) (hth : s.th.length + (comesL s (endN s (l.map (·.2)))).length < 1000) (qs : Quiet s) (hsl : SmN s.last) (hql : QuietN s.last) (hwas : ∀ t ∈ s.was, GoodT t) (hwl : s.was.length < 2000) (sr : SR 6 H p n z ((l.map (·.1)).flatMap rwC)) (hl : ∀ x ∈ l, (NOf H x.1 x.2 ∧ SmN x.2) ∧ QuietN x.2) (hn : n < 3) (hb0 : 0 ≤ s.beat ∧ s.beat ≤ 1000000) (hok : OkEnd s (l.map (·.2)))
    (hk : ∀ H' r O', Fr O H H' → RgS H' g (endS s (endN s (l.map (·.2)))) O' → (∀ a, O' a → O a ∨ ¬ H.has a) → NOf H' r (endS s (endN s (l.map (·.2)))).last → (∀ a, ownW r a → ¬ H.has a ∧ ¬ O' a) → K (.tup [.agg (rwC r), .s (.slice .nil 0 (.lit 0) 1), .s (.int .i64 0)]) H' = true) :
    B_region_Region_End lf cl (.at g 0) p n c z H K = true := by
  unfold B_region_Region_End
  refine new_w fun g1 H1 h1 hg1 ng1 gg1 => ?_
  have rgH := rg
  have rg1 := rg.le h1
  obtain ⟨f, Q, rb, hg, gg, q0, ho⟩ := rg
  have rb1 := rb.fr (h1.fr fun _ => False) fun _ _ _ _ h => h
  refine heard_ok hheard rb1 (h1.has _ hg) ((h1.get _ hg).trans gg) (sr.le h1) (fun x hx => ⟨⟨(hl x hx).1.1.le h1, (hl x hx).1.2⟩, (hl x hx).2⟩) hsl hql hb0 hn hok fun H2 pN m cN zN LN h2 srN hN eN hm3 => ?_
  rw [← eN] at hk hth
  clear hl sr hok eN
  rw [tup2_, asSl_]
  refine arB_w ?_
  simp only [fB_eq]
  refine ifA_w (fun h => by cases h) (fun _ => ?_)
  have h02 := h1.trans h2
  obtain ⟨gb, e47, bk, _⟩ := rb.book
  simp only [nilK_at, fN_eq, Nat.add_eq, Nat.zero_add, Nat.add_zero]
  refine rowK_w ((h02.get _ hg).trans gg) (ldP_w (p := .at gb 0) (by rw [c48_get _ (by decide), e47]) ?_)
  refine hbk _ _ _ _ (bk.le h02) fun H3 h3 => ?_
  rw [asG_]
  have hwl4 : (wtsC s.wat).length = 28 := by rw [wtsC, flat_len wtC_len, bk.len]
  refine tmp_w hwl4 rfl fun go H4 h4 hgo ngo ggo => ?_
  have h34 := h3.trans h4
  have h04 := h02.trans h34
  have ngoH : ¬ H.has go := fun h => ngo ((h02.trans h3).has _ h)
  have srN4 := srN.le h34
  have hlnN : LN.length = m := by have := hds_n rwC_len (by decide) srN; rwa [List.length_map] at this
  -- a note of the row, read
  have rdN : ∀ {Hx : AH} {i : Nat} (hi : i < m) {K' : Pn → AH → Bool}, Le H4 Hx → (∀ g' Hy, Le Hx Hy → Hy.has g' → Hy.get g' = some (.row (rwC (LN[i]'(by omega)).1)) → K' g' Hy = true) →
      nilK pN (fun g39 o40 => idxK (i : Int) m fun m41 => rowK Hx g39 fun cs43 => ldG cs43 (o40 + Nat.mul m41 6) 6 fun cs44 => newK Hx (.row [AS.int .i64 (Int.ofNat 0), AS.int .i64 (Int.ofNat 0), AS.slice AP.nil 0 (.lit 0) 1, AS.slice AP.nil 0 (.lit 0) 1, AS.slice AP.nil 0 (.lit 0) 1, AS.slice AP.nil 0 (.lit 0) 1]) fun g45 h46 => stoN h46 g45 0 6 cs44 fun h47 => K' g45 h47) = true := by
    intro Hx i hi K' hx hK
    obtain ⟨b, rfl, hb, gb'⟩ := srN4.at (by omega)
    have hx1 : i < (LN.map (·.1)).length := by rw [List.length_map]; omega
    have hseg := flat_at rwC_len (LN.map (·.1)) i hx1
    rw [List.getElem_map] at hseg
    have hfl := srN4.1
    simp only [nilK_at, fN_eq, Nat.add_eq, Nat.mul_eq, Nat.zero_add]
    refine idxK_w (by omega) (by omega) ?_
    rw [Int.toNat_natCast]
    refine rowK_w ((hx.get _ hb).trans gb') (ldG_we (ys := rwC (LN[i]'(by omega)).1) (by omega) (by decide) hseg ?_)
    exact tmp_w rfl rfl fun g' Hy hy hg' _ gg' => hK g' Hy hy hg' gg'
  -- watchers: none
  refine loopX_w (fun x Hx => Le H4 Hx ∧ ∃ i : Nat, x = (.at g 0, .at g1 0, (pN, m, cN, zN), .at go 0, (pN, m, cN, zN), (m : Int), (i : Int)) ∧ i ≤ m) (fun x => m - x.2.2.2.2.2.2.toNat) ⟨Le.refl _, 0, rfl, by omega⟩ (by simp; omega) ?_
  rintro self x H5 ⟨hL5, i, rfl, hi⟩ ih
  simp only [pR_, iLt_dec]
  refine ifA_w (fun hx => ?_) (fun hx => ?_)
  · have hx : i < m := by have := of_decide_eq_true hx; omega
    refine rdN hx hL5 fun g' Hy hy hg' gg' => ?_
    obtain ⟨⟨no, _⟩, qn⟩ := hN _ (List.getElem_mem (show i < LN.length by omega))
    obtain ⟨pw, cw, zw, ew, _, _⟩ := no.w
    rw [qn.w] at ew
    refine rowK_w gg' (ldSl_w (p := pw) (n := 0) (c := cw) (z := zw) (by show some (LN[i]'(by omega)).1.w = _; rw [ew]; rfl) ?_)
    refine loopX_w (fun y Hz => Hz = Hy ∧ y = (.at g 0, .at g1 0, (pN, m, cN, zN), .at go 0, (pN, m, cN, zN), (m : Int), (i : Int), (pw, 0, cw, zw), Int.ofNat 0, Int.ofNat 0)) (fun _ => 0) ⟨rfl, rfl⟩ (by omega) ?_
    rintro self2 y Hz ⟨rfl, rfl⟩ _
    simp only [pR_, iLt_dec]
    refine ifA_w (fun h => absurd (of_decide_eq_true h) (by decide)) (fun _ => ?_)
    rw [iAdd_]
    exact w64_w (by simp only [Int.ofNat_eq_natCast]; omega) (by simp only [Int.ofNat_eq_natCast]; omega) (ih _ _ ⟨hL5.trans hy, i + 1, by simp, by omega⟩ (by simp; omega))
  clear ih self hx hi i
  -- hands: none
  refine loopX_w (fun x Hx => Le H4 Hx ∧ ∃ i : Nat, x = (.at g 0, .at g1 0, (pN, m, cN, zN), .at go 0, (pN, m, cN, zN), (m : Int), (i : Int)) ∧ i ≤ m) (fun x => m - x.2.2.2.2.2.2.toNat) ⟨hL5, 0, rfl, by omega⟩ (by simp; omega) ?_
  clear hL5 H5
  rintro self x H5 ⟨hL5, i, rfl, hi⟩ ih
  simp only [pR_, iLt_dec]
  refine ifA_w (fun hx => ?_) (fun hx => ?_)
  · have hx : i < m := by have := of_decide_eq_true hx; omega
    refine rdN hx hL5 fun g' Hy hy hg' gg' => ?_
    obtain ⟨⟨no, _⟩, qn⟩ := hN _ (List.getElem_mem (show i < LN.length by omega))
    obtain ⟨pw, cw, zw, ew, _, _⟩ := no.h
    rw [qn.h] at ew
    refine rowK_w gg' (ldSl_w (p := pw) (n := 0) (c := cw) (z := zw) (by show some (LN[i]'(by omega)).1.h = _; rw [ew]; rfl) ?_)
    refine loopX_w (fun y Hz => Hz = Hy ∧ y = (.at g 0, .at g1 0, (pN, m, cN, zN), .at go 0, .at g' 0, (pN, m, cN, zN), (m : Int), (i : Int), (pw, 0, cw, zw), Int.ofNat 0, Int.ofNat 0)) (fun _ => 0) ⟨rfl, rfl⟩ (by omega) ?_
    rintro self2 y Hz ⟨rfl, rfl⟩ _
    simp only [pR_, iLt_dec]
    refine ifA_w (fun h => absurd (of_decide_eq_true h) (by decide)) (fun _ => ?_)
    rw [iAdd_]
    exact w64_w (by simp only [Int.ofNat_eq_natCast]; omega) (by simp only [Int.ofNat_eq_natCast]; omega) (ih _ _ ⟨hL5.trans hy, i + 1, by simp, by omega⟩ (by simp; omega))
  clear ih self hx hi i rdN
  have h05 := h04.trans hL5
  refine htn _ _ fun H6 gB OB h6 tB oB => ?_
  rw [asP_]
  have h06 := h05.trans h6
  have oBH : ∀ a, OB a → ¬ H5.has a := oB
  obtain ⟨pW, cW, zW, e4, srW⟩ := rb.s4
  refine rowK_w ((h06.get _ hg).trans gg) (ldSl_w (by rw [c48_get _ (by decide), e4]) ?_)
  have srW6 := srW.le h06
  have hg1_5 := (h2.trans (h34.trans hL5)).has _ hg1
  have g1_5 := ((h2.trans (h34.trans hL5)).get _ hg1).trans gg1
  have go_5 := (hL5.get _ hgo).trans ggo
  have hgo_5 := hL5.has _ hgo
  -- as it was
  refine loopX_w (fun x Hx => Le H5 Hx ∧ ∃ (i : Nat) (Lb : List (Int × Th)) (Ob : Pn → Prop), x = (.at g 0, .at g1 0, (pN, m, cN, zN), .at go 0, .at gB 0, (pW, s.was.length, cW, zW), (s.was.length : Int), (i : Int)) ∧ i ≤ s.was.length ∧ TT Hx gB Lb Ob ∧ (∀ a, Ob a → ¬ H5.has a) ∧ Lb.length ≤ i) (fun x => s.was.length - x.2.2.2.2.2.2.2.toNat)
    ⟨h6, 0, [], OB, rfl, by omega, tB, oB, Nat.le_refl _⟩ (by simp; omega) ?_
  clear tB oB oBH h6 h06 srW6 H6 OB
  rintro self x H6 ⟨h6, i, Lb, Ob, rfl, hi, tB, oB, hLb⟩ ih
  simp only [pR_, iLt_dec]
  refine ifA_w (fun hx => ?_) (fun hx => ?_)
  · have hx : i < s.was.length := by have := of_decide_eq_true hx; omega
    have hseg := flat_at thC_len' s.was i hx
    have hgood := hwas _ (List.getElem_mem hx)
    have srW6 := srW.le (h05.trans h6)
    generalize s.was[i] = t at *
    obtain ⟨b, rfl, hb, gb'⟩ := srW6.at (by omega)
    have hfl := srW6.1
    simp only [nilK_at, fN_eq, Nat.add_eq, Nat.mul_eq, Nat.zero_add]
    refine idxK_w (by omega) (by omega) ?_
    rw [Int.toNat_natCast]
    refine rowK_w gb' (ldG_we (ys := thC t) (by omega) (by decide) hseg ?_)
    refine tmp_w rfl rfl fun gc H7 h7 hgc ngc ggc => ?_
    refine rowK_w ggc (ldG_we (ys := thC t) (lb rfl) (by decide) rfl ?_)
    refine hlay _ _ _ _ _ _ (tB.le h7) hgood.on hgood.i0 (by have := hgood.i1; omega) (by omega) fun H8 O8 f8 t8 o8 => ?_
    rw [tup0_, iAdd_]
    have h58 : Le H5 H8 := ⟨fun a ha => f8.has a (h7.has a (h6.has a ha)), fun a ha => (f8.get a (h7.has a (h6.has a ha)) fun h => oB a h ha).trans ((h7.get a (h6.has a ha)).trans (h6.get a ha))⟩
    exact w64_w (by simp only [Int.ofNat_eq_natCast]; omega) (by simp only [Int.ofNat_eq_natCast]; omega) (ih _ _ ⟨h58, i + 1, _, O8, by simp, by omega, t8, fun a ha h => (o8 a ha).elim (fun h' => oB a h' h) fun h' => h' (h7.has a (h6.has a h)), by have := aSet_leT Lb t.id t; omega⟩ (by simp; omega))
  have hLb2 : Lb.length < 2000 := by omega
  clear ih self hx hi hLb i
  -- what comes
  have hcl := comes_le s (l := LN.map (·.2)) fun x hx => by
    obtain ⟨y, hy, rfl⟩ := List.mem_map.1 hx
    exact (hN y hy).1.2
  rw [List.length_map, hlnN] at hcl
  have h06 := h05.trans h6
  refine hcomes _ _ _ _ _ _ _ _ LN _ (rgH.le h06) (srN4.le (hL5.trans h6)) (fun x hx => ⟨(hN x hx).1.1.le (h34.trans (hL5.trans h6)), (hN x hx).1.2⟩) (by omega) fun H7 pC cC zC h7 srC oC => ?_
  rw [asSl_]
  have hgoodC : ∀ t ∈ comesL s (LN.map (·.2)), GoodT t := fun t ht => by
    unfold comesL at ht
    obtain ⟨h1, _⟩ := List.mem_filter.1 ht
    obtain ⟨nt, hnt, hmem⟩ := List.mem_flatMap.1 h1
    obtain ⟨x, hx, rfl⟩ := List.mem_map.1 hnt
    unfold bothT at hmem
    rw [(hN x hx).2.g, List.append_nil] at hmem
    exact (hN x hx).2.good t hmem
  have hend : endS s (LN.map (·.2)) = leavesS { s with th := layT s.th (comesL s (LN.map (·.2))) } := rfl
  generalize comesL s (LN.map (·.2)) = cm at *
  have h57 := h6.trans h7
  have h07 := h05.trans h57
  have rb7 := rb.fr (h07.fr fun _ => False) fun _ _ _ _ h => h
  have gg7 := (h07.get _ hg).trans gg
  have hg7 := h07.has _ hg
  have QH : ∀ i a, Q i a → H.has a := rb.qh
  have q45g : ¬ Q 45 g := fun h => absurd (rb.dis 45 0 g h ((q0 g).2 rfl)) (by decide)
  obtain ⟨gt, e45, _⟩ := rb.tab
  refine loopX_w (fun x Hx => ∃ (i : Nat) (Lb : List (Int × Th)) (Ob X : Pn → Prop), x = (.at g 0, .at g1 0, .at go 0, .at gB 0, (pC, cm.length, cC, zC), (cm.length : Int), (i : Int)) ∧ i ≤ cm.length ∧ TT Hx gB Lb Ob ∧ (∀ a, Ob a → ¬ H5.has a) ∧ Lb.length ≤ 2000 + i ∧
      RB Hx { s with th := layT s.th (cm.take i) } f (updA Q 45 X) ∧ Fr (Q 45) H5 Hx ∧ (∀ a, X a → Q 45 a ∨ ¬ H5.has a) ∧ (∀ a, X a → ¬ Ob a) ∧ SR 11 Hx pC cm.length zC (thsC cm) ∧ (∀ a, ownP pC a → ¬ Ob a ∧ ¬ X a ∧ ¬ H5.has a)) (fun x => cm.length - x.2.2.2.2.2.2.toNat)
    ⟨0, Lb, Ob, Q 45, rfl, by omega, tB.le h7, oB, by omega, by rw [updA_self]; exact rb7, h57.fr _, fun a h => .inl h, fun a h h' => oB a h' (h05.has a (QH _ _ h)), srC, fun a ha => ⟨fun h => oC a ha (tB.has a h), fun h => oC a ha (h06.has a (QH _ _ h)), fun h => oC a ha (h6.has a h)⟩⟩ (by simp; omega) ?_
  clear tB oB srC oC rb7 gg7 hg7 h57 h07 hLb2 h7 H7 h06 h6 H6 Lb Ob
  rintro self x H8 ⟨i, Lb, Ob, X, rfl, hi, tB, oB, hLb, rby, fy, xo, xb, srC, oC⟩ ih
  simp only [pR_, iLt_dec]
  have hcm : cm.length ≤ 6000 := by omega
  have q0y : ∀ a, updA Q 45 X 0 a ↔ a = g := fun a => by rw [updA_ne _ _ (by decide)]; exact q0 a
  have gg5 := (h05.get _ hg).trans gg
  have gg8 := (fy.get _ (h05.has _ hg) q45g).trans gg5
  have hg8 := fy.has _ (h05.has _ hg)
  have obR : ∀ i a, i ≠ 0 → updA Q 45 X i a → ¬ Ob a := fun i a _ h h' => by
    by_cases e : i = 45
    · subst e
      rw [updA_same] at h
      exact xb a h h'
    · rw [updA_ne _ _ e] at h
      exact oB a h' (h05.has a (QH _ _ h))
  refine ifA_w (fun hx => ?_) (fun hx => ?_)
  · have hx : i < cm.length := by have := of_decide_eq_true hx; omega
    have hseg := flat_at thC_len' cm i hx
    have hgood := hgoodC _ (List.getElem_mem hx)
    have hls := layT_succ s.th hx
    have hll := layT_le (cm.take i) s.th
    rw [List.length_take] at hll
    generalize cm[i] = t at *
    obtain ⟨b, rfl, hb, gb'⟩ := srC.at (by omega)
    have hfl := srC.1
    simp only [nilK_at, fN_eq, Nat.add_eq, Nat.mul_eq, Nat.zero_add]
    refine idxK_w (by omega) (by omega) ?_
    rw [Int.toNat_natCast]
    refine rowK_w gb' (ldG_we (ys := thC t) (by omega) (by decide) hseg ?_)
    refine tmp_w rfl rfl fun gc H9 h9 hgc ngc ggc => ?_
    refine rowK_w ggc (ldG_we (ys := thC t) (lb rfl) (by decide) rfl ?_)
    have ht1 : t.id ≤ 9223372036854775807 := by have := hgood.i1; omega
    refine hlay _ _ _ _ _ _ (tB.le h9) hgood.on hgood.i0 ht1 (by omega) fun HA OA fA tA oA => ?_
    rw [tup0_]
    have hgcO : ¬ Ob gc := fun h => ngc (tB.has _ h)
    have gcA := (fA.get _ hgc hgcO).trans ggc
    have hgcA := fA.has _ hgc
    have hgOb : ¬ Ob g := fun h => oB g h (h05.has _ hg)
    have ggA := (fA.get _ (h9.has _ hg8) hgOb).trans ((h9.get _ hg8).trans gg8)
    refine rowK_w ggA (ldP_w (p := .at gt 0) (by rw [c48_get _ (by decide), e45]) ?_)
    refine rowK_w gcA (ldG_we (ys := thC t) (lb rfl) (by decide) rfl ?_)
    have rbA := (rby.fr (h9.fr fun _ => False) fun _ _ _ _ h => h).fr fA obR
    obtain ⟨gt', e45', ttA⟩ := rbA.tab
    obtain rfl : gt' = gt := by rw [e45] at e45'; cases e45'; rfl
    rw [updA_same] at ttA
    have e45A : updA Q 45 X 45 = X := updA_same _ _ _
    refine hlay HA gt' (layT s.th (cm.take i)) X t _ ttA hgood.on hgood.i0 ht1 (by omega) fun HB OB' fB' tB' oB' => ?_
    have rbB := rbA.tabOp e45 (by rw [e45A]; exact fB') tB' (by rw [e45A]; exact oB')
    rw [updA_updA] at rbB
    rw [tup0_, iAdd_]
    have OAx : ∀ a, OA a → ¬ X a := fun a ha hX => by
      rcases oA a ha with h | h
      · exact xb a hX h
      · exact h (h9.has _ (rby.qh 45 a (by rw [updA_same]; exact hX)))
    refine w64_w (by simp only [Int.ofNat_eq_natCast]; omega) (by simp only [Int.ofNat_eq_natCast]; omega) (ih _ _ ⟨i + 1, _, OA, OB', by simp, by omega, tA.fr fB' (fun a ha h => OAx a ha h), fun a ha h => ?_, ?_, by rw [hls]; exact rbB, ?_, fun a h => ?_, fun a h h' => ?_, ?_, fun a ha => ⟨fun h => ?_, fun h => ?_, (oC a ha).2.2⟩⟩ (by simp; omega))
    · rcases oA a ha with h' | h'
      · exact oB a h' h
      · exact h' (h9.has _ (fy.has _ h))
    · have := aSet_leT Lb t.id t; omega
    · refine ⟨fun a ha => fB'.has a (fA.has a (h9.has a (fy.has a ha))), fun a ha hq => ?_⟩
      have n1 : ¬ Ob a := fun h => oB a h ha
      have n2 : ¬ X a := fun h => (xo a h).elim hq fun h' => h' ha
      exact (fB'.get a (fA.has a (h9.has a (fy.has a ha))) n2).trans ((fA.get a (h9.has a (fy.has a ha)) n1).trans ((h9.get a (fy.has a ha)).trans (fy.get a ha hq)))
    · rcases oB' a h with h' | h'
      · exact xo a h'
      · exact .inr fun h'' => h' (fA.has _ (h9.has _ (fy.has _ h'')))
    · rcases oB' a h with h1 | h1
      · exact OAx a h' h1
      · exact h1 (tA.has a h')
    · exact ((srC.le h9).fr fA fun a ha h => (oC a ha).1 h).fr fB' fun a ha h => (oC a ha).2.1 h
    · rcases oA a h with h' | h'
      · exact (oC a ha).1 h'
      · exact h' (h9.has _ (srC.has a ha))
    · rcases oB' a h with h' | h'
      · exact (oC a ha).2.1 h'
      · exact h' (fA.has _ (h9.has _ (srC.has a ha)))
  have hx : i = cm.length := by have := of_decide_eq_false hx; omega
  rw [hx, List.take_length] at rby
  clear ih self hi srC oC
  have hth2 := layT_le cm s.th
  have q45o : ¬ Q 45 go := fun h => ngoH (QH _ _ h)
  have q451 : ¬ Q 45 g1 := fun h => ng1 (QH _ _ h)
  have go8 := (fy.get _ hgo_5 q45o).trans go_5
  have hgo8 := fy.has _ hgo_5
  have g18 := (fy.get _ hg1_5 q451).trans g1_5
  have hg18 := fy.has _ hg1_5
  simp only [nilK_at]
  refine getK_w go8 (rowK_w go8 (ldG_we (ys := wtsC s.wat) (by rw [hwl4]; decide) (by decide) (by rw [List.drop_zero, ← hwl4, List.take_length]) ?_))
  refine hall _ _ _ _ _ tB (by omega) fun H9 pA cA zA h9 slA => ?_
  refine okK_w (kSame_row ((h9.get _ hgo8).trans go8) (wts_leafy _) rfl) ?_
  rw [asSl_]
  have rg8 : RgS H8 g { s with th := layT s.th cm } (fun a => ∃ i, updA Q 45 X i a) := ⟨f, updA Q 45 X, rby, hg8, gg8, q0y, fun _ => Iff.rfl⟩
  refine hfr _ _ _ _ _ _ _ _ _ _ (rg8.le h9) (by show (layT s.th cm).length < 9000; omega) qs.off fun HC hC => ?_
  rw [asSl_]
  have h8C := h9.trans hC
  have smC : Sm { s with th := layT s.th cm } := ⟨by show (layT s.th cm).length < 9000; omega, sm.g0, sm.g1, sm.hl, sm.lhl, sm.ol, sm.t0⟩
  refine hlv _ _ _ _ _ (rg8.le h8C) smC qs.h hb0 fun HD r0 OD fD rgD oD noD wD => ?_
  rw [asG_]
  have Xo : ∀ a, (∃ i, updA Q 45 X i a) → O a ∨ ¬ H5.has a := fun a ⟨i, h⟩ => by
    by_cases e : i = 45
    · subst e
      rw [updA_same] at h
      exact (xo a h).imp (fun h => (ho a).2 ⟨45, h⟩) fun h => h
    · rw [updA_ne _ _ e] at h
      exact .inl ((ho a).2 ⟨i, h⟩)
  have hsmL : SmN (leavesS { s with th := layT s.th cm }).last := by
    refine ⟨?_, by show s.hands.length < 1000; rw [qs.h]; decide, by show (0 : Nat) < 1000; decide, by show s.watch.length < 1000; rw [qs.w]; decide⟩
    show (goneL { s with th := layT s.th cm }).length < 1000
    have := List.length_filter_le (goneB { s with th := layT s.th cm }) ((allT (layT s.th cm)).map (thOf (layT s.th cm)))
    rw [List.length_map, allT_len] at this
    unfold goneL
    refine Nat.lt_of_le_of_lt this ?_
    omega
  refine hcopy _ _ _ _ noD hsmL fun HE r hE noE oE => ?_
  rw [asG_]
  have nX1 : ¬ ∃ i, updA Q 45 X i g1 := fun h => (Xo g1 h).elim (fun h => ng1 (rgH.has _ h)) fun h => h hg1_5
  have hg1D := fD.has _ (h8C.has _ hg18)
  have g1D := (fD.get _ (h8C.has _ hg18) nX1).trans ((h8C.get _ hg18).trans g18)
  have g1E := (hE.get _ hg1D).trans g1D
  have nD1 : ¬ OD g1 := fun h => (oD g1 h).elim nX1 fun h => h (h8C.has _ hg18)
  refine stoN_we (ds := rwC r) g1E rfl (by simp) (by simp [rwC]) (rowK_w (get_put _ _ _) (ldG_we (ys := rwC r) (Nat.le_refl 6) (by decide) rfl ?_))
  have fF : Fr (fun a => a = g1) HE (HE.put g1 (.row (rwC r))) := (Fr.refl (fun a => a = g1) _).put (.inl rfl) _
  have h0C : ∀ a, H.has a → HC.has a := fun a ha => h8C.has a (fy.has a (h05.has a ha))
  rw [hend] at hk
  refine hk _ r OD ⟨fun a ha => fF.has a (hE.has a (fD.has a (h0C a ha))), fun a ha hn => ?_⟩ ((rgD.le hE).fr fF fun a ha e => nD1 (e ▸ ha)) (fun a ha => ?_) (noE.fr fF fun a ha e => oE a ha (e ▸ hg1D)) fun a ha => ⟨fun h => oE a ha (fD.has a (h0C a h)), fun h => oE a ha (rgD.has a h)⟩
  · have n1 : a ≠ g1 := fun e => ng1 (e ▸ ha)
    have n2 : ¬ ∃ i, updA Q 45 X i a := fun h => (Xo a h).elim hn fun h => h (h05.has a ha)
    have n3 : ¬ Q 45 a := fun h => hn ((ho a).2 ⟨45, h⟩)
    exact (fF.get a (hE.has a (fD.has a (h0C a ha))) n1).trans ((hE.get a (fD.has a (h0C a ha))).trans ((fD.get a (h0C a ha) n2).trans ((h8C.get a (fy.has a (h05.has a ha))).trans ((fy.get a (h05.has a ha) n3).trans (h05.get a ha)))))
  · rcases oD a ha with h | h
    · exact (Xo a h).imp (fun h => h) fun h h' => h (h05.has a h')
    · exact .inr fun h' => h (h0C a h')
end Go.Proofs
end
section
/- RegionCross: states and two regions at once. -/
namespace Go.Proofs
open Go Go.Vw Go.Vw.Ev
set_option linter.unusedVariables false
set_option linter.unusedSimpArgs false

/-- What a quiet region is, as far as laws go. -/
structure Sx (s : RgSt) (id n beat : Int) (th : List (Int × Th)) (was : List Th) (last : Nt) (k : Nat) : Prop where
  ow : s.ow = owInit n
  id : s.id = id
  n : s.n = n
  beat : s.beat = beat
  th : s.th = th
  was : s.was = was
  last : s.last = last
  h : s.hands = []
  w : s.watch = []
  off : ∀ w ∈ s.wat, w.on = false
  t0 : 0 ≤ s.took
  tk : s.took ≤ k
  g0 : 0 ≤ s.given
  g1 : s.given ≤ k
  ol : s.order.length ≤ k
theorem Sx.sm {s : RgSt} {id n beat : Int} {th : List (Int × Th)} {was : List Th} {last : Nt} {k : Nat} (x : Sx s id n beat th was last k) (hk : k ≤ 1000) (hl : th.length < 9000) (hh : last.hands = []) : Sm s :=
  ⟨by rw [x.th]; exact hl, x.g0, by have := x.g1; omega, by rw [x.h]; decide, by rw [x.last, hh]; decide, by have := x.ol; omega, x.t0⟩
theorem Sx.quiet {s : RgSt} {id n beat : Int} {th : List (Int × Th)} {was : List Th} {last : Nt} {k : Nat} (x : Sx s id n beat th was last k) : Quiet s := ⟨x.h, x.w, x.off⟩
theorem Sx.new {id n : Int} (hn : clamp4 n = n) (hi : 0 ≤ id ∧ id < n) : Sx (newS id n) id n 0 [] [] nt0 0 :=
  ⟨by show owInit (clamp4 n) = _; rw [hn], by show min (max id 0) (clamp4 n - 1) = id; rw [hn]; omega, hn, rfl, rfl, rfl, rfl, rfl, rfl, fun w hw => by
    have : w = wt0 := List.eq_of_mem_replicate hw
    rw [this]; rfl, Int.le_refl _, Int.le_refl _, Int.le_refl _, Int.le_refl _, Nat.le_refl _⟩
theorem Sx.has {s : RgSt} {id n beat : Int} {th : List (Int × Th)} {was : List Th} {last : Nt} {k : Nat} (x : Sx s id n beat th was last k) {c : Nat} (hc : c < 16) : hasB s c = decide (Int.tmod c n = id) := by
  unfold hasB
  rw [x.ow, owInit_at hc, x.id, isC_iff.2 ⟨by omega, by omega⟩, Bool.true_and]
theorem Sx.mine {s : RgSt} {id n beat : Int} {th : List (Int × Th)} {was : List Th} {last : Nt} {k : Nat} (x : Sx s id n beat th was last k) (hh : last.hands = []) (c : Int) : mineB s c = hasB s c := by
  unfold mineB handB
  rw [x.h, x.last, hh]
  simp
theorem takeE_is {s : RgSt} {c : Cm} (h : IsCm c = true) (ht : s.took < 20) : takeE s c = doesE s c := by unfold takeE; rw [if_neg (by rw [h]; decide), if_neg (by omega)]
theorem doesE_ne {s : RgSt} {c : Cm} (hk : c.kind ≠ 1) (h : checkE s.th c ≠ 16) : doesE s c = checkE s.th c := by
  unfold doesE
  rw [if_neg (fun e => hk e.1), if_neg (fun e => hk e.1), if_neg (fun e => h e.1)]
  split
  · rfl
  · rename_i e
    rw [if_neg (fun e => hk e.1)]
    by_cases e' : checkE s.th c = 0
    · exact e'.symm
    · exact absurd e' e
theorem doesE_put {s : RgSt} {p : Pt} (hon : On p = true) (hm : mineB s (ofC p) = true) (hl : s.th.length < 200) (hn : putN s ≤ 1000000) : doesE s (putC p) = if fullT s.th p = true then 16 else 0 := by
  unfold doesE
  rw [if_neg (fun e => e.2 (ofE_of hon)), if_neg (fun e => by rw [show (putC p).pt = p from rfl, hm] at e; cases e.2), if_neg (fun e => absurd (show (1 : Int) = 2 from e.2.1) (by decide)), check_put hon hl]
  by_cases hf : fullT s.th p = true
  · rw [if_pos hf, if_pos (by decide)]
  · rw [if_neg hf, if_neg (by decide), if_neg (fun e => by have := e.2; omega)]
/-- A command that is taken. -/
theorem take_ok {s : RgSt} {c : Cm} (h : takeE s c = 0) : takeI s c = (if c.kind = 1 then putN s else c.id) ∧
    takeS s c = upS (if c.kind = 1 then { s with th := aSet s.th (putN s) (putT c (putN s)), given := s.given + 1 } else { s with th := doneL s.th c 0 }) (if c.kind = 1 then putN s else c.id) c := by
  have hd : doesE s c = 0 := by
    unfold takeE at h
    split at h
    · cases h
    · split at h
      · cases h
      · exact h
  have e1 : doesI s c = (if c.kind = 1 then putN s else c.id) := by unfold doesI; rw [if_neg (fun e => e hd)]
  have e2 : doesS s c = (if c.kind = 1 then { s with th := aSet s.th (putN s) (putT c (putN s)), given := s.given + 1 } else { s with th := doneL s.th c 0 }) := by unfold doesS; rw [if_neg (fun e => e hd)]
  exact ⟨by unfold takeI; rw [if_neg (fun e => e h), e1], by unfold takeS; rw [if_neg (fun e => e h), e1, e2]⟩
theorem Sx.take {s : RgSt} {id n beat : Int} {th : List (Int × Th)} {was : List Th} {last : Nt} {k : Nat} (x : Sx s id n beat th was last k) {c : Cm} (h : takeE s c = 0) :
    Sx (takeS s c) id n beat (if c.kind = 1 then aSet th (putN s) (putT c (putN s)) else doneL th c 0) was last (k + 1) := by
  rw [(take_ok h).2]
  have t0 := x.t0
  have tk := x.tk
  have g0 := x.g0
  have g1 := x.g1
  have ol := x.ol
  by_cases hk : c.kind = 1
  · rw [if_pos hk, if_pos hk]
    exact ⟨x.ow, x.id, x.n, x.beat, by show aSet s.th _ _ = _; rw [x.th, if_pos hk], x.was, x.last, x.h, x.w, x.off, by show 0 ≤ s.took + 1; omega, by show s.took + 1 ≤ _; omega, by show 0 ≤ s.given + 1; omega, by show s.given + 1 ≤ _; omega, by show (s.order ++ [_]).length ≤ _; rw [List.length_append, List.length_singleton]; omega⟩
  · rw [if_neg hk, if_neg hk]
    exact ⟨x.ow, x.id, x.n, x.beat, by show doneL s.th _ _ = _; rw [x.th, if_neg hk], x.was, x.last, x.h, x.w, x.off, by show 0 ≤ s.took + 1; omega, by show s.took + 1 ≤ _; omega, g0, by show s.given ≤ _; omega, by show (s.order ++ [_]).length ≤ _; rw [List.length_append, List.length_singleton]; omega⟩
theorem take_no {s : RgSt} {c : Cm} (h : takeE s c ≠ 0) : takeS s c = s := by unfold takeS; rw [if_pos h]
/-- A beat's end. -/
theorem Sx.done {s : RgSt} {id n beat : Int} {th : List (Int × Th)} {was : List Th} {last : Nt} {k : Nat} (x : Sx s id n beat th was last k) (nts : List Nt) {go : List Th} (hg : goneL { s with th := layT s.th (comesL s nts) } = go) :
    Sx (endS s nts) id n (beat + 1) (dropT (layT th (comesL s nts)) go) ((allT (dropT (layT th (comesL s nts)) go)).map (thOf (dropT (layT th (comesL s nts)) go))) ⟨id, beat, go, [], [], []⟩ k := by
  unfold endS leavesS
  rw [hg, x.th]
  have g1 := x.g1
  have ol := x.ol
  refine ⟨x.ow, x.id, x.n, by show s.beat + 1 = _; rw [x.beat], rfl, rfl, ?_, rfl, rfl, x.off, Int.le_refl _, by show (0 : Int) ≤ k; omega, x.g0, g1, ol⟩
  show (⟨s.id, s.beat, go, s.hands, [], s.watch⟩ : Nt) = _
  rw [x.id, x.beat, x.h, x.w]
/-! Two regions. -/
structure CS (H0 H : AH) (ga : Pn) (sa : RgSt) (Oa : Pn → Prop) (gb : Pn) (sb : RgSt) (Ob : Pn → Prop) (P : Pn → Prop) : Prop where
  le : Le H0 H
  a : RgS H ga sa Oa
  b : RgS H gb sb Ob
  an : ∀ x, Oa x → ¬ H0.has x
  bn : ∀ x, Ob x → ¬ H0.has x
  ap : ∀ x, Oa x → ¬ Ob x
  kp : ∀ x, P x → H.has x ∧ ¬ Oa x ∧ ¬ Ob x
section
variable {H0 H H' : AH} {ga gb : Pn} {sa sb s' : RgSt} {Oa Ob O' P P' : Pn → Prop}
theorem CS.le' (c : CS H0 H ga sa Oa gb sb Ob P) (k : Le H H') : CS H0 H' ga sa Oa gb sb Ob P := ⟨c.le.trans k, c.a.le k, c.b.le k, c.an, c.bn, c.ap, fun x h => ⟨k.has _ (c.kp x h).1, (c.kp x h).2⟩⟩
theorem CS.opA (c : CS H0 H ga sa Oa gb sb Ob P) (f : Fr Oa H H') (r : RgS H' ga s' O') (o : ∀ x, O' x → Oa x ∨ ¬ H.has x) : CS H0 H' ga s' O' gb sb Ob P :=
  ⟨⟨fun x h => f.has x (c.le.has x h), fun x h => (f.get x (c.le.has x h) fun h' => c.an x h' h).trans (c.le.get x h)⟩, r, c.b.fr f fun x h h' => c.ap x h' h, fun x h h' => (o x h).elim (fun e => c.an x e h') fun e => e (c.le.has x h'), c.bn,
    fun x h h' => (o x h).elim (fun e => c.ap x e h') fun e => e (c.b.has x h'), fun x h => ⟨f.has _ (c.kp x h).1, fun h' => (o x h').elim (c.kp x h).2.1 fun e => e (c.kp x h).1, (c.kp x h).2.2⟩⟩
theorem CS.opB (c : CS H0 H ga sa Oa gb sb Ob P) (f : Fr Ob H H') (r : RgS H' gb s' O') (o : ∀ x, O' x → Ob x ∨ ¬ H.has x) : CS H0 H' ga sa Oa gb s' O' P :=
  ⟨⟨fun x h => f.has x (c.le.has x h), fun x h => (f.get x (c.le.has x h) fun h' => c.bn x h' h).trans (c.le.get x h)⟩, c.a.fr f fun x h h' => c.ap x h h', r, c.an, fun x h h' => (o x h).elim (fun e => c.bn x e h') fun e => e (c.le.has x h'),
    fun x h h' => (o x h').elim (fun e => c.ap x h e) fun e => e (c.a.has x h), fun x h => ⟨f.has _ (c.kp x h).1, (c.kp x h).2.1, fun h' => (o x h').elim (c.kp x h).2.2 fun e => e (c.kp x h).1⟩⟩
theorem CS.add (c : CS H0 H ga sa Oa gb sb Ob P) (h : ∀ x, P' x → H.has x ∧ ¬ Oa x ∧ ¬ Ob x) : CS H0 H ga sa Oa gb sb Ob (fun x => P x ∨ P' x) := { c with kp := fun x hx => hx.elim (c.kp x) (h x) }
theorem CS.gA (c : CS H0 H ga sa Oa gb sb Ob P) (f : Fr Oa H H') {x : Pn} (hx : P x) : H'.get x = H.get x := f.get x (c.kp x hx).1 (c.kp x hx).2.1
theorem CS.gB (c : CS H0 H ga sa Oa gb sb Ob P) (f : Fr Ob H H') {x : Pn} (hx : P x) : H'.get x = H.get x := f.get x (c.kp x hx).1 (c.kp x hx).2.2
end
end Go.Proofs
end
section
/- RegionCross: the walk. -/
namespace Go.Proofs
open Go Go.Vw Go.Vw.Ev
set_option linter.unusedVariables false
set_option linter.unusedSimpArgs false

def T0 : Th := ⟨0, ⟨1, 0⟩, fdZ, fdZ, fdZ, fdZ⟩
def T1 (to : Pt) : Th := ⟨0, to, fdZ, fdZ, fdZ, fdZ⟩
def T2 (to : Pt) (v : Int) : Th := ⟨0, to, ⟨v, []⟩, fdZ, fdZ, fdZ⟩
theorem one_all (t : Th) (h : t.id = 0) : (allT [(0, t)]).map (thOf [(0, t)]) = [t] := rfl
theorem isF_v (v : Int) : IsF ⟨v, []⟩ = true := by simp [IsF]
structure ToOk (to : Pt) : Prop where
  x0 : 16 ≤ to.x
  x1 : to.x < 32
  y0 : 0 ≤ to.y
  y1 : to.y < 16
theorem ToOk.on {to : Pt} (h : ToOk to) : On to = true := by
  have := h.x0; have := h.x1; have := h.y0; have := h.y1
  exact on_of (by omega) (by omega) (by omega) (by omega)
theorem ToOk.cell {to : Pt} (h : ToOk to) : ofC to = ((1 : Nat) : Int) := by
  have := h.x0; have := h.x1; have := h.y0; have := h.y1
  unfold ofC
  rw [if_pos h.on]
  unfold cellOf
  rw [show to.x / 16 = 1 by omega, show to.y / 16 = 0 by omega]
  rfl
theorem isT2 {to : Pt} (h : ToOk to) (v : Int) : IsTh (T2 to v) = true := by
  unfold IsTh T2
  simp only [h.on, isF_v, isF_Z]
  rfl
theorem cross_put : takeE (newS 0 2) (putC ⟨1, 0⟩) = 0 := by
  have hon : On ⟨1, 0⟩ = true := by decide
  have x := Sx.new (id := 0) (n := 2) (by decide) (by decide)
  rw [takeE_is (by rw [isCm_put, on_near hon]) (by decide), doesE_put hon (by
    rw [x.mine rfl, show ofC ⟨1, 0⟩ = ((0 : Nat) : Int) by decide, x.has (by decide)]; decide) (by decide) (by decide), full_small _ (by decide)]
  rfl
theorem cross_move {s : RgSt} {id n beat : Int} {was : List Th} {last : Nt} {k : Nat} (x : Sx s id n beat [(0, T0)] was last k) (hk : k < 20) {to : Pt} (h : ToOk to) : takeE s (moveC 0 to) = 0 := by
  have tk := x.tk
  have hck : checkE s.th (moveC 0 to) = 0 := by
    rw [x.th, check_move (by decide) (by decide) (on_near h.on), if_neg (by decide), if_neg (by rw [h.on]; decide), if_neg (fun e => by rw [full_small _ (by decide)] at e; cases e.2)]
  rw [takeE_is (by rw [isCm_move _ _ (by decide) (by decide), on_near h.on]) (by omega), doesE_ne (show ¬ (2 : Int) = 1 by decide) (by rw [hck]; decide), hck]
theorem cross_set {s : RgSt} {id n beat : Int} {was : List Th} {last : Nt} {k : Nat} {t : Th} (x : Sx s id n beat [(0, t)] was last k) (hk : k < 20) (v : Int) : takeE s (setC 0 0 ⟨v, []⟩) = 0 := by
  have tk := x.tk
  have hck : checkE s.th (setC 0 0 ⟨v, []⟩) = 0 := by
    rw [x.th, check_set (by decide) (by decide) (by decide) (by decide) (isF_v v)]
    rfl
  rw [takeE_is (isCm_set _ _ _ (by decide) (by decide) (by decide) (by decide) (isF_v v)) (by omega), doesE_ne (show ¬ (3 : Int) = 1 by decide) (by rw [hck]; decide), hck]
theorem cross_drop {s : RgSt} {id n beat : Int} {was : List Th} {last : Nt} {k : Nat} {th : List (Int × Th)} (x : Sx s id n beat th was last k) (hk : k < 20) : takeE s (dropC 0) = if (aGet th 0).isSome = true then 0 else 15 := by
  have tk := x.tk
  have hck : checkE s.th (dropC 0) = if (aGet th 0).isSome = true then 0 else 15 := by rw [x.th, check_drop (by decide) (by decide)]
  rw [takeE_is (isCm_drop _ (by decide) (by decide)) (by omega), doesE_ne (show ¬ (4 : Int) = 1 by decide) (by rw [hck]; split <;> decide), hck]
theorem quiet0 (src beat : Int) : QuietN ⟨src, beat, [], [], [], []⟩ := ⟨rfl, rfl, rfl, fun t h => by cases h⟩
theorem sm0 (src beat : Int) : SmN ⟨src, beat, [], [], [], []⟩ := ⟨by show (0 : Nat) < 1000; decide, by show (0 : Nat) < 1000; decide, by show (0 : Nat) < 1000; decide, by show (0 : Nat) < 1000; decide⟩
theorem goodT2 {to : Pt} (h : ToOk to) (v : Int) : GoodT (T2 to v) := ⟨h.on, by show (0 : Int) ≤ 0; decide, by show (0 : Int) ≤ 1000000; decide⟩
theorem quiet1 {to : Pt} (h : ToOk to) (v src beat : Int) : QuietN ⟨src, beat, [T2 to v], [], [], []⟩ := ⟨rfl, rfl, rfl, fun t ht => by rw [List.mem_singleton] at ht; subst ht; exact goodT2 h v⟩
theorem sm1 (t : Th) (src beat : Int) : SmN ⟨src, beat, [t], [], [], []⟩ := ⟨by show (1 : Nat) < 1000; decide, by show (0 : Nat) < 1000; decide, by show (0 : Nat) < 1000; decide, by show (0 : Nat) < 1000; decide⟩
theorem note0 (src : Int) (hs : 0 ≤ src ∧ src < 2) : noteB ⟨src, 0, [], [], [], []⟩ 2 = true := by
  unfold noteB hdsB thsB
  simp
  omega
theorem note1 {to : Pt} (h : ToOk to) (v : Int) : noteB ⟨0, 0, [T2 to v], [], [], []⟩ 2 = true := by
  unfold noteB hdsB thsB thsB
  rw [isT2 h]
  simp [pvB, handB]
  omega
/-- The thing left a. -/
theorem cross_gone {s : RgSt} {beat : Int} {was : List Th} {last : Nt} {k : Nat} {to : Pt} {v : Int} (x : Sx s 0 2 beat [(0, T2 to v)] was last k) (h : ToOk to) : goneL { s with th := layT s.th (comesL s []) } = [T2 to v] := by
  show goneL { s with th := s.th } = _
  unfold goneL
  show ((allT s.th).map (thOf s.th)).filter (goneB { s with th := s.th }) = _
  rw [x.th, one_all _ rfl]
  have : goneB { s with th := s.th } (T2 to v) = true := by
    show (!hasB s (ofC to)) = true
    rw [h.cell, x.has (by decide)]; decide
  rw [List.filter_cons, if_pos this]; rfl
/-- The other one has it. -/
theorem cross_stays {s : RgSt} {beat : Int} {was : List Th} {last : Nt} {k : Nat} {to : Pt} {v : Int} {b : Int} (x : Sx s 1 2 beat [] was last k) (h : ToOk to) :
    comesL s [⟨0, b, [T2 to v], [], [], []⟩, ⟨1, b, [], [], [], []⟩] = [T2 to v] ∧ goneL { s with th := layT s.th [T2 to v] } = [] := by
  have hh : hasB s (ofC to) = true := by rw [h.cell, x.has (by decide)]; decide
  refine ⟨?_, ?_⟩
  · show ([T2 to v] : List Th).filter (comesB s) = _
    have : comesB s (T2 to v) = true := by
      show (decide (ofE to = 0) && hasB s (ofC to)) = true
      rw [hh, ofE_of h.on]; rfl
    rw [List.filter_cons, if_pos this]; rfl
  · unfold goneL
    show ((allT (layT s.th [T2 to v])).map (thOf (layT s.th [T2 to v]))).filter (goneB s) = _
    rw [x.th]
    show ((allT [(0, T2 to v)]).map (thOf [(0, T2 to v)])).filter (goneB s) = _
    rw [one_all _ rfl]
    have : goneB s (T2 to v) = false := by
      show (!hasB s (ofC to)) = false
      rw [hh]; rfl
    rw [List.filter_cons, if_neg (by rw [this]; decide)]; rfl
theorem cross_none {s : RgSt} {n beat : Int} {id : Int} {was : List Th} {last : Nt} {k : Nat} (x : Sx s id n beat [] was last k) : goneL { s with th := layT s.th (comesL s []) } = [] := by
  show goneL { s with th := s.th } = _
  unfold goneL
  show ((allT s.th).map (thOf s.th)).filter _ = _
  rw [x.th]; rfl
/-- Nothing comes back. -/
theorem cross_back {s : RgSt} {beat : Int} {was : List Th} {last : Nt} {k : Nat} {to : Pt} {v : Int} {b : Int} (x : Sx s 0 2 beat [] was last k) (h : ToOk to) :
    comesL s [⟨0, b, [T2 to v], [], [], []⟩, ⟨1, b, [], [], [], []⟩] = [] ∧ goneL { s with th := layT s.th [] } = [] := by
  have hh : hasB s (ofC to) = false := by rw [h.cell, x.has (by decide)]; decide
  refine ⟨?_, ?_⟩
  · show ([T2 to v] : List Th).filter (comesB s) = _
    have : comesB s (T2 to v) = false := by
      show (decide (ofE to = 0) && hasB s (ofC to)) = false
      rw [hh, Bool.and_false]
    rw [List.filter_cons, if_neg (by rw [this]; decide)]; rfl
  · unfold goneL
    show ((allT s.th).map (thOf s.th)).filter _ = _
    rw [x.th]; rfl
end Go.Proofs
end
section
/- RegionCross: a thing that leaves for another server's cell. -/
namespace Go.Proofs
open Go Go.Vw Go.Vw.Ev
set_option linter.unusedVariables false
set_option linter.unusedSimpArgs false
set_option maxRecDepth 100000

theorem B_law18_RegionCross_ {lf : Nat} {cl : Cl} (hkn : ∀ H K, cl i_law18_known [] H K = K (.s (.bool true)) H) (hnew : CRgNew cl) (htake : CTakeD cl) (hend : CEnd0 cl) (hth : CRgThings cl) {x y v : Int} (hx : 0 ≤ x ∧ x ≤ 255) (hy : 0 ≤ y ∧ y ≤ 255) (hv : -32768 ≤ v ∧ v ≤ 32767)
    {H : AH} : B_law18_RegionCross lf cl x y v H isT = true := by
  unfold B_law18_RegionCross
  rw [hkn]
  refine arB_w ?_
  simp only [fB_eq]
  refine ifA_w (fun h => by cases h) (fun _ => ?_)
  refine hnew 0 2 _ _ fun H1 ga Oa h1 ra oa => ?_
  rw [asP_]
  refine hnew 1 2 _ _ fun H2 gb Ob h2 rb ob => ?_
  rw [asP_]
  have hX : 0 ≤ Int.tmod x 16 ∧ Int.tmod x 16 < 16 := by rw [Int.tmod_eq_emod_of_nonneg hx.1]; omega
  have hY : 0 ≤ Int.tmod y 16 ∧ Int.tmod y 16 < 16 := by rw [Int.tmod_eq_emod_of_nonneg hy.1]; omega
  simp only [fI_eq, iAdd_]
  show w64 (Int.tmod x 16) _ = true
  refine w64_w (by omega) (by omega) ?_
  show w64 (16 + Int.tmod x 16) _ = true
  refine w64_w (by omega) (by omega) ?_
  show w64 (Int.tmod y 16) _ = true
  refine w64_w (by omega) (by omega) ?_
  have hto : ToOk ⟨16 + Int.tmod x 16, Int.tmod y 16⟩ := ⟨by show 16 ≤ 16 + Int.tmod x 16; omega, by show 16 + Int.tmod x 16 < 32; omega, hY.1, hY.2⟩
  generalize Int.tmod x 16 = X at *
  generalize Int.tmod y 16 = Y at *
  refine tmp_w rfl rfl fun g16 H3 h3 hg16 ng16 gg16 => ?_
  replace gg16 : H3.get g16 = some (.row (ptC ⟨16 + X, Y⟩)) := gg16
  generalize hto' : (⟨16 + X, Y⟩ : Pt) = to at *
  have c0 : CS H H3 ga (newS 0 2) Oa gb (newS 1 2) Ob (fun z => z = g16) :=
    ⟨h1.trans (h2.trans h3), ra.le (h2.trans h3), rb.le h3, oa, fun a ha h => ob a ha (h1.has a h), fun a ha h => ob a h (ra.has a ha),
      fun z e => by subst e; exact ⟨hg16, fun h => ng16 (h2.has _ (ra.has _ h)), fun h => ng16 (rb.has _ h)⟩⟩
  clear h1 h2 h3 ra rb oa ob hg16 ng16
  have xa0 := Sx.new (id := 0) (n := 2) (by decide) (by decide)
  have xb0 := Sx.new (id := 1) (n := 2) (by decide) (by decide)
  have hE1 := cross_put
  have hp0 : putN (newS 0 2) = 0 := by decide
  have xa1 := xa0.take hE1
  have hI1 := (take_ok hE1).1
  rw [if_pos (show (putC ⟨1, 0⟩).kind = 1 from rfl), hp0] at xa1 hI1
  replace xa1 : Sx _ 0 2 0 [(0, T0)] [] nt0 1 := xa1
  have sm0' := xa0.sm (by decide) (by decide) rfl
  generalize newS 0 2 = a0 at *
  generalize newS 1 2 = b0 at *
  -- put
  refine fL_w ?_
  refine htake H3 ga a0 Oa (putC ⟨1, 0⟩) _ c0.a sm0' rfl (fun e => absurd (show (1 : Int) = 5 from e) (by decide)) fun H4 O4 f4 r4 o4 => ?_
  rw [tup2_, hE1, hI1]
  refine arI_w (arI_w ?_)
  have g16_4 := (c0.gA f4 rfl).trans gg16
  have c1 := c0.opA f4 r4 o4
  generalize takeS a0 (putC ⟨1, 0⟩) = a1 at *
  clear c0 f4 r4 o4 gg16 hE1 hI1 sm0' xa0 hp0
  -- move
  refine rowK_w g16_4 (ldG_we (ys := ptC to) (Nat.le_refl 2) (by decide) rfl ?_)
  refine okK_w rfl (fL_w ?_)
  have hE2 := cross_move xa1 (by decide) hto
  have xa2 := xa1.take hE2
  rw [if_neg (show ¬ (moveC 0 to).kind = 1 from fun e => absurd (show (2 : Int) = 1 from e) (by decide))] at xa2
  replace xa2 : Sx _ 0 2 0 [(0, T1 to)] [] nt0 2 := xa2
  refine htake H4 ga a1 O4 (moveC 0 to) _ c1.a (xa1.sm (by decide) (by decide) rfl) rfl (fun e => absurd (show (2 : Int) = 5 from e) (by decide)) fun H5 O5 f5 r5 o5 => ?_
  rw [tup2_, hE2]
  refine arI_w (arI_w ?_)
  have g16_5 := (c1.gA f5 rfl).trans g16_4
  have c2 := c1.opA f5 r5 o5
  generalize takeS a1 (moveC 0 to) = a2 at *
  generalize takeI a1 (moveC 0 to) = i2 at *
  clear c1 f5 r5 o5 g16_4 hE2 xa1
  -- set
  refine w64_w (by omega) (by omega) (fL_w ?_)
  have hE3 := cross_set xa2 (by decide) v
  have xa3 := xa2.take hE3
  rw [if_neg (show ¬ (setC 0 0 ⟨v, []⟩).kind = 1 from fun e => absurd (show (3 : Int) = 1 from e) (by decide))] at xa3
  replace xa3 : Sx _ 0 2 0 [(0, T2 to v)] [] nt0 3 := xa3
  refine htake H5 ga a2 O5 (setC 0 0 ⟨v, []⟩) _ c2.a (xa2.sm (by decide) (by show (1 : Nat) < 9000; decide) rfl) rfl (fun e => absurd (show (3 : Int) = 5 from e) (by decide)) fun H6 O6 f6 r6 o6 => ?_
  rw [tup2_, hE3]
  refine arI_w (arI_w ?_)
  have g16_6 := (c2.gA f6 rfl).trans g16_5
  have c3 := c2.opA f6 r6 o6
  generalize takeS a2 (setC 0 0 ⟨v, []⟩) = a3 at *
  generalize takeI a2 (setC 0 0 ⟨v, []⟩) = i3 at *
  clear c2 f6 r6 o6 g16_5 hE3 xa2
  -- a's beat ends
  have eN3 : endN a3 [] = [] := by unfold endN; rw [if_pos xa3.beat]
  have xa4 := xa3.done [] (cross_gone xa3 hto)
  replace xa4 : Sx _ 0 2 1 [] [] ⟨0, 0, [T2 to v], [], [], []⟩ 3 := xa4
  refine hend H6 ga a3 O6 .nil 0 _ 1 [] _ c3.a (xa3.sm (by decide) (by show (1 : Nat) < 9000; decide) rfl) (by rw [xa3.th, show endN a3 (([] : List (Rw × Nt)).map (·.2)) = [] from eN3]; show (1 : Nat) + 0 < 1000; decide) xa3.quiet (by rw [xa3.last]; exact sm0 0 0) (by rw [xa3.last]; exact quiet0 0 0) (by rw [xa3.was]; intro t h; cases h) (by rw [xa3.was]; decide) SR.nil (fun x h => by cases h) (by decide) (by rw [xa3.beat]; decide) (.inl ⟨xa3.beat, rfl⟩) fun H7 rm O7 f7 r7 o7 nm wm => ?_
  rw [tup3_, asG_, asSl_]
  refine arI_w ?_
  rw [show endN a3 (([] : List (Rw × Nt)).map (·.2)) = [] from eN3] at r7 nm
  have g16_7 := (c3.gA f7 rfl).trans g16_6
  have c4 := c3.opA f7 r7 o7
  rw [xa4.last] at nm
  generalize endS a3 [] = a4 at *
  refine tmp_w rfl rfl fun g51 H8 h8 hg51 ng51 gg51 => ?_
  have c5 := (c4.le' h8).add (P' := fun z => z = g51 ∨ ownW rm z) fun z hz => by
    rcases hz with e | hz
    · subst e; exact ⟨hg51, fun h => ng51 (c4.a.has _ h), fun h => ng51 (c4.b.has _ h)⟩
    · exact ⟨h8.has _ (nm.has _ hz), (wm z hz).2, fun h => (wm z hz).1 (c3.b.has _ h)⟩
  have nm8 := nm.le h8
  have g16_8 := (h8.get _ (c4.kp _ rfl).1).trans g16_7
  clear c3 c4 f7 r7 o7 nm wm h8 hg51 ng51 g16_7 g16_6 eN3 xa3
  -- b's beat ends
  have eNb : endN b0 [] = [] := by unfold endN; rw [if_pos xb0.beat]
  have xb1 := xb0.done [] (cross_none xb0)
  replace xb1 : Sx _ 1 2 1 [] [] ⟨1, 0, [], [], [], []⟩ 0 := xb1
  refine hend H8 gb b0 Ob .nil 0 _ 1 [] _ c5.b (xb0.sm (by decide) (by decide) rfl) (by rw [xb0.th, show endN b0 (([] : List (Rw × Nt)).map (·.2)) = [] from eNb]; show (0 : Nat) + 0 < 1000; decide) xb0.quiet (by rw [xb0.last]; exact sm0 0 0) (by rw [xb0.last]; exact quiet0 0 0) (by rw [xb0.was]; intro t h; cases h) (by rw [xb0.was]; decide) SR.nil (fun x h => by cases h) (by decide) (by rw [xb0.beat]; decide) (.inl ⟨xb0.beat, rfl⟩) fun H9 ro O9 f9 r9 o9 no wo => ?_
  rw [tup3_, asG_, asSl_]
  refine arI_w ?_
  rw [show endN b0 (([] : List (Rw × Nt)).map (·.2)) = [] from eNb] at r9 no
  have g16_9 := (c5.gB f9 (.inl rfl)).trans g16_8
  have g51_9 := (c5.gB f9 (.inr (.inl rfl))).trans gg51
  have nm9 := nm8.fr f9 fun a h => (c5.kp a (.inr (.inr h))).2.2
  have c6 := c5.opB f9 r9 o9
  rw [xb1.last] at no
  generalize endS b0 [] = b1 at *
  refine tmp_w rfl rfl fun g62 HA hA hg62 ng62 gg62 => ?_
  have c7 := (c6.le' hA).add (P' := fun z => z = g62 ∨ ownW ro z) fun z hz => by
    rcases hz with e | hz
    · subst e; exact ⟨hg62, fun h => ng62 (c6.a.has _ h), fun h => ng62 (c6.b.has _ h)⟩
    · exact ⟨hA.has _ (no.has _ hz), fun h => (wo z hz).1 (c5.a.has _ h), (wo z hz).2⟩
  have nmA := nm9.le hA
  have noA := no.le hA
  have g16_A := (hA.get _ (c6.kp _ (.inl rfl)).1).trans g16_9
  have g51_A := (hA.get _ (c6.kp _ (.inr (.inl rfl))).1).trans g51_9
  clear c5 c6 f9 r9 o9 no wo hA hg62 ng62 g16_8 g16_9 g51_9 eNb xb0 nm8 nm9 gg51
  -- nobody has it
  have hE5 := cross_drop xa4 (by decide)
  replace hE5 : takeE a4 (dropC 0) = 15 := hE5
  have hE6 := cross_drop xb1 (by decide)
  replace hE6 : takeE b1 (dropC 0) = 15 := hE6
  have hn5 := take_no (s := a4) (c := dropC 0) (by rw [hE5]; decide)
  have hn6 := take_no (s := b1) (c := dropC 0) (by rw [hE6]; decide)
  refine htake HA ga a4 O7 (dropC 0) _ c7.a (xa4.sm (by decide) (by decide) rfl) rfl (fun e => absurd (show (4 : Int) = 5 from e) (by decide)) fun HB OB fB rB oB => ?_
  rw [tup2_, hE5]
  refine arI_w (arI_w ?_)
  rw [hn5] at rB
  have nmB := nmA.fr fB fun a h => (c7.kp a (.inl (.inr (.inr h)))).2.1
  have noB := noA.fr fB fun a h => (c7.kp a (.inr (.inr h))).2.1
  have g16_B := (c7.gA fB (.inl (.inl rfl))).trans g16_A
  have g51_B := (c7.gA fB (.inl (.inr (.inl rfl)))).trans g51_A
  have g62_B := (c7.gA fB (.inr (.inl rfl))).trans gg62
  have c8 := c7.opA fB rB oB
  clear c7 fB rB oB nmA noA g16_A g51_A gg62
  refine htake HB gb b1 O9 (dropC 0) _ c8.b (xb1.sm (by decide) (by decide) rfl) rfl (fun e => absurd (show (4 : Int) = 5 from e) (by decide)) fun HC OC fC rC oC => ?_
  rw [tup2_, hE6]
  refine arI_w (arI_w ?_)
  rw [hn6] at rC
  have nmC := nmB.fr fC fun a h => (c8.kp a (.inl (.inr (.inr h)))).2.2
  have noC := noB.fr fC fun a h => (c8.kp a (.inr (.inr h))).2.2
  have g16_C := (c8.gB fC (.inl (.inl rfl))).trans g16_B
  have g51_C := (c8.gB fC (.inl (.inr (.inl rfl)))).trans g51_B
  have g62_C := (c8.gB fC (.inr (.inl rfl))).trans g62_B
  have c9 := c8.opB fC rC oC
  clear c8 fC rC oC nmB noB g16_B g51_B g62_B hn5 hn6 hE5 hE6
  -- a's next beat
  refine rowK_w g62_C (ldG_we (ys := rwC ro) (Nat.le_refl 6) (by decide) rfl ?_)
  refine okK_w rfl (fL_w (okK_w rfl (new_w fun g80 HD hD hg80 ng80 gg80 => ?_)))
  have srO : SR 6 HD (.at g80 0) 1 6 ((([(ro, (⟨1, 0, [], [], [], []⟩ : Nt))] : List (Rw × Nt)).map (·.1)).flatMap rwC) := ⟨rfl, .inr ⟨g80, rfl, rfl, hg80, gg80⟩⟩
  have eNa : endN a4 [⟨1, 0, [], [], [], []⟩] = [⟨0, 0, [T2 to v], [], [], []⟩, ⟨1, 0, [], [], [], []⟩] := by unfold endN; rw [if_neg (by rw [xa4.beat]; decide), xa4.last]; rfl
  have okA : OkEnd a4 [⟨1, 0, [], [], [], []⟩] := .inr ⟨by rw [xa4.beat]; decide, by
    rw [xa4.last]
    show chkN a4 0 [⟨0, 0, [T2 to v], [], [], []⟩, ⟨1, 0, [], [], [], []⟩] = true
    unfold chkN chkN chkN
    rw [xa4.id, xa4.beat, xa4.n, note0 1 (by decide)]
    rfl, by rw [xa4.n]; rfl⟩
  obtain ⟨cb1, cb2⟩ := cross_back (v := v) (b := 0) xa4 hto
  have smA4 := xa4.sm (by decide) (by decide) rfl
  refine hend HD ga a4 OB (.at g80 0) 1 _ 6 [(ro, ⟨1, 0, [], [], [], []⟩)] _ (c9.a.le hD) smA4 (by rw [xa4.th, show endN a4 ([(ro, (⟨1, 0, [], [], [], []⟩ : Nt))].map (·.2)) = _ from eNa, cb1]; show (0 : Nat) + 0 < 1000; decide) xa4.quiet (by rw [xa4.last]; exact sm1 _ 0 0) (by rw [xa4.last]; exact quiet1 hto v 0 0) (by rw [xa4.was]; intro t h; cases h) (by rw [xa4.was]; decide) srO (fun x h => by
      rw [List.mem_singleton] at h; subst h
      exact ⟨⟨noC.le hD, sm0 1 0⟩, quiet0 1 0⟩) (by decide) (by rw [xa4.beat]; decide) okA fun HE rp OE fE rE oE np wp => ?_
  rw [tup3_, asG_, asSl_]
  refine arI_w ?_
  have g16_E := ((c9.le' hD).gA fE (.inl (.inl rfl))).trans ((hD.get _ (c9.kp _ (.inl (.inl rfl))).1).trans g16_C)
  have g51_E := ((c9.le' hD).gA fE (.inl (.inr (.inl rfl)))).trans ((hD.get _ (c9.kp _ (.inl (.inr (.inl rfl)))).1).trans g51_C)
  have nmE := (nmC.le hD).fr fE fun a h => (c9.kp a (.inl (.inr (.inr h)))).2.1
  have cA := (c9.le' hD).opA fE rE oE
  clear c9 fE rE oE np wp nmC noC g16_C g51_C g62_C hD hg80 ng80 gg80 srO okA
  refine tmp_w rfl rfl fun g90 HF hF hg90 ng90 gg90 => ?_
  have g16_F := (hF.get _ (cA.kp _ (.inl (.inl rfl))).1).trans g16_E
  have g51_F := (hF.get _ (cA.kp _ (.inl (.inr (.inl rfl)))).1).trans g51_E
  have nmF := nmE.le hF
  have cB := cA.le' hF
  clear cA hF hg90 ng90 gg90 g16_E g51_E nmE
  -- b's next beat
  refine rowK_w g51_F (ldG_we (ys := rwC rm) (Nat.le_refl 6) (by decide) rfl ?_)
  refine okK_w rfl (fL_w (okK_w rfl (new_w fun g96 HG hG hg96 ng96 gg96 => ?_)))
  have srM : SR 6 HG (.at g96 0) 1 6 ((([(rm, (⟨0, 0, [T2 to v], [], [], []⟩ : Nt))] : List (Rw × Nt)).map (·.1)).flatMap rwC) := ⟨rfl, .inr ⟨g96, rfl, rfl, hg96, gg96⟩⟩
  have eNB : endN b1 [⟨0, 0, [T2 to v], [], [], []⟩] = [⟨0, 0, [T2 to v], [], [], []⟩, ⟨1, 0, [], [], [], []⟩] := by unfold endN; rw [if_neg (by rw [xb1.beat]; decide), xb1.last]; rfl
  have okB : OkEnd b1 [⟨0, 0, [T2 to v], [], [], []⟩] := .inr ⟨by rw [xb1.beat]; decide, by
    rw [xb1.last]
    show chkN b1 0 [⟨0, 0, [T2 to v], [], [], []⟩, ⟨1, 0, [], [], [], []⟩] = true
    unfold chkN chkN chkN
    rw [xb1.id, xb1.beat, xb1.n, note1 hto v]
    rfl, by rw [xb1.n]; rfl⟩
  obtain ⟨cs1, cs2⟩ := cross_stays (v := v) (b := 0) xb1 hto
  have xb2 := xb1.done (go := []) [⟨0, 0, [T2 to v], [], [], []⟩, ⟨1, 0, [], [], [], []⟩] (by rw [cs1]; exact cs2)
  rw [cs1] at xb2
  replace xb2 : Sx _ 1 2 2 [(0, T2 to v)] _ ⟨1, 1, [], [], [], []⟩ 0 := xb2
  refine hend HG gb b1 OC (.at g96 0) 1 _ 6 [(rm, ⟨0, 0, [T2 to v], [], [], []⟩)] _ (cB.b.le hG) (xb1.sm (by decide) (by decide) rfl) (by rw [xb1.th, show endN b1 ([(rm, (⟨0, 0, [T2 to v], [], [], []⟩ : Nt))].map (·.2)) = _ from eNB, cs1]; show (0 : Nat) + 1 < 1000; decide) xb1.quiet (by rw [xb1.last]; exact sm0 1 0) (by rw [xb1.last]; exact quiet0 1 0) (by rw [xb1.was]; intro t h; cases h) (by rw [xb1.was]; decide) srM (fun x h => by
      rw [List.mem_singleton] at h; subst h
      exact ⟨⟨nmF.le hG, sm1 _ 0 0⟩, quiet1 hto v 0 0⟩) (by decide) (by rw [xb1.beat]; decide) okB fun HI rq OI fI rI oI nq wq => ?_
  rw [tup3_, asG_, asSl_]
  refine arI_w ?_
  rw [show endN b1 ([(rm, (⟨0, 0, [T2 to v], [], [], []⟩ : Nt))].map (·.2)) = _ from eNB] at rI
  have g16_I := ((cB.le' hG).gB fI (.inl (.inl rfl))).trans ((hG.get _ (cB.kp _ (.inl (.inl rfl))).1).trans g16_F)
  have g51_I := ((cB.le' hG).gB fI (.inl (.inr (.inl rfl)))).trans ((hG.get _ (cB.kp _ (.inl (.inr (.inl rfl)))).1).trans g51_F)
  have cC := (cB.le' hG).opB fI rI oI
  clear cB fI rI oI nq wq g16_F g51_F hG hg96 ng96 gg96 srM okB eNB
  generalize endS b1 [⟨0, 0, [T2 to v], [], [], []⟩, ⟨1, 0, [], [], [], []⟩] = b2 at *
  refine tmp_w rfl rfl fun gA6 HJ hJ hgA6 ngA6 ggA6 => ?_
  have g16_J := (hJ.get _ (cC.kp _ (.inl (.inl rfl))).1).trans g16_I
  have g51_J := (hJ.get _ (cC.kp _ (.inl (.inr (.inl rfl)))).1).trans g51_I
  have cD := cC.le' hJ
  clear cC hJ hgA6 ngA6 ggA6 g16_I g51_I
  -- the other one has it
  refine hth HJ gb b2 OI _ cD.b (by rw [xb2.th]; show (1 : Nat) < 9000; decide) fun HK pt ct zt hK slt => ?_
  rw [asSl_]
  have eal : (allT b2.th).map (thOf b2.th) = [T2 to v] := by rw [xb2.th]; rfl
  have eln : (allT b2.th).length = 1 := by rw [xb2.th]; rfl
  rw [eal, eln] at slt
  rw [eln]
  obtain ⟨gt, ept, _, ggt, hgt, ngt⟩ : ∃ g', pt = .at g' 0 ∧ zt = 11 ∧ HK.get g' = some (.row (thsC [T2 to v])) ∧ HK.has g' ∧ ¬ HJ.has g' := by
    rcases slt.rep with ⟨h, _⟩ | h
    · exact absurd h (by decide)
    · exact h
  subst ept
  have hE7 : takeE b2 (dropC 0) = 0 := cross_drop xb2 (by decide)
  have g16_K := (hK.get _ (cD.kp _ (.inl (.inl rfl))).1).trans g16_J
  have g51_K := (hK.get _ (cD.kp _ (.inl (.inr (.inl rfl)))).1).trans g51_J
  have cE := cD.le' hK
  refine htake HK gb b2 OI (dropC 0) _ cE.b (xb2.sm (by decide) (by show (1 : Nat) < 9000; decide) rfl) rfl (fun e => absurd (show (4 : Int) = 5 from e) (by decide)) fun HL OL fL rL oL => ?_
  rw [tup2_, hE7]
  refine arI_w (arI_w ?_)
  have g16_L := (cE.gB fL (.inl (.inl rfl))).trans g16_K
  have g51_L := (cE.gB fL (.inl (.inr (.inl rfl)))).trans g51_K
  have gt_L := (fL.get _ hgt fun h => ngt (cD.b.has _ h)).trans ggt
  obtain ⟨pm, cm, zm, em, _, _⟩ := nmF.m
  refine rowK_w g51_L (ldSl_w (p := pm) (n := 1) (c := cm) (z := zm) (by show some rm.m = _; rw [em]; rfl) ?_)
  simp only [nilK_at, fN_eq, Nat.add_eq, Nat.zero_add, Nat.add_zero]
  refine okK_w rfl (rowK_w gt_L (ldI_w (n := 0) rfl ?_))
  refine okK_w rfl (rowK_w gt_L (ldG_we (ys := ptC to) (by show (3 : Nat) ≤ 11; decide) (by decide) rfl ?_))
  refine rowK_w g16_L (ldG_we (ys := ptC to) (Nat.le_refl 2) (by decide) rfl ?_)
  refine okK_w rfl ?_
  rw [show cellsEqA (ptC to) (ptC to) = true by simp only [ptC, cellsEqA, cellEqA, iEq_dec, decide_true]]
  refine okK_w rfl (rowK_w gt_L (ldI_w (n := v) rfl ?_))
  refine w64_w (by omega) (by omega) ?_
  rw [iEq_dec v v, decide_eq_true rfl]
  rfl
end Go.Proofs
end
