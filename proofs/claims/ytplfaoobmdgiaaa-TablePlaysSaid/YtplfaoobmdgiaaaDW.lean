import Derived.Test.YtplfaoobmdgiaaaDV
import Derived.Test.YtplfaoobmdgiaaaVwRead3
section
/- TablePlays: the walk. -/
namespace Go.Proofs
open Go Go.Vw Go.Vw.Ev
set_option linter.unusedVariables false
set_option linter.unusedSimpArgs false

/-! A step, rows of steps. -/
structure Sp where
  w : Int
  c : Int
  x : Th
  r : Rc
def spC (s : Sp) : List AS := .int .i64 s.w :: .int .i64 s.c :: (thC s.x ++ rcC s.r)
theorem spC_len (s : Sp) : (spC s).length = 17 := rfl
theorem spC_x (s : Sp) : ((spC s).drop 2).take 11 = thC s.x := rfl
theorem spC_r (s : Sp) : ((spC s).drop 13).take 4 = rcC s.r := rfl
def spsC (l : List Sp) : List AS := l.flatMap spC
theorem spsC_len : ∀ l : List Sp, (spsC l).length = l.length * 17
  | [] => rfl
  | r :: l => by have := spsC_len l; simp only [spsC, List.flatMap_cons, List.length_append] at *; rw [this, spC_len, List.length_cons]; omega
theorem spsC_at : ∀ (l : List Sp) (i : Nat) (h : i < l.length), ((spsC l).drop (i * 17)).take 17 = spC l[i]
  | p :: l, 0, _ => rfl
  | p :: l, i + 1, h => by
    have := spsC_at l i (by simpa using h)
    simp only [List.getElem_cons_succ, spsC, List.flatMap_cons] at *
    rw [← this, show (i + 1) * 17 = (spC p).length + i * 17 by rw [spC_len]; omega, ← List.drop_drop, List.drop_left]
def InSp (H : AH) (p : AP) (n : Nat) (ts : List Sp) : Prop := ts.length = n ∧ (n ≠ 0 → ∃ g, p = .at g 0 ∧ H.has g ∧ H.get g = some (.fix (spsC ts)))
theorem InSp.le {H H' : AH} {p : AP} {n : Nat} {ts : List Sp} (h : InSp H p n ts) (k : Le H H') : InSp H' p n ts :=
  ⟨h.1, fun hn => (h.2 hn).imp fun g hg => ⟨hg.1, k.has g hg.2.1, (k.get g hg.2.1).trans hg.2.2⟩⟩
theorem InSp.read {H : AH} {p : AP} {n : Nat} {ts : List Sp} (h : InSp H p n ts) {i : Nat} (hi : i < n) {K : List AS → Bool} (hk : K (spC (ts[i]'(by rw [h.1]; exact hi))) = true) :
    nilK p (fun g o => idxK (i : Int) n fun m => fN (Nat.add o (Nat.mul m 17)) fun o => rowK H g fun cs => ldG cs o 17 K) = true := by
  obtain ⟨g, rfl, hg, hrow⟩ := h.2 (by omega)
  simp only [nilK_at, fN_eq, Nat.add_eq, Nat.mul_eq, Nat.zero_add]
  have hl : (spsC ts).length = n * 17 := by rw [spsC_len, h.1]
  exact idxK_w (by omega) (by omega) (rowK_wf hrow (ldG_we (by rw [hl, Int.toNat_natCast]; omega) (by decide) (by rw [Int.toNat_natCast]; exact spsC_at ts i _) hk))
/-! The table is like the row. -/
theorem mkRow {H0 H : AH} {p : AP} {z : Nat} {L : List (Int × Th)} {ks : List Int} (h : Sl H0 H p ks.length z (thsC (ks.map (thOf L))) 11) : InT H p ks.length (ks.map (thOf L)) := Sl.inT h (List.length_map _)
def CAlike (cl : Cl) : Prop := ∀ H g L O p n c z ts s K, TT H g L O → InT H p n ts → RowOf L ts → n ≤ 100 → (∀ H', Le H H' → K (.s (.bool true)) H' = true) → cl i_law9_alike [.s (.ptr (.at g 0)), .s (.slice p n c z), .agg (spC s)] H K = true
theorem cell_row {L : List (Int × Th)} {ts : List Th} (h : RowOf L ts) (hn : (aKeys L).Nodup) (hid : IdOk L) (c : Int) : (cellT L c).map (thOf L) = if isC c = true then ts.filter (inP (cellR c)) else [] := by
  unfold cellT
  split
  · exact in_row h hn hid _
  · rfl
theorem B_law9_alike_ {lf : Nat} {cl : Cl} (hrect : CRect3 cl) (hseen : CSeen cl) (hget : CTGet cl) (hat : CAt6 cl) (hall : CTAll cl) (hin : CTIn cl) (hcell : CTCell cl) (hlen : CTLen cl) (hsame : CSame6 cl)
    {H : AH} {g : Pn} {L : List (Int × Th)} {O : Pn → Prop} {p : AP} {n zz : Nat} {c : ACap} {ts : List Th} {s : Sp} {K : AV → AH → Bool} (tt : TT H g L O) (hI : InT H p n ts) (hr : RowOf L ts) (hn : n ≤ 100)
    (hk : ∀ H', Le H H' → K (.s (.bool true)) H' = true) : B_law9_alike lf cl (.at g 0) p n c zz (spC s) H K = true := by
  obtain ⟨hnod, hid⟩ := tt.ids
  have hLn : L.length = n := by rw [← row_len hr hnod hid, hI.1]
  have allr := all_row hr hnod hid
  unfold B_law9_alike
  refine new_w fun gs H1 h1 hgs ngs ggs => ?_
  refine rowK_w ggs (ldI_w (n := s.c) rfl ?_)
  refine hrect _ _ _ fun H2 h2 => ?_
  rw [tup2_, asG_]
  refine arB_w (tmp_w rfl rfl fun ga H3 h3 hga nga gga => ?_)
  have h13 := h2.trans h3
  have h03 := h1.trans h13
  have gs3 := (h13.get _ hgs).trans ggs
  refine joinX_w (fun x Hx => Le H3 Hx ∧ ∃ (pc : AP) (nc : Nat) (cc : ACap) (zc : Nat) (us : List Th), x = (.at g 0, (p, n, c, zz), .at gs 0, (pc, nc, cc, zc)) ∧ InT Hx pc nc us ∧ us = (if isC s.c = true then ts.filter (inP (cellR s.c)) else [])) ?_ ?_
  · rintro ⟨x1, x2, x3, x4⟩ H4 ⟨h34, pc, nc, cc, zc, us, e, hus, eus⟩
    simp only [Prod.mk.injEq] at e
    obtain ⟨rfl, rfl, rfl, rfl⟩ := e
    rw [← cell_row hr hnod hid] at eus
    have h04 := h03.trans h34
    have gs4 := (h34.get _ (h13.has _ hgs)).trans gs3
    have hs4 := h34.has _ (h13.has _ hgs)
    simp only [pR_, nilK_at, fN_eq, Nat.add_eq, Nat.zero_add, Nat.add_zero]
    refine rowK_w gs4 (ldI_w (n := s.x.id) rfl ?_)
    refine hget H4 g L O _ _ (tt.le h04) fun H5 h5 => ?_
    rw [tup2_, asG_]
    refine arB_w (tmp_w rfl rfl fun gx H6 h6 hgx ngx ggx => ?_)
    have h46 := h5.trans h6
    have gs6 := (h46.get _ hs4).trans gs4
    refine rowK_w gs6 (ldI_w (n := s.x.id) rfl ?_)
    have h06 := h04.trans h46
    refine hat H6 p n c zz ts _ _ (hI.le h06) (by omega) fun r hr' => arI_w ?_
    have hmem := hr.mem hid s.x.id
    have hsome : (aGet L s.x.id).isSome = decide ((Int.ofNat 0) ≤ r) := by
      rcases hr' with ⟨h0, i, hi, e, he⟩ | ⟨h0, hno⟩
      · rw [decide_eq_true (show (Int.ofNat 0) ≤ r from h0)]
        exact hmem.2 ⟨_, List.getElem_mem hi, he⟩
      · rw [decide_eq_false (show ¬ (Int.ofNat 0) ≤ r by simp only [Int.ofNat_eq_natCast]; omega)]
        cases e : (aGet L s.x.id).isSome with
        | false => rfl
        | true =>
          obtain ⟨t, hm, ht⟩ := hmem.1 e
          exact absurd ht (hno t hm)
    refine hall H6 g L O _ (tt.le h06) (by omega) fun H7 p7 c7 z7 h7 sl7 => ?_
    rw [asSl_]
    have h07 := h06.trans h7
    refine hsame _ _ _ _ _ _ _ _ _ _ _ _ (mkRow sl7) (hI.le h07) (by rw [allT_len]; omega) fun b hb => arB_w ?_
    obtain rfl : b = true := hb.2 allr
    refine ifA_w (fun _ => ?_) (fun h => by cases h)
    have h47 := h46.trans h7
    have gs7 := (h47.get _ hs4).trans gs4
    have hs7 := h47.has _ hs4
    have ldr : ∀ {Hy : AH} {K : List AS → Bool}, Le H7 Hy → K (rcC s.r) = true → rowK Hy gs (fun cs => ldG cs 13 4 K) = true := fun k h => rowK_w ((k.get _ hs7).trans gs7) (ldG_we (by rw [spC_len]; decide) (by decide) (spC_r s) h)
    refine okK_w (ldr (Le.refl _) (okK_w ?_ (ldr (Le.refl _) ?_))) (ldr (Le.refl _) (ldr (Le.refl _) ?_))
    all_goals
      refine hin H7 g L O s.r _ (tt.le h07) (by omega) fun H8 p8 c8 z8 h8 sl8 => ?_
      rw [asSl_]
      try refine ldr h8 ?_
      have h08 := h07.trans h8
      refine hseen H8 p n c zz ts s.r _ (hI.le h08) (by omega) fun H9 p9 c9 z9 h9 sl9 => ?_
      rw [asSl_]
      have hli := inT_len L s.r
      refine hsame _ _ _ _ _ _ _ _ _ _ _ _ (mkRow (sl8.le h9)) (Sl.inT sl9 rfl) (by omega) fun b hb => arB_w ?_
      obtain rfl : b = true := hb.2 (in_row hr hnod hid s.r)
      refine ifA_w (fun _ => ?_) (fun h => by cases h)
      have h79 := h8.trans h9
      have h09 := h07.trans h79
      refine rowK_w ((h79.get _ hs7).trans gs7) (ldI_w (n := s.c) rfl ?_)
      refine hcell H9 g L O s.c _ (tt.le h09) (by omega) fun Ha pa ca za ha sla => ?_
      rw [asSl_]
      have hlc := inT_lenC L s.c
      have h4a := h47.trans (h79.trans ha)
      have h0a := h09.trans ha
      refine hsame _ _ _ _ _ _ _ _ _ _ _ _ (mkRow sla) (hus.le h4a) (by omega) fun b hb => arB_w ?_
      obtain rfl : b = true := hb.2 eus.symm
      refine ifA_w (fun _ => ?_) (fun h => by cases h)
      refine hlen Ha g L O _ (tt.le h0a) (arI_w ?_)
      rw [fB_eq, hLn, iEq_dec, decide_eq_true (show ((n : Nat) : Int) = Int.ofNat n from rfl)]
      refine ifA_w (fun _ => ?_) (fun h => by cases h)
      simp only [fB_eq, iLe_dec]
      rw [hsome]
      have eb : ∀ b : Bool, bEq b b = true := fun b => by cases b <;> rfl
      rw [eb]
      refine ifA_w (fun _ => ?_) (fun h => by cases h)
      refine ifA_w (fun h => hk _ h0a) (fun h => ?_)
      have h0r : (Int.ofNat 0) ≤ r := by
        have : decide ((Int.ofNat 0) ≤ r) = true := by simpa using h
        exact of_decide_eq_true this
      rcases hr' with ⟨h0, i, hi, e, he⟩ | ⟨h0, hno⟩
      · subst e
        have hin' : i < n := by rw [← hI.1]; exact hi
        have h6a := h7.trans (h79.trans ha)
        refine rowK_w ((h6a.get _ hgx).trans ggx) (ldG_we (by rw [thC_len]; decide) (by decide) (thC_all _) ?_)
        obtain ⟨g1, rfl, hh1, r1, l1, a1, i1⟩ := (hI.le h0a).at hin'
        simp only [nilK_at, fN_eq, Nat.add_eq, Nat.mul_eq, Nat.zero_add, Nat.add_zero]
        refine idxK_w (by omega) (by omega) (rowK_wo r1 (ldG_we (ys := thC ts[i]) (by rw [Int.toNat_natCast]; exact l1) (by decide) (by rw [Int.toNat_natCast]; exact a1) (okK_w rfl ?_)))
        have : thOf L s.x.id = ts[i] := thOf_get (by rw [← he]; exact (hr.2 _).1 (List.getElem_mem hi))
        rw [this, same_thT]
        exact hk _ h0a
      · exact absurd h0r (by simp only [Int.ofNat_eq_natCast]; omega)
  · intro J hJ
    refine ifA_w (fun h => ?_) (fun h => hJ _ _ ⟨Le.refl _, .nil, 0, _, _, [], rfl, ⟨rfl, fun h => absurd rfl h⟩, by rw [h]; rfl⟩)
    rw [if_pos h] at gga
    refine rowK_w gga (ldG_we (ys := rcC (cellR s.c)) (Nat.le_refl 4) (by decide) rfl ?_)
    refine hseen H3 p n c zz ts _ _ (hI.le h03) (by omega) fun H4 p4 c4 z4 h4 sl4 => ?_
    rw [asSl_]
    exact hJ _ _ ⟨h4, p4, _, c4, z4, _, rfl, Sl.inT sl4 rfl, by rw [if_pos h]⟩
/-! The table, the row, a step's block, a copy. -/
structure ST (H1 H : AH) (gs : Pn) (cs : List AS) (gc : Pn) (Lc : List (Int × Th)) (Oc : Pn → Prop) (g : Pn) (L : List (Int × Th)) (O : Pn → Prop) (p : AP) (n : Nat) (ts : List Th) : Prop where
  le : Le H1 H
  tt : TT H g L O
  fresh : ∀ a, O a → ¬ H1.has a
  row : InT H p n ts
  own : ∀ a, ownP p a → ¬ O a
  hgs : H.has gs
  get : H.get gs = some (.row cs)
  ngs : ¬ O gs
  tc : TT H gc Lc Oc
  ac : ∀ a, Oc a → ¬ O a ∧ a ≠ gs ∧ ¬ ownP p a ∧ ¬ H1.has a
theorem ownP_has {H : AH} {p : AP} {n : Nat} {ts : List Th} (h : InT H p n ts) (hn : n ≠ 0) : ∀ a, ownP p a → H.has a := by
  obtain ⟨g, rfl, hg, _⟩ := h.2 hn
  rintro a ⟨o, e⟩
  cases e; exact hg
theorem ST.le' {H1 H H' : AH} {gs : Pn} {cs : List AS} {gc : Pn} {Lc : List (Int × Th)} {Oc : Pn → Prop} {g : Pn} {L : List (Int × Th)} {O : Pn → Prop} {p : AP} {n : Nat} {ts : List Th} (s : ST H1 H gs cs gc Lc Oc g L O p n ts) (k : Le H H') : ST H1 H' gs cs gc Lc Oc g L O p n ts :=
  ⟨s.le.trans k, s.tt.le k, s.fresh, s.row.le k, s.own, k.has _ s.hgs, (k.get _ s.hgs).trans s.get, s.ngs, s.tc.le k, s.ac⟩
theorem ST.op {H1 H H' : AH} {gs : Pn} {cs : List AS} {gc : Pn} {Lc : List (Int × Th)} {Oc : Pn → Prop} {g : Pn} {L L' : List (Int × Th)} {O O' : Pn → Prop} {p : AP} {n : Nat} {ts : List Th} (s : ST H1 H gs cs gc Lc Oc g L O p n ts) (f : Fr O H H') (t : TT H' g L' O') (ho : ∀ a, O' a → O a ∨ ¬ H.has a) (hp : ∀ a, ownP p a → H.has a) : ST H1 H' gs cs gc Lc Oc g L' O' p n ts :=
  ⟨⟨fun a ha => f.has a (s.le.has a ha), fun a ha => (f.get a (s.le.has a ha) fun h => s.fresh a h ha).trans (s.le.get a ha)⟩, t,
    fun a ha => (ho a ha).elim (s.fresh a) fun h hh => h (s.le.has a hh), s.row.fr f s.own, fun a ha h => (ho a h).elim (s.own a ha) fun h => h (hp a ha), f.has _ s.hgs, (f.get _ s.hgs s.ngs).trans s.get,
    fun h => (ho _ h).elim s.ngs fun h => h s.hgs, s.tc.fr f fun a ha h => (s.ac a ha).1 h, fun a ha => ⟨fun h => (ho a h).elim (s.ac a ha).1 fun h => h (s.tc.has a ha), (s.ac a ha).2⟩⟩
theorem ST.row' {H1 H H' : AH} {gs : Pn} {cs : List AS} {gc : Pn} {Lc : List (Int × Th)} {Oc : Pn → Prop} {g : Pn} {L : List (Int × Th)} {O : Pn → Prop} {p q : AP} {n m z : Nat} {ts us : List Th} (s : ST H1 H gs cs gc Lc Oc g L O p n ts) (k : Le H H') (sl : Sl H H' q m z (thsC us) 11) : ST H1 H' gs cs gc Lc Oc g L O q m us :=
  ⟨s.le.trans k, s.tt.le k, s.fresh, Sl.inT sl (Sl.len2 sl), fun a ha h => ((Sl.own sl).1 a ha) (s.tt.has a h), k.has _ s.hgs, (k.get _ s.hgs).trans s.get, s.ngs, s.tc.le k, fun a ha => ⟨(s.ac a ha).1, (s.ac a ha).2.1, fun h => ((Sl.own sl).1 a h) (s.tc.has a ha), (s.ac a ha).2.2.2⟩⟩
theorem ST.tab {H1 H H' : AH} {gs : Pn} {cs : List AS} {gc : Pn} {Lc : List (Int × Th)} {Oc : Pn → Prop} {g g' : Pn} {L L' : List (Int × Th)} {O O' : Pn → Prop} {p : AP} {n : Nat} {ts : List Th} (s : ST H1 H gs cs gc Lc Oc g L O p n ts) (k : Le H H') (t : TT H' g' L' O') (ho : ∀ a, O' a → ¬ H.has a) (hp : ∀ a, ownP p a → H.has a) : ST H1 H' gs cs gc Lc Oc g' L' O' p n ts :=
  ⟨s.le.trans k, t, fun a ha h => ho a ha (s.le.has a h), s.row.le k, fun a ha h => ho a h (hp a ha), k.has _ s.hgs, (k.get _ s.hgs).trans s.get, fun h => ho _ h s.hgs, s.tc.le k, fun a ha => ⟨fun h => ho a h (s.tc.has a ha), (s.ac a ha).2⟩⟩
/-- What the row is, behind so many steps. -/
structure RP (L : List (Int × Th)) (ts : List Th) (k : Nat) : Prop where
  rof : RowOf L ts
  is : ∀ t ∈ ts, IsTh t = true
  len : ts.length ≤ k
theorem withF_len (t : Th) : ∀ (ts : List Th) (d : Bool), (withF t d ts).length ≤ ts.length + (if d = true then 0 else 1)
  | [], d => by unfold withF; cases d <;> simp
  | y :: r, d => by
    have := withF_len t r (d || decide (t.id ≤ y.id))
    unfold withF
    simp only [List.length_append, List.length_cons]
    cases d <;> by_cases h : t.id ≤ y.id <;> by_cases h2 : y.id = t.id <;> simp [h, h2] at this ⊢ <;> omega
theorem RP.set {L : List (Int × Th)} {ts : List Th} {k : Nat} (h : RP L ts k) {t : Th} (ht : IsTh t = true) : RP (aSet L t.id t) (withF t false ts) (k + 1) :=
  ⟨h.rof.set t, fun x hx => by
    rcases (withF_mem t ts false x).1 hx with ⟨h1, _⟩ | ⟨_, rfl⟩
    · exact h.is x h1
    · exact ht, by have := withF_len t ts false; have := h.len; simp at *; omega⟩
theorem RP.up {L : List (Int × Th)} {ts : List Th} {k : Nat} (h : RP L ts k) : RP L ts (k + 1) := ⟨h.rof, h.is, by have := h.len; omega⟩
theorem RP.del {L : List (Int × Th)} {ts : List Th} {k : Nat} (h : RP L ts k) (id : Int) : RP (aDel L id) (ts.filter (notId id)) (k + 1) :=
  ⟨h.rof.del id, fun x hx => h.is x (List.mem_filter.1 hx).1, by have := List.length_filter_le (notId id) ts; have := h.len; omega⟩
/-- Laid again. -/
theorem putAll_row : ∀ {ts : List Th} {L : List (Int × Th)}, (∀ t ∈ ts, IsTh t = true) → ts.Pairwise (fun a b => a.id < b.id) → (∀ t ∈ ts, aGet L t.id = none) → L.length + ts.length ≤ 200 → ∀ k, aGet (ts.foldl tputL L) k = if (ts.find? fun t => decide (t.id = k)).isSome = true then ts.find? fun t => decide (t.id = k) else aGet L k
  | [], L, _, _, _, _, k => by simp
  | t :: r, L, hi, hu, hn, hl, k => by
    have hu' := List.pairwise_cons.1 hu
    have he : tputE L t = 0 := by
      unfold tputE
      rw [if_neg, if_neg]
      · simp only [List.length_cons] at hl; omega
      · rintro (h | h)
        · rw [hi t (by simp)] at h; cases h
        · rw [hn t (by simp)] at h; cases h
    have hL : tputL L t = aSet L t.id t := by unfold tputL; rw [if_pos he]
    have hlen : ∀ (L : List (Int × Th)) (k : Int) (v : Th), (aSet L k v).length ≤ L.length + 1 := fun L => by
      induction L with
      | nil => intro k v; simp [aSet]
      | cons x r ih => intro k v; unfold aSet; split
                       · simp
                       · have := ih k v; simp only [List.length_cons]; omega
    rw [List.foldl_cons, hL, putAll_row (fun x hx => hi x (List.mem_cons_of_mem _ hx)) hu'.2 (fun x hx => ?_) (by have := hlen L t.id t; simp only [List.length_cons] at hl; omega) k, List.find?_cons]
    · by_cases e : t.id = k
      · subst e
        rw [decide_eq_true rfl]
        have : (r.find? fun x => decide (x.id = t.id)) = none := List.find?_eq_none.2 fun x hx h => by have := of_decide_eq_true h; have := hu'.1 x hx; omega
        rw [this, aGet_set_same]; rfl
      · rw [decide_eq_false e, aGet_set_ne _ _ (fun h => e h.symm)]
    · have := hu'.1 x hx
      rw [aGet_set_ne _ _ (by omega : x.id ≠ t.id)]
      exact hn x (List.mem_cons_of_mem _ hx)
theorem putAll_rof {ts : List Th} (hi : ∀ t ∈ ts, IsTh t = true) (hu : Up ts) (hl : ts.length ≤ 200) : RowOf (putAll ts) ts := by
  refine ⟨hu, fun t => ?_⟩
  unfold putAll
  rw [putAll_row hi hu (fun _ _ => rfl) (by simpa using hl)]
  constructor
  · intro hm
    cases e : ts.find? (fun x => decide (x.id = t.id)) with
    | none => exact absurd (decide_eq_true rfl) (List.find?_eq_none.1 e t hm)
    | some y =>
      have h1 := List.mem_of_find?_eq_some e
      have h2 := of_decide_eq_true (show decide (y.id = t.id) = true from List.find?_some (p := fun x : Th => decide (x.id = t.id)) e)
      have : y = t := by
        obtain ⟨i, hi, e1⟩ := List.getElem_of_mem h1
        obtain ⟨j, hj, e2⟩ := List.getElem_of_mem hm
        have hp := List.pairwise_iff_getElem.1 hu
        rcases Nat.lt_trichotomy i j with h | h | h
        · have := hp i j hi hj h; rw [e1, e2] at this; omega
        · subst h; rw [← e1, ← e2]
        · have := hp j i hj hi h; rw [e1, e2] at this; omega
      rw [this]; rfl
  · split
    · intro e; exact List.mem_of_find?_eq_some e
    · intro e; cases e
def t999 : Th := ⟨999999, ⟨0, 0⟩, ⟨0, []⟩, ⟨0, []⟩, ⟨0, []⟩, ⟨0, []⟩⟩
theorem B_law9_TablePlays_ {lf : Nat} {cl : Cl} (hlf : 1000 ≤ lf) (hkn : CTrue i_law9_known cl) (hnew : CTNew cl) (hfew : CFewT cl) (hcopy : CTCopy cl) (hat : CAt6 cl) (hput : CTPut cl) (hset : CTSet cl) (hdrop : CTDrop cl) (his : CIs6 cl) (hwith : CWith cl) (hwo : CWithoutS cl) (halike : CAlike cl) (hof : CTOfZ cl) (hall : CTAll cl) (hsame : CSame6 cl)
    {H : AH} {q : AP} {m : Nat} {qc : ACap} {l : List Sp} (hI : InSp H q m l) : B_law9_TablePlays lf cl q m qc 17 H isT = true := by
  unfold B_law9_TablePlays
  rw [hkn]
  refine arB_w (fBf_w rfl ?_)
  simp only [fB_eq, iLt_dec]
  refine ifA_w (fun _ => rfl) (fun hm => ?_)
  have hm : m ≤ 50 := by have := of_decide_eq_false hm; simp only [Int.ofNat_eq_natCast] at this; omega
  refine hnew _ _ fun H1 g O h1 tt hz => ?_
  rw [asP_]
  refine loopX_w (fun x Hx => ∃ (i : Nat) (g : Pn) (L : List (Int × Th)) (O : Pn → Prop) (p : AP) (n : Nat) (c : ACap) (z : Nat) (ts : List Th), x = ((q, m, qc, 17), .at g 0, (p, n, c, z), (i : Int)) ∧ i ≤ m ∧ Le H Hx ∧ TT Hx g L O ∧ (∀ a, O a → ¬ H.has a) ∧ InT Hx p n ts ∧ (∀ a, ownP p a → ¬ O a) ∧ (∀ a, ownP p a → Hx.has a) ∧ RP L ts i) (fun x => 60 - x.2.2.2.toNat)
    ⟨0, g, [], O, .nil, 0, _, _, [], rfl, by omega, h1, tt, hz, ⟨rfl, fun h => absurd rfl h⟩, fun a ⟨o, e⟩ => (by cases e), fun a ⟨o, e⟩ => (by cases e), RowOf.nil, fun t h => (by cases h), by simp⟩ (by simp; omega) ?_
  clear tt hz h1 H1 O g
  rintro self x Hx ⟨i, g, L, O, p, n, c, z, ts, rfl, hi, hL, tt, hz, row, own, ownh, rp⟩ ih
  simp only [pR_, fB_eq, iLt_dec]
  have hnn := row.1
  have hlen := rp.len
  obtain ⟨hnod, hid⟩ := tt.ids
  have hLn : L.length = n := by rw [← row_len rp.rof hnod hid, row.1]
  refine ifA_w (fun hx => ?_) (fun hx => ?_)
  · have hx : i < m := by have := of_decide_eq_true hx; simp only [Int.ofNat_eq_natCast] at this; omega
    refine (hI.le hL).read hx ?_
    generalize (l[i]'(by rw [hI.1]; exact hx)) = s
    refine tmp_w rfl (spC_len s) fun gs H2 h2 hgs ngs ggs => ?_
    refine rowK_w ggs (ldG_we (ys := thC s.x) (by rw [spC_len]; decide) (by decide) (spC_x s) ?_)
    refine hfew _ _ _ fun H3 b h3 => arB_w ?_
    refine ifA_w (fun _ => rfl) (fun _ => ?_)
    have h23 := h2.trans h3
    have hg3 := h3.has _ hgs
    refine hcopy H3 g L O _ (tt.le h23) fun H4 gc Oc h4 tc zc => ?_
    rw [asP_]
    have h24 := h23.trans h4
    have gs4 := (h4.get _ hg3).trans ((h3.get _ hgs).trans ggs)
    have st : ST H H4 gs (spC s) gc L Oc g L O p n ts := ⟨hL.trans h24, tt.le h24, hz, row.le h24, own, h4.has _ hg3, gs4, fun h => ngs (tt.has _ h), tc,
      fun a ha => ⟨fun h => zc a ha (h23.has _ (tt.has a h)), fun e => zc a ha (e ▸ hg3), fun h => zc a ha (h23.has _ (ownh a h)), fun h => zc a ha (h23.has _ (hL.has a h))⟩⟩
    have ownh4 : ∀ a, ownP p a → H4.has a := fun a ha => h24.has _ (ownh a ha)
    clear tt row own ownh gs4 tc zc
    refine rowK_w st.get (ldI_w (n := s.x.id) rfl ?_)
    refine hat H4 p n c z ts s.x.id _ st.row (by omega) fun r hr => arI_w ?_
    have hmem := rp.rof.mem hid s.x.id
    have hsome : 0 ≤ r ↔ (aGet L s.x.id).isSome = true := by
      rcases hr with ⟨h0, i, hi, e, he⟩ | ⟨h0, hno⟩
      · exact ⟨fun _ => hmem.2 ⟨_, List.getElem_mem hi, he⟩, fun _ => h0⟩
      · refine ⟨fun h => absurd h (by omega), fun h => ?_⟩
        obtain ⟨t, hm, ht⟩ := hmem.1 h
        exact absurd ht (hno t hm)
    clear hr hmem
    refine joinX_w (fun x Hy => ∃ (g : Pn) (L' : List (Int × Th)) (O : Pn → Prop) (p : AP) (n : Nat) (c : ACap) (z : Nat) (ts : List Th) (e : Int), x = ((q, m, qc, 17), .at g 0, (p, n, c, z), (i : Int), .at gs 0, .at gc 0, e, e) ∧ ST H Hy gs (spC s) gc L Oc g L' O p n ts ∧ (∀ a, ownP p a → Hy.has a) ∧ RP L' ts (i + 1)) ?_ ?_
    · rintro x H5 ⟨g, L', O, p, n, c, z, ts, e, rfl, st, ownh, rp⟩
      simp only [pR_]
      refine hput H5 gc L Oc t999 _ st.tc fun H6 O6 f6 t6 o6 => arI_w ?_
      rw [iEq_dec, decide_eq_true rfl]
      refine ifA_w (fun h => by cases h) (fun _ => ?_)
      have le6 : Le H H6 := ⟨fun a ha => f6.has a (st.le.has a ha), fun a ha => (f6.get a (st.le.has a ha) fun h => (st.ac a h).2.2.2 ha).trans (st.le.get a ha)⟩
      have tt6 := st.tt.fr f6 fun a ha h => (st.ac a h).1 ha
      have row6 := st.row.fr f6 fun a ha h => (st.ac a h).2.2.1 ha
      have gs6 := (f6.get _ st.hgs fun h => (st.ac _ h).2.1 rfl).trans st.get
      simp only [nilK_at]
      refine rowK_w gs6 (ldG_we (ys := spC s) (Nat.le_refl 17) (by decide) rfl ?_)
      have hnn := row6.1
      have hlen := rp.len
      refine halike H6 g L' O p n c z ts s _ tt6 row6 rp.rof (by omega) fun H7 h7 => arB_w ?_
      refine ifA_w (fun h => by cases h) (fun _ => ?_)
      rw [iAdd_]
      exact w64_w (by simp only [Int.ofNat_eq_natCast]; omega) (by simp only [Int.ofNat_eq_natCast]; omega) (ih _ _ ⟨i + 1, g, L', O, p, n, c, z, ts, by simp, by omega, le6.trans h7, tt6.le h7, st.fresh, row6.le h7, st.own, fun a ha => h7.has _ (f6.has _ (ownh a ha)), rp⟩ (by simp; omega))
    · intro J hJ
      have ld : ∀ {Hy : AH} {K : List AS → Bool}, (Hy.get gs = some (.row (spC s))) → K (thC s.x) = true → rowK Hy gs (fun cs => ldG cs 2 11 K) = true := fun k h => rowK_w k (ldG_we (by rw [spC_len]; decide) (by decide) (spC_x s) h)
      -- with the thing, behind an operation
      have goWith : ∀ {Hy : AH} {L' : List (Int × Th)} {O' : Pn → Prop} {K : AV → AH → Bool}, ST H Hy gs (spC s) gc L Oc g L' O' p n ts → (∀ H' p' c' z', ST H H' gs (spC s) gc L Oc g L' O' p' (withF s.x false ts).length (withF s.x false ts) → (∀ a, ownP p' a → H'.has a) → K (.s (.slice p' (withF s.x false ts).length c' z')) H' = true) → rowK Hy gs (fun cs => ldG cs 2 11 fun cs => cl i_ref6_With [.s (.slice p n c z), .agg cs] Hy K) = true := by
        intro Hy L' O' K s1 hk
        refine ld s1.get (hwith Hy p n c z ts s.x _ s1.row (by omega) fun H' p' c' z' h' sl => hk _ _ _ _ (s1.row' h' sl) fun a ha => (Sl.own sl).2 a ha)
      refine rowK_w st.get (ldI_w (n := s.w) rfl ?_)
      simp only [fB_eq, iLe_dec, iEq_dec, iLt_dec]
      refine ifA_w (fun _ => ?_) (fun _ => rowK_w st.get (ldI_w (n := s.w) rfl ?_))
      · refine ld st.get (hput H4 g L O s.x _ st.tt fun H5 O5 f5 t5 o5 => arI_w ?_)
        have s5 := st.op f5 t5 o5 ownh4
        have own5 : ∀ a, ownP p a → H5.has a := fun a ha => f5.has _ (ownh4 a ha)
        refine joinX_w (fun x Hy => x = ((q, m, qc, 17), .at g 0, (p, n, c, z), (i : Int), .at gs 0, .at gc 0, tputE L s.x, 0, !(IsTh s.x) || decide (0 ≤ r)) ∧ Le H5 Hy) ?_ ?_
        · rintro x H6 ⟨rfl, h6⟩
          simp only [pR_]
          have s6 := s5.le' h6
          refine ifA_w (fun h => ?_) (fun h => ?_)
          · have e11 : tputE L s.x = 11 := by
              unfold tputE
              rw [if_pos]
              rcases Bool.or_eq_true _ _ ▸ h with h | h
              · exact .inl (by simpa using h)
              · exact .inr (hsome.1 (of_decide_eq_true h))
            have eL : tputL L s.x = L := by unfold tputL; rw [if_neg (by rw [e11]; decide)]
            rw [eL] at s6
            rw [e11]
            exact hJ _ _ ⟨g, L, O5, p, n, c, z, ts, 11, rfl, s6, fun a ha => h6.has _ (own5 a ha), rp.up⟩
          · have h' := Bool.or_eq_false_iff.1 h
            have hT : IsTh s.x = true := by simpa using h'.1
            have hno : ¬ (aGet L s.x.id).isSome = true := fun hs => by rw [decide_eq_true (hsome.2 hs)] at h'; cases h'.2
            have e0 : tputE L s.x = 0 := by
              unfold tputE
              rw [if_neg, if_neg (by omega)]
              rintro (h | h)
              · rw [hT] at h; cases h
              · exact hno h
            have eL : tputL L s.x = aSet L s.x.id s.x := by unfold tputL; rw [if_pos e0]
            rw [eL] at s6
            rw [e0]
            simp only [nilK_at, fN_eq, Nat.add_eq, Nat.zero_add]
            refine goWith s6 fun H7 p' c' z' s7 own7 => ?_
            rw [asSl_]
            exact hJ _ _ ⟨g, _, O5, p', _, c', z', _, 0, rfl, s7, own7, rp.set hT⟩
        · intro J2 hJ2
          refine ld s5.get (his _ _ _ fun H6 h6 => arB_w ?_)
          refine ifA_w (fun h => hJ2 _ _ ⟨by rw [h]; rfl, h6⟩) (fun h => hJ2 _ _ ⟨by rw [h]; rfl, h6⟩)
      · refine ifA_w (fun _ => ?_) (fun _ => rowK_w st.get (ldI_w (n := s.w) rfl ?_))
        · refine ld st.get (hset H4 g L O s.x _ st.tt (by omega) fun H5 O5 f5 t5 o5 => arI_w ?_)
          have s5 := st.op f5 t5 o5 ownh4
          have own5 : ∀ a, ownP p a → H5.has a := fun a ha => f5.has _ (ownh4 a ha)
          refine ld s5.get (his _ _ _ fun H6 h6 => arB_w ?_)
          have s6 := s5.le' h6
          refine ifA_w (fun h => ?_) (fun h => ?_)
          · have hT : IsTh s.x = false := by simpa using h
            have e11 : tsetE L s.x = 11 := by unfold tsetE; rw [if_pos hT]
            have eL : tsetL L s.x = L := by unfold tsetL; rw [if_neg (by rw [e11]; decide)]
            rw [eL] at s6
            rw [e11]
            exact hJ _ _ ⟨g, L, O5, p, n, c, z, ts, 11, rfl, s6, fun a ha => h6.has _ (own5 a ha), rp.up⟩
          · have hT : IsTh s.x = true := by simpa using h
            refine ifA_w (fun h0 => ?_) (fun h0 => ?_)
            · have hno : ¬ (aGet L s.x.id).isSome = true := fun hs => by have := hsome.2 hs; have := of_decide_eq_true h0; simp only [Int.ofNat_eq_natCast] at this; omega
              have e15 : tsetE L s.x = 15 := by unfold tsetE; rw [if_neg (by rw [hT]; decide), if_neg hno]
              have eL : tsetL L s.x = L := by unfold tsetL; rw [if_neg (by rw [e15]; decide)]
              rw [eL] at s6
              rw [e15]
              exact hJ _ _ ⟨g, L, O5, p, n, c, z, ts, 15, rfl, s6, fun a ha => h6.has _ (own5 a ha), rp.up⟩
            · have hyes : (aGet L s.x.id).isSome = true := hsome.1 (by have := of_decide_eq_false h0; simp only [Int.ofNat_eq_natCast] at this; omega)
              have e0 : tsetE L s.x = 0 := by unfold tsetE; rw [if_neg (by rw [hT]; decide), if_pos hyes]
              have eL : tsetL L s.x = aSet L s.x.id s.x := by unfold tsetL; rw [if_pos e0]
              rw [eL] at s6
              rw [e0]
              refine goWith s6 fun H7 p' c' z' s7 own7 => ?_
              rw [asSl_]
              exact hJ _ _ ⟨g, _, O5, p', _, c', z', _, 0, rfl, s7, own7, rp.set hT⟩
        · refine ifA_w (fun _ => ?_) (fun _ => ?_)
          · refine rowK_w st.get (ldI_w (n := s.x.id) rfl ?_)
            refine hdrop H4 g L O s.x.id _ st.tt fun H5 O5 f5 t5 o5 => arI_w ?_
            have s5 := st.op f5 t5 o5 ownh4
            have own5 : ∀ a, ownP p a → H5.has a := fun a ha => f5.has _ (ownh4 a ha)
            refine ifA_w (fun h0 => ?_) (fun h0 => ?_)
            · have hno : ¬ (aGet L s.x.id).isSome = true := fun hs => by have := hsome.2 hs; have := of_decide_eq_true h0; simp only [Int.ofNat_eq_natCast] at this; omega
              rw [if_neg hno]
              have hnone : aGet L s.x.id = none := by simpa using hno
              exact hJ _ _ ⟨g, _, O5, p, n, c, z, ts, 15, rfl, s5, own5, ⟨rp.rof.congr (aGet_none_del hnone), rp.is, by omega⟩⟩
            · have hyes : (aGet L s.x.id).isSome = true := hsome.1 (by have := of_decide_eq_false h0; simp only [Int.ofNat_eq_natCast] at this; omega)
              rw [if_pos hyes]
              refine rowK_w s5.get (ldI_w (n := s.x.id) rfl ?_)
              refine hwo H5 p n c z ts s.x.id _ s5.row (by omega) fun H6 p' c' z' h6 sl => ?_
              rw [asSl_]
              exact hJ _ _ ⟨g, _, O5, p', _, c', z', _, 0, rfl, s5.row' h6 sl, fun a ha => (Sl.own sl).2 a ha, rp.del _⟩
          · refine hcopy H4 g L O _ st.tt fun H5 g' O' h5 t5 z5 => ?_
            rw [asP_]
            exact hJ _ _ ⟨g', L, O', p, n, c, z, ts, 0, rfl, st.tab h5 t5 z5 ownh4, fun a ha => h5.has _ (ownh4 a ha), rp.up⟩
  · refine hof Hx p n c z ts _ row (by omega) fun H2 g2 O2 h2 t2 z2 => ?_
    rw [asP_]
    have rr := putAll_rof rp.is rp.rof.1 (by omega)
    obtain ⟨hnod2, hid2⟩ := t2.ids
    have hl2 := row_len rr hnod2 hid2
    refine hall H2 g2 _ O2 _ t2 (by omega) fun H3 p3 c3 z3 h3 sl3 => ?_
    rw [asSl_]
    refine hsame _ _ _ _ _ _ _ _ _ _ _ _ (mkRow sl3) (row.le (h2.trans h3)) (by rw [allT_len]; omega) fun b hb => arB_w ?_
    obtain rfl : b = true := hb.2 (all_row rr hnod2 hid2)
    rfl
end Go.Proofs
end
section
/- Rows of steps that come in. -/
namespace Go.Proofs
open Go Go.Vw Go.Vw.Ev
set_option linter.unusedVariables false
theorem sl_sp : ∀ (n : Nat) (cs : List AS), LeavesV (List.replicate n [Leaf.int .i64, Leaf.int .i64, Leaf.int .i64, Leaf.int .i64, Leaf.int .i64, Leaf.int .i64, Leaf.str, Leaf.int .i64, Leaf.str, Leaf.int .i64, Leaf.str, Leaf.int .i64, Leaf.str, Leaf.int .i64, Leaf.int .i64, Leaf.int .i64, Leaf.int .i64]).flatten cs → ∃ l : List Sp, cs = spsC l ∧ l.length = n
  | 0, [], _ => ⟨[], rfl, rfl⟩
  | 0, _ :: _, h => h.elim
  | n + 1, cs, h => by
    rw [List.replicate_succ, List.flatten_cons] at h
    obtain ⟨x0, r0, e0, h0, t0⟩ := leaf_cons h
    obtain ⟨x1, r1, e1, h1, t1⟩ := leaf_cons t0
    obtain ⟨x2, r2, e2, h2, t2⟩ := leaf_cons t1
    obtain ⟨x3, r3, e3, h3, t3⟩ := leaf_cons t2
    obtain ⟨x4, r4, e4, h4, t4⟩ := leaf_cons t3
    obtain ⟨x5, r5, e5, h5, t5⟩ := leaf_cons t4
    obtain ⟨x6, r6, e6, h6, t6⟩ := leaf_cons t5
    obtain ⟨x7, r7, e7, h7, t7⟩ := leaf_cons t6
    obtain ⟨x8, r8, e8, h8, t8⟩ := leaf_cons t7
    obtain ⟨x9, r9, e9, h9, t9⟩ := leaf_cons t8
    obtain ⟨x10, r10, e10, h10, t10⟩ := leaf_cons t9
    obtain ⟨x11, r11, e11, h11, t11⟩ := leaf_cons t10
    obtain ⟨x12, r12, e12, h12, t12⟩ := leaf_cons t11
    obtain ⟨x13, r13, e13, h13, t13⟩ := leaf_cons t12
    obtain ⟨x14, r14, e14, h14, t14⟩ := leaf_cons t13
    obtain ⟨x15, r15, e15, h15, t15⟩ := leaf_cons t14
    obtain ⟨x16, r16, e16, h16, t16⟩ := leaf_cons t15
    obtain ⟨v0, w0⟩ := leaf_int h0
    obtain ⟨v1, w1⟩ := leaf_int h1
    obtain ⟨v2, w2⟩ := leaf_int h2
    obtain ⟨v3, w3⟩ := leaf_int h3
    obtain ⟨v4, w4⟩ := leaf_int h4
    obtain ⟨v5, w5⟩ := leaf_int h5
    obtain ⟨v6, w6⟩ := leaf_str h6
    obtain ⟨v7, w7⟩ := leaf_int h7
    obtain ⟨v8, w8⟩ := leaf_str h8
    obtain ⟨v9, w9⟩ := leaf_int h9
    obtain ⟨v10, w10⟩ := leaf_str h10
    obtain ⟨v11, w11⟩ := leaf_int h11
    obtain ⟨v12, w12⟩ := leaf_str h12
    obtain ⟨v13, w13⟩ := leaf_int h13
    obtain ⟨v14, w14⟩ := leaf_int h14
    obtain ⟨v15, w15⟩ := leaf_int h15
    obtain ⟨v16, w16⟩ := leaf_int h16
    obtain ⟨l, el, hl⟩ := sl_sp n r16 t16
    refine ⟨⟨v0, v1, ⟨v2, ⟨v3, v4⟩, ⟨v5, v6⟩, ⟨v7, v8⟩, ⟨v9, v10⟩, ⟨v11, v12⟩⟩, ⟨v13, v14, v15, v16⟩⟩ :: l, ?_, by simp [hl]⟩
    rw [e0, e1, e2, e3, e4, e5, e6, e7, e8, e9, e10, e11, e12, e13, e14, e15, e16, el, w0, w1, w2, w3, w4, w5, w6, w7, w8, w9, w10, w11, w12, w13, w14, w15, w16]
    rfl
end Go.Proofs
end
