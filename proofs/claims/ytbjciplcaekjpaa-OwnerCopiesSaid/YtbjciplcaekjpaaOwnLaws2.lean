import Derived.Test.YtbjciplcaekjpaaOwnLaws
namespace Go.Proofs
open Go Go.Vw Go.Vw.Ev
set_option linter.unusedVariables false

def epo (l : List (Int × Int)) : Int := (l.map (·.2)).sum
theorem epo_set : ∀ {l : List (Int × Int)} {i : Nat} (h : i < l.length) (x : Int × Int), epo (l.set i x) = epo l - (l[i]).2 + x.2
  | a :: r, 0, _, x => by simp only [List.set_cons_zero, epo, List.map_cons, List.sum_cons, List.getElem_cons_zero]; omega
  | a :: r, i + 1, h, x => by
    have := epo_set (l := r) (i := i) (by simpa using h) x
    simp only [epo] at this
    simp only [List.set_cons_succ, epo, List.map_cons, List.sum_cons, List.getElem_cons_succ, this]
    omega
theorem epo_take_succ {l : List (Int × Int)} {i : Nat} (h : i < l.length) : epo (l.take (i + 1)) = epo (l.take i) + (l[i]).2 := by
  rw [List.take_succ_eq_append_getElem h]
  simp only [epo, List.map_append, List.sum_append, List.map_cons, List.map_nil, List.sum_cons, List.sum_nil]
  omega
def Sv (k : Int) (l : List (Int × Int)) : Prop := ∀ x ∈ l, 0 ≤ x.1 ∧ x.1 < k
theorem initL_sv {k : Int} (hk : 1 ≤ k) : Sv k (initL k 16) := by
  intro x hx
  simp only [initL, List.mem_map, List.mem_range] at hx
  obtain ⟨c, hc, rfl⟩ := hx
  simp only [hc, if_true]
  rw [Int.tmod_eq_emod_of_nonneg (by omega)]
  exact ⟨Int.emod_nonneg _ (by omega), Int.emod_lt_of_pos _ (by omega)⟩
theorem initL_epo (k) : epo (initL k 16) = 0 := by
  have : ∀ l : List Nat, ((l.map fun (c : Nat) => ((if c < 16 then Int.tmod c k else 0 : Int), (0 : Int))).map (·.2)).sum = 0 := by
    intro l
    induction l with
    | nil => rfl
    | cons a r ih => simp only [List.map_cons, List.sum_cons, ih]; rfl
  exact this _
theorem handE_zero {n l c f t} (h : handE n l c f t = 0) : isC c = true ∧ 0 ≤ t ∧ t < n ∧ (own l c).1 = f := by
  unfold handE at h
  split at h
  · cases h
  · rename_i h1
    split at h
    · cases h
    · rename_i h2
      split at h
      · cases h
      · rename_i h3
        exact ⟨by simpa using h1, by omega, by omega, by simpa using h3⟩
theorem nxt_sv {n l c f t} (h : Sv n l) : Sv n (nxt n l c f t) := by
  unfold nxt
  split
  · rename_i he
    obtain ⟨_, h1, h2, _⟩ := handE_zero he
    intro x hx
    rcases List.mem_or_eq_of_mem_set hx with hx | rfl
    · exact h x hx
    · exact ⟨h1, h2⟩
  · exact h
theorem nxt_at {n l c f t} (hl : l.length = 16) {i : Nat} (hi : i < 16) : (nxt n l c f t)[i]'(by rw [nxt_length hl]; exact hi) = if handE n l c f t = 0 ∧ (i : Int) = c then (t, (l[i]).2 + 1) else l[i] := by
  by_cases he : handE n l c f t = 0
  · obtain ⟨hc, _, _, _⟩ := handE_zero he
    obtain ⟨h1, h2⟩ := isC_iff.1 hc
    have e : nxt n l c f t = l.set c.toNat (t, (own l c).2 + 1) := by simp [nxt, he, handL]
    rw [List.getElem_of_eq e, List.getElem_set]
    by_cases hx : c.toNat = i
    · subst hx
      rw [if_pos rfl, if_pos ⟨he, by omega⟩, own_t hc (by omega)]
    · rw [if_neg hx, if_neg (fun h => hx (by have := h.2; omega))]
  · have e : nxt n l c f t = l := by simp [nxt, he]
    rw [List.getElem_of_eq e, if_neg (fun h => he h.1)]
theorem nxt_epo {n l c f t} (hl : l.length = 16) : epo (nxt n l c f t) = epo l + (if handE n l c f t = 0 then 1 else 0) := by
  unfold nxt
  by_cases he : handE n l c f t = 0
  · obtain ⟨hc, _, _, _⟩ := handE_zero he
    obtain ⟨h1, h2⟩ := isC_iff.1 hc
    simp only [he, if_true, handL]
    rw [epo_set (by omega), own_t hc (by omega)]
    simp only
    omega
  · simp [he]
theorem count_all (f : Nat → Int) (k : Nat) : ∀ xs : List Nat, (∀ x ∈ xs, 0 ≤ f x ∧ f x < k) → ((List.range k).map fun (s : Nat) => ((xs.filter fun c => decide (f c = (s : Int))).length : Int)).sum = xs.length
  | [], _ => by
    have : ∀ m : List Nat, (m.map fun (_ : Nat) => (0 : Int)).sum = 0 := by
      intro m
      induction m with
      | nil => rfl
      | cons a r ih => simp [ih]
    simpa using this _
  | x :: r, h => by
    have ih := count_all f k r (fun y hy => h y (by simp [hy]))
    obtain ⟨h1, h2⟩ := h x (by simp)
    have key : ∀ (m : List Nat), m.Nodup → (m.map fun (s : Nat) => (((x :: r).filter fun c => decide (f c = (s : Int))).length : Int)).sum = (m.map fun (s : Nat) => ((r.filter fun c => decide (f c = (s : Int))).length : Int)).sum + (if (f x).toNat ∈ m then 1 else 0) := by
      intro m
      induction m with
      | nil => intro _; simp
      | cons a m ihm =>
        intro hn
        obtain ⟨hn1, hn2⟩ := List.nodup_cons.1 hn
        simp only [List.map_cons, List.sum_cons, ihm hn2]
        by_cases hx : f x = (a : Int)
        · have ha : (f x).toNat = a := by omega
          rw [List.filter_cons_of_pos (by simpa using hx)]
          rw [ha, if_neg hn1, if_pos (by simp)]
          simp only [List.length_cons]
          omega
        · rw [List.filter_cons_of_neg (by simpa using hx)]
          by_cases hm : (f x).toNat ∈ m
          · rw [if_pos hm, if_pos (by simp [hm])]; omega
          · rw [if_neg hm, if_neg (by simp only [List.mem_cons, not_or]; exact ⟨by omega, hm⟩)]; omega
    rw [key _ List.nodup_range, ih, if_pos (by simp; omega)]
    simp
theorem cells_all {k : Nat} {l : List (Int × Int)} (hl : l.length = 16) (h : Sv k l) : ((List.range k).map fun (s : Nat) => ((cellsTo l (s : Int) 16).length : Int)).sum = 16 := by
  have := count_all (fun c => (l.getD c (0, 0)).1) k (List.range 16) (fun x hx => by
    have hx := List.mem_range.1 hx
    have := h _ (List.getElem_mem (show x < l.length by omega))
    simpa [List.getD, show x < l.length by omega] using this)
  simp only [cellsTo, List.length_map]
  rw [this]; simp
theorem sum_take {f : Nat → Int} {k i : Nat} (h : i < k) : ((List.range (i + 1)).map f).sum = ((List.range i).map f).sum + f i := by
  rw [List.range_succ]; simp

set_option maxHeartbeats 1000000 in
/-- OwnerEpochs. -/
theorem B7_ {lf : Nat} {cl : Cl} {H : AH} {n : Nat} {p : AP} {m : Nat} {c : ACap} {z : Nat} {s : List (Int × Int × Int)} (hlf : 100 ≤ lf) (h16 : C16 cl) (h17 : CNew 17 cl) (h20 : C20 cl) (h23 : CCells 23 cl) (h27 : C27 cl) (h28 : C28 cl)
    (hin : In3 H p m s) : B7 lf cl (Int.ofNat n) p m c z H isT = true := by
  unfold B7
  rw [h16]
  refine arB_w (ifA_w (fun e => absurd e (by decide)) fun _ => ?_)
  rw [iLt_dec]
  refine ifA_w (fun _ => rfl) fun e => ?_
  have hm : m ≤ 60 := by simp at e; omega
  have ht : Int.tmod (Int.ofNat n) (Int.ofNat 4) = ((n % 4 : Nat) : Int) := rfl
  have hn4 : n % 4 < 4 := Nat.mod_lt _ (by decide)
  rw [ht]
  generalize hq : n % 4 = q at hn4
  refine fI_w (w64_w (by omega) (by omega) ?_)
  rw [iAdd_]
  refine w64_w (by simp only [Int.ofNat_eq_natCast]; omega) (by simp only [Int.ofNat_eq_natCast]; omega) ?_
  have hkN : kN ((q : Int) + Int.ofNat 1) = ((q + 1 : Nat) : Int) := by simp only [kN, Int.ofNat_eq_natCast]; omega
  refine h17 _ _ _ fun H1 gm hL1 hn1 ho1 => asP_w' ?_
  rw [hkN] at ho1
  generalize hk : q + 1 = k at ho1
  have hk1 : 1 ≤ k ∧ k ≤ 4 := by omega
  refine loopX_w (fun x H' => x.1 = (p, m, c, z) ∧ x.2.1 = .at gm 0 ∧ ∃ i : Nat, x.2.2.2 = (i : Int) ∧ i ≤ m ∧ In3 H' p m s ∧ ∃ l, l.length = 16 ∧ Bd i l ∧ Sv k l ∧ Obj H' gm k l ∧ x.2.2.1 = epo l ∧ 0 ≤ epo l ∧ epo l ≤ i) (fun x => m - x.2.2.2.toNat)
    ⟨rfl, rfl, 0, rfl, by omega, hin.le hL1, _, initL_length _ _, initL_bd _, initL_sv (by omega), ho1, (initL_epo _).symm, by rw [initL_epo]; exact Int.le_refl _, by rw [initL_epo]; exact Int.le_refl _⟩ (by simp; omega) ?_
  rintro self ⟨⟨p', m', c', z'⟩, q1, dn, _⟩ H3 ⟨hs, hq1, i, hi, him, hin, l, hl, hb, hsv, ho1, hdn, he0, he1⟩ ih
  simp only [Prod.mk.injEq] at hs hq1 hi hdn
  obtain ⟨rfl, rfl, rfl, rfl⟩ := hs
  subst hq1 hi hdn
  simp only [pR_]
  rw [iLt_dec]
  refine ifA_w (fun e => ?_) (fun e => ?_)
  · have e : i < m' := by simp only [decide_eq_true_eq, Int.ofNat_eq_natCast] at e; omega
    refine h27 _ _ _ _ _ ho1 hl fun H4 g4 hL4 hn4 hh4 hg4 => ?_
    rw [SlAt, asSl_]
    have hin4 := hin.le hL4
    have o1 := ho1.le hL4
    have hidx : (i : Int) < (m' : Int) := by omega
    obtain ⟨g, hpg, hg, hrow, c0, c1, c2⟩ := step3 hin4 e
    generalize hC : (s[i]'(by rw [hin4.1]; exact e)).1 = C at c0
    generalize hF : (s[i]'(by rw [hin4.1]; exact e)).2.1 = F at c1
    generalize hT : (s[i]'(by rw [hin4.1]; exact e)).2.2 = T at c2
    rw [hpg]
    refine nilK_w (idxK_w (by omega) hidx (fN_w (fN_w (rowK_wf hrow (ldI_w c0 ?_)))))
    refine nilK_w (idxK_w (by omega) hidx (fN_w (fN_w (rowK_wf hrow (ldI_w c1 ?_)))))
    refine nilK_w (idxK_w (by omega) hidx (fN_w (fN_w (rowK_wf hrow (ldI_w c2 ?_)))))
    refine h20 _ _ _ _ _ _ _ _ o1 hl (hb.small (by omega)) (arI_w ?_)
    have gne : g4 ≠ gm := fun e => hn4 (e ▸ ho1.2)
    have o5 := hand_obj (c := C) (f := F) (t := T) o1
    have in5 := hand_in3 (c := C) (f := F) (t := T) hin4 o1
    have g5 : (handH H4 gm k l C F T).get g4 = some (.row (fl l)) := (hand_ne gne).trans hg4
    have hh5 : (handH H4 gm k l C F T).has g4 := hand_has hh4
    have hl5 := nxt_length (n := k) (c := C) (f := F) (t := T) hl
    refine h27 _ _ _ _ _ o5 hl5 fun H6 g6 hL6 hn6 hh6 hg6 => ?_
    rw [SlAt, asSl_]
    have o6 := o5.le hL6
    have in6 := in5.le hL6
    have g46 : H6.get g4 = some (.row (fl l)) := (hL6.get g4 hh5).trans g5
    obtain ⟨g', hpg', hg', hrow', d0, d1, d2⟩ := step3 in6 e
    rw [hC] at d0
    rw [hF] at d1
    rw [hT] at d2
    have hgg : g' = g := by rw [hpg] at hpg'; simpa using hpg'.symm
    subst hgg
    have hrec := fun x' H' => ih x' H'
    have rng := fun (j : Nat) (hj : j < 16) => hb _ (List.getElem_mem (show j < l.length by omega))
    refine loopX_w (fun x H' => H' = H6 ∧ (.at g' 0, m', c', z') = x.1 ∧ x.2.1 = .at gm 0 ∧ x.2.2.1 = epo l ∧ x.2.2.2.1 = (i : Int) ∧ x.2.2.2.2.1 = (.at g4 0, 16, .lit 16, 2) ∧ x.2.2.2.2.2.1 = handE k l C F T ∧ x.2.2.2.2.2.2.1 = (.at g6 0, 16, .lit 16, 2) ∧ ∃ j : Nat, x.2.2.2.2.2.2.2 = (j : Int) ∧ j ≤ 16) (fun x => 16 - x.2.2.2.2.2.2.2.toNat)
      ⟨rfl, rfl, rfl, rfl, rfl, rfl, rfl, rfl, 0, rfl, by omega⟩ (by simp; omega) ?_
    rintro self2 ⟨⟨a1, a2, a3, a4⟩, b1, b2, b3, ⟨x1, x2, x3, x4⟩, b5, ⟨y1, y2, y3, y4⟩, _⟩ H7 ⟨hH, h1, h2, h3, h4, h5, h6, h7, j, hj, hj16⟩ ih2
    simp only [Prod.mk.injEq] at h1 h2 h3 h4 h5 h6 h7 hj
    obtain ⟨rfl, rfl, rfl, rfl⟩ := h1
    obtain ⟨rfl, rfl, rfl, rfl⟩ := h5
    obtain ⟨rfl, rfl, rfl, rfl⟩ := h7
    subst hH h2 h3 h4 h6 hj
    simp only [pR_]
    rw [iLt_dec]
    refine ifA_w (fun ej => ?_) (fun ej => ?_)
    · have ej : j < 16 := by simp only [decide_eq_true_eq, Int.ofNat_eq_natCast] at ej; omega
      have hjl : j < l.length := by omega
      have hjl5 : j < (nxt k l C F T).length := by omega
      have hat := nxt_at (n := k) (c := C) (f := F) (t := T) hl ej
      have more : ∀ b : Bool, b = (decide (handE k l C F T = 0) && decide ((j : Int) = C)) → (fun (x77 : (AP × Nat × ACap × Nat) × AP × Int × Int × (AP × Nat × ACap × Nat) × Int × (AP × Nat × ACap × Nat) × Int × Bool) (h78 : AH) => pR x77 fun u80 r80 => pR u80 fun p80 r80a => pR r80a fun l80 r80b => pR r80b fun c80 z80 => pR r80 fun p81 r82 => pR r82 fun n83 r84 => pR r84 fun n85 r86 => pR r86 fun u87 r87 => pR u87 fun p87 r87a => pR r87a fun l87 r87b => pR r87b fun c87 z87 => pR r87 fun n88 r89 => pR r89 fun u90 r90 => pR u90 fun p90 r90a => pR r90a fun l90 r90b => pR r90b fun c90 z90 => pR r90 fun n91 r92 => ifA r92 (nilK p90 fun g94 o95 => idxK n91 l90 fun m96 => fN (Nat.add o95 (Nat.mul m96 2)) fun o97 => fN (Nat.add o97 1) fun o98 => rowK h78 g94 fun cs99 => ldI cs99 o98 .i64 fun n100 => nilK p87 fun g101 o102 => idxK n91 l87 fun m103 => fN (Nat.add o102 (Nat.mul m103 2)) fun o104 => fN (Nat.add o104 1) fun o105 => rowK h78 g101 fun cs106 => ldI cs106 o105 .i64 fun n107 => w64 (iAdd n107 (Int.ofNat 1)) fun n108 => ifA (!iEq n100 n108) (isT (AV.s (AS.bool false)) h78) (nilK p90 fun g110 o111 => idxK n91 l90 fun m112 => fN (Nat.add o111 (Nat.mul m112 2)) fun o113 => fN (Nat.add o113 0) fun o114 => rowK h78 g110 fun cs115 => ldI cs115 o114 .i64 fun n116 => nilK p80 fun g117 o118 => idxK n85 l80 fun m119 => fN (Nat.add o118 (Nat.mul m119 3)) fun o120 => fN (Nat.add o120 2) fun o121 => rowK h78 g117 fun cs122 => ldI cs122 o121 .i64 fun n123 => ifA (!iEq n116 n123) (isT (AV.s (AS.bool false)) h78) (nilK p87 fun g125 o126 => idxK n91 l87 fun m127 => fN (Nat.add o126 (Nat.mul m127 2)) fun o128 => fN (Nat.add o128 0) fun o129 => rowK h78 g125 fun cs130 => ldI cs130 o129 .i64 fun n131 => nilK p80 fun g132 o133 => idxK n85 l80 fun m134 => fN (Nat.add o133 (Nat.mul m134 3)) fun o135 => fN (Nat.add o135 1) fun o136 => rowK h78 g132 fun cs137 => ldI cs137 o136 .i64 fun n138 => ifA (!iEq n131 n138) (isT (AV.s (AS.bool false)) h78) (w64 (iAdd n91 (Int.ofNat 1)) fun n153 => self2 ((p80, l80, c80, z80), p81, n83, n85, (p87, l87, c87, z87), n88, (p90, l90, c90, z90), n153) h78)))) (nilK p90 fun g140 o141 => idxK n91 l90 fun m142 => fN (Nat.add o141 (Nat.mul m142 2)) fun o143 => rowK h78 g140 fun cs144 => ldG cs144 o143 2 fun cs145 => nilK p87 fun g146 o147 => idxK n91 l87 fun m148 => fN (Nat.add o147 (Nat.mul m148 2)) fun o149 => rowK h78 g146 fun cs150 => ldG cs150 o149 2 fun cs151 => okK (leavesA [Leaf.int .i64, Leaf.int .i64] cs145 && leavesA [Leaf.int .i64, Leaf.int .i64] cs151) (ifA (!cellsEqA cs145 cs151) (isT (AV.s (AS.bool false)) h78) (w64 (iAdd n91 (Int.ofNat 1)) fun n154 => self2 ((p80, l80, c80, z80), p81, n83, n85, (p87, l87, c87, z87), n88, (p90, l90, c90, z90), n154) h78)))) ((.at g' 0, m', c', z'), .at gm 0, epo l, (i : Int), (.at g4 0, 16, .lit 16, 2), handE k l C F T, (.at g6 0, 16, .lit 16, 2), (j : Int), b) H7 = true := by
        intro b hb2
        simp only [pR_]
        have step : (w64 (iAdd (j : Int) (Int.ofNat 1)) fun n153 => self2 ((.at g' 0, m', c', z'), .at gm 0, epo l, (i : Int), (.at g4 0, 16, .lit 16, 2), handE k l C F T, (.at g6 0, 16, .lit 16, 2), n153) H7) = true := by
          rw [iAdd_]
          refine w64_w (by simp only [Int.ofNat_eq_natCast]; omega) (by simp only [Int.ofNat_eq_natCast]; omega) (ih2 _ _ ⟨rfl, rfl, rfl, rfl, rfl, rfl, rfl, rfl, j + 1, by simp, by omega⟩ ?_)
          simp only [Int.ofNat_eq_natCast]; omega
        have was0 : (fl l)[Nat.add (Nat.add 0 (Nat.mul (j : Int).toNat 2)) 0]? = some (.int .i64 (l[j]).1) := by
          simp only [Nat.add_eq, Nat.mul_eq, Int.toNat_natCast, Nat.zero_add, Nat.add_zero]
          rw [Nat.mul_comm]; exact fl_get0 hjl
        have was1 : (fl l)[Nat.add (Nat.add 0 (Nat.mul (j : Int).toNat 2)) 1]? = some (.int .i64 (l[j]).2) := by
          simp only [Nat.add_eq, Nat.mul_eq, Int.toNat_natCast, Nat.zero_add]
          rw [Nat.mul_comm]; exact fl_get1 hjl
        have now0 : (fl (nxt k l C F T))[Nat.add (Nat.add 0 (Nat.mul (j : Int).toNat 2)) 0]? = some (.int .i64 ((nxt k l C F T)[j]).1) := by
          simp only [Nat.add_eq, Nat.mul_eq, Int.toNat_natCast, Nat.zero_add, Nat.add_zero]
          rw [Nat.mul_comm]; exact fl_get0 hjl5
        have now1 : (fl (nxt k l C F T))[Nat.add (Nat.add 0 (Nat.mul (j : Int).toNat 2)) 1]? = some (.int .i64 ((nxt k l C F T)[j]).2) := by
          simp only [Nat.add_eq, Nat.mul_eq, Int.toNat_natCast, Nat.zero_add]
          rw [Nat.mul_comm]; exact fl_get1 hjl5
        have hjj : (j : Int) < ((16 : Nat) : Int) := by omega
        refine ifA_w (fun eb => ?_) (fun eb => ?_)
        · rw [eb] at hb2
          have hb3 : handE k l C F T = 0 ∧ (j : Int) = C := by simpa using hb2.symm
          rw [if_pos hb3] at hat
          rw [hat] at now0 now1
          have hz := handE_zero hb3.1
          have hF1 : (l[j]).1 = F := by
            have := hz.2.2.2
            rw [own_t hz.1 (by rw [← hb3.2]; simpa using hjl)] at this
            rw [← this]
            have hjc : C.toNat = j := by omega
            simp only [hjc]
          have r1 := rng j ej
          refine nilK_w (idxK_w (by omega) hjj (fN_w (fN_w (rowK_w hg6 (ldI_w now1 ?_)))))
          refine nilK_w (idxK_w (by omega) hjj (fN_w (fN_w (rowK_w g46 (ldI_w was1 ?_)))))
          rw [iAdd_]
          refine w64_w (by simp only [Int.ofNat_eq_natCast]; omega) (by simp only [Int.ofNat_eq_natCast]; omega) ?_
          rw [iEq_beq]
          refine ifA_w (fun e => absurd e (by simp)) fun _ => ?_
          refine nilK_w (idxK_w (by omega) hjj (fN_w (fN_w (rowK_w hg6 (ldI_w now0 ?_)))))
          refine nilK_w (idxK_w (by omega) hidx (fN_w (fN_w (rowK_wf hrow' (ldI_w d2 ?_)))))
          rw [iEq_beq]
          refine ifA_w (fun e => absurd e (by simp)) fun _ => ?_
          refine nilK_w (idxK_w (by omega) hjj (fN_w (fN_w (rowK_w g46 (ldI_w was0 ?_)))))
          refine nilK_w (idxK_w (by omega) hidx (fN_w (fN_w (rowK_wf hrow' (ldI_w d1 ?_)))))
          rw [iEq_beq, hF1]
          refine ifA_w (fun e => absurd e (by simp)) fun _ => step
        · rw [eb] at hb2
          have hb3 : ¬ (handE k l C F T = 0 ∧ (j : Int) = C) := by
            intro hx
            rw [decide_eq_true hx.1, decide_eq_true hx.2] at hb2
            cases hb2
          rw [if_neg hb3] at hat
          refine nilK_w (idxK_w (by omega) hjj (fN_w (rowK_w hg6 (ldG_we (ys := [.int .i64 (l[j]).1, .int .i64 (l[j]).2]) (by rw [fl_length, hl5]; simp only [Nat.add_eq, Nat.mul_eq]; omega) (by decide) ?_ ?_))))
          · simp only [Nat.add_eq, Nat.mul_eq, Int.toNat_natCast, Nat.zero_add]
            rw [Nat.mul_comm, fl_at hjl5, hat]
          refine nilK_w (idxK_w (by omega) hjj (fN_w (rowK_w g46 (ldG_we (ys := [.int .i64 (l[j]).1, .int .i64 (l[j]).2]) (by rw [fl_length, hl]; simp only [Nat.add_eq, Nat.mul_eq]; omega) (by decide) ?_ (okK_w rfl ?_)))))
          · simp only [Nat.add_eq, Nat.mul_eq, Int.toNat_natCast, Nat.zero_add]
            rw [Nat.mul_comm, fl_at hjl]
          rw [cells2]
          refine ifA_w (fun e => absurd e (by simp)) fun _ => step
      rw [joinX_, iEq_beq]
      refine ifA_w (fun e0 => ?_) (fun e0 => more false ?_)
      · refine nilK_w (idxK_w (by omega) hidx (fN_w (fN_w (rowK_wf hrow' (ldI_w d0 (fB_w (more _ ?_)))))))
        rw [iEq_beq]
        have e0 : handE k l C F T = 0 := by simpa using e0
        simp [e0, Bool.beq_eq_decide_eq]
      · have e0 : ¬ handE k l C F T = 0 := by simpa using e0
        simp [e0]
    · rw [iEq_beq]
      refine ifA_w (fun e0 => ?_) (fun e0 => ?_)
      · have e0 : handE k l C F T = 0 := by simpa using e0
        rw [iAdd_, iAdd_]
        refine w64_w (by simp only [Int.ofNat_eq_natCast]; omega) (by simp only [Int.ofNat_eq_natCast]; omega) (w64_w (by simp only [Int.ofNat_eq_natCast]; omega) (by simp only [Int.ofNat_eq_natCast]; omega) (ih _ _ ⟨by rw [hpg], rfl, i + 1, by simp, by omega, in6, _, hl5, hb.nxt, nxt_sv hsv, o6, ?_, ?_, ?_⟩ ?_))
        · rw [nxt_epo hl, if_pos e0]; simp
        · rw [nxt_epo hl, if_pos e0]; omega
        · rw [nxt_epo hl, if_pos e0]; omega
        · simp only [Int.ofNat_eq_natCast]; omega
      · have e0 : ¬ handE k l C F T = 0 := by simpa using e0
        rw [iAdd_]
        refine w64_w (by simp only [Int.ofNat_eq_natCast]; omega) (by simp only [Int.ofNat_eq_natCast]; omega) (ih _ _ ⟨by rw [hpg], rfl, i + 1, by simp, by omega, in6, _, hl5, hb.nxt, nxt_sv hsv, o6, ?_, ?_, ?_⟩ ?_)
        · rw [nxt_epo hl, if_neg e0]; simp
        · rw [nxt_epo hl, if_neg e0]; omega
        · rw [nxt_epo hl, if_neg e0]; omega
        · simp only [Int.ofNat_eq_natCast]; omega
  · refine h27 _ _ _ _ _ ho1 hl fun H4 g4 hL4 hn4 hh4 hg4 => ?_
    rw [SlAt, asSl_]
    have o4 := ho1.le hL4
    have htk : ∀ j, j ≤ 16 → 0 ≤ epo (l.take j) ∧ epo (l.take j) ≤ j * 60 := by
      intro j
      induction j with
      | zero => intro _; simp [epo]
      | succ j ihj =>
        intro hj
        have h1 := ihj (by omega)
        have h2 := hb _ (List.getElem_mem (show j < l.length by omega))
        rw [epo_take_succ (by omega)]
        omega
    refine loopX_w (fun x H' => H' = H4 ∧ x.1 = .at gm 0 ∧ x.2.1 = epo l ∧ x.2.2.2.1 = 0 ∧ x.2.2.2.2.1 = (.at g4 0, 16, .lit 16, 2) ∧ ∃ j : Nat, x.2.2.2.2.2 = (j : Int) ∧ j ≤ 16 ∧ x.2.2.1 = epo (l.take j)) (fun x => 16 - x.2.2.2.2.2.toNat)
      ⟨rfl, rfl, rfl, rfl, rfl, 0, rfl, by omega, by simp [epo]⟩ (by simp; omega) ?_
    rintro self2 ⟨a1, a2, a3, a4, ⟨x1, x2, x3, x4⟩, _⟩ H5 ⟨hH, h1, h2, h3, h4, j, hj, hj16, h5⟩ ih2
    simp only [Prod.mk.injEq] at h1 h2 h3 h4 h5 hj
    obtain ⟨rfl, rfl, rfl, rfl⟩ := h4
    subst hH h1 h2 h3 h5 hj
    simp only [pR_]
    rw [iLt_dec]
    refine ifA_w (fun ej => ?_) (fun ej => ?_)
    · have ej : j < 16 := by simp only [decide_eq_true_eq, Int.ofNat_eq_natCast] at ej; omega
      have hjl : j < l.length := by omega
      have h1 := htk j (by omega)
      have h2 := hb _ (List.getElem_mem hjl)
      refine nilK_w (idxK_w (by omega) (by omega) (fN_w (fN_w (rowK_w hg4 (ldI_w (n := (l[j]).2) ?_ ?_)))))
      · simp only [Nat.add_eq, Nat.mul_eq, Int.toNat_natCast, Nat.zero_add]
        rw [Nat.mul_comm]; exact fl_get1 hjl
      rw [iAdd_, iAdd_]
      refine w64_w (by omega) (by omega) (w64_w (by simp only [Int.ofNat_eq_natCast]; omega) (by simp only [Int.ofNat_eq_natCast]; omega) (ih2 _ _ ⟨rfl, rfl, rfl, rfl, rfl, j + 1, by simp, by omega, by rw [epo_take_succ hjl]⟩ ?_))
      simp only [Int.ofNat_eq_natCast]; omega
    · have ej : j = 16 := by simp only [decide_eq_false_iff_not, Int.ofNat_eq_natCast] at ej; omega
      subst ej
      rw [List.take_of_length_le (by omega)]
      have hcl : ∀ j, j ≤ k → 0 ≤ ((List.range j).map fun (s : Nat) => ((cellsTo l (s : Int) 16).length : Int)).sum ∧ ((List.range j).map fun (s : Nat) => ((cellsTo l (s : Int) 16).length : Int)).sum ≤ j * 16 := by
        intro j
        induction j with
        | zero => intro _; simp
        | succ j ihj =>
          intro hj
          have h1 := ihj (by omega)
          have h2 := cellsTo_le l (j : Int) 16
          rw [sum_take (k := k) (by omega)]
          omega
      refine loopX_w (fun x H' => Le H5 H' ∧ x.1 = .at gm 0 ∧ x.2.1 = epo l ∧ x.2.2.1 = epo l ∧ x.2.2.2.2.1 = (.at g4 0, 16, .lit 16, 2) ∧ ∃ j : Nat, x.2.2.2.2.2 = (j : Int) ∧ j ≤ k ∧ x.2.2.2.1 = ((List.range j).map fun (s : Nat) => ((cellsTo l (s : Int) 16).length : Int)).sum) (fun x => 16 - x.2.2.2.2.2.toNat)
        ⟨Le.refl _, rfl, rfl, rfl, rfl, 0, rfl, by omega, rfl⟩ (by simp; omega) ?_
      rintro self3 ⟨a1, a2, a3, a4, ⟨x1, x2, x3, x4⟩, _⟩ H6 ⟨hL6, h1, h2, h3, h4, j, hj, hjk, h5⟩ ih3
      simp only [Prod.mk.injEq] at h1 h2 h3 h4 h5 hj
      obtain ⟨rfl, rfl, rfl, rfl⟩ := h4
      subst h1 h2 h3 h5 hj
      simp only [pR_]
      have o6 := o4.le hL6
      rw [h28 _ _ _ _ _ o6]
      refine arI_w ?_
      rw [iLt_dec]
      refine ifA_w (fun e => ?_) (fun e => ?_)
      · have e : j < k := by simp only [decide_eq_true_eq] at e; omega
        refine h23 _ _ _ _ _ _ o6 hl fun H7 p7 c7 z7 hL7 s7 => ?_
        rw [asSl_, iAdd_, iAdd_]
        have h1 := hcl j hjk
        have h2 := cellsTo_le l (j : Int) 16
        refine w64_w (by simp only [Int.ofNat_eq_natCast]; omega) (by simp only [Int.ofNat_eq_natCast]; omega) (w64_w (by simp only [Int.ofNat_eq_natCast]; omega) (by simp only [Int.ofNat_eq_natCast]; omega) (ih3 _ _ ⟨hL6.trans hL7, rfl, rfl, rfl, rfl, j + 1, by simp, by omega, by rw [sum_take (k := k) e]; simp⟩ ?_))
        simp only [Int.ofNat_eq_natCast]; omega
      · have e : j = k := by simp only [decide_eq_false_iff_not] at e; omega
        subst e
        rw [cells_all hl hsv, iEq_beq, iEq_beq]
        refine ifA_w (fun _ => ifA_w (fun _ => fB_w rfl) (fun e => absurd e (by decide))) (fun e => absurd e (by simp))
end Go.Proofs
