import Derived.Test.YtplfaoobmdgiaaaDC
import Derived.Test.YtplfaoobmdgiaaaBQ
import Derived.Test.YtplfaoobmdgiaaaVwRead
section
/- Rectangles: one less another, in parts; the quadtree's depth. -/
namespace Go.Proofs
open Go Go.Vw Go.Vw.Ev
set_option linter.unusedVariables false
set_option linter.unusedSimpArgs false

def CDepth (cl : Cl) : Prop := ∀ H g L O K, TR H g L O → (∀ q, Inv (posOf L) q 0 0 0 → q.all.Perm (aKeys L) → K (.s (.int .i64 (q.dep : Nat))) H = true) → cl i_quad_Tree_Depth [.s (.ptr (.at g 0))] H K = true
theorem B_quad_Tree_Depth_ {lf : Nat} {cl : Cl} (hd : CDep 4 cl) {H : AH} {g : Pn} {L : List (Int × Pt)} {O : Pn → Prop} {K : AV → AH → Bool} (tr : TR H g L O) (hk : ∀ q, Inv (posOf L) q 0 0 0 → q.all.Perm (aKeys L) → K (.s (.int .i64 (q.dep : Nat))) H = true) :
    B_quad_Tree_Depth lf cl (.at g 0) H K = true := by
  unfold B_quad_Tree_Depth
  obtain ⟨m, q, t, hO⟩ := tr
  simp only [nilK_at, fN_eq, Nat.add_eq, Nat.zero_add]
  exact hd H g 1 (.map (some m) :: q.cells) q _ t.sq (Inv.low t.inv 4 (by omega)) (arI_w (hk q t.inv t.perm))
def quads (a m : Rc) : List Rc := [⟨a.x0, a.y0, a.x1, m.y0⟩, ⟨a.x0, m.y1, a.x1, a.y1⟩, ⟨a.x0, m.y0, m.x0, m.y1⟩, ⟨m.x1, m.y0, a.x1, m.y1⟩]
def RMinus (a b : Rc) : List Rc := if REmpty a then [] else if REmpty (RMeet a b) then [a] else (quads a (RMeet a b)).filter fun r => !REmpty r
def rcsC (l : List Rc) : List AS := l.flatMap rcC
theorem rcsC_len : ∀ l : List Rc, (rcsC l).length = l.length * 4
  | [] => rfl
  | r :: l => by have := rcsC_len l; simp only [rcsC, List.flatMap_cons, List.length_append] at *; rw [this, fr4, List.length_cons]; omega
theorem rin_not_empty {r : Rc} {p : Pt} (h : RIn r p = true) : REmpty r = false := by
  unfold RIn at h; unfold REmpty
  simp only [Bool.and_eq_true, decide_eq_true_eq] at h
  simp only [Bool.or_eq_false_iff, decide_eq_false_iff_not]
  omega
theorem rin_empty {r : Rc} {p : Pt} (h : REmpty r = true) : RIn r p = false := by
  cases e : RIn r p with
  | false => rfl
  | true => rw [rin_not_empty e] at h; cases h
/-- One or none. -/
def n1 (b : Bool) : Nat := if b = true then 1 else 0
theorem filter_n1 (p : Rc → Bool) : ∀ l : List Rc, (l.filter p).length = (l.map fun r => n1 (p r)).sum
  | [] => rfl
  | r :: l => by
    rw [List.filter_cons, List.map_cons, List.sum_cons, ← filter_n1 p l]
    cases h : p r <;> simp [n1] <;> omega
/-- Each point of one lies once in the other or in a part. -/
theorem minus_count (a b : Rc) (p : Pt) : n1 (RIn a p) = n1 (RIn (RMeet a b) p) + ((RMinus a b).filter fun r => RIn r p).length := by
  unfold RMinus
  have hm : ∀ q, RIn (RMeet a b) q = (RIn a q && RIn b q) := by
    intro q
    unfold RMeet tidy
    split
    · rename_i h
      rw [rin_empty (r := ⟨0, 0, 0, 0⟩) rfl]
      have := rin_empty (p := q) h
      unfold RIn at this ⊢
      simp only [Bool.and_eq_false_iff, decide_eq_false_iff_not] at this
      symm
      simp only [Bool.and_eq_false_iff, decide_eq_false_iff_not]
      omega
    · unfold RIn
      rw [Bool.eq_iff_iff]
      simp only [Bool.and_eq_true, decide_eq_true_eq]
      omega
  split
  · rename_i h
    rw [hm, rin_empty h]; rfl
  split
  · rename_i h1 h
    rw [rin_empty h]
    cases e : RIn a p <;> simp [n1, e]
  rename_i h1 h2
  have hme : RMeet a b = ⟨max a.x0 b.x0, max a.y0 b.y0, min a.x1 b.x1, min a.y1 b.y1⟩ := by
    unfold RMeet tidy at h2 ⊢
    split at h2
    · exact absurd rfl h2
    · rename_i h; rw [if_neg h]
  rw [List.filter_filter, List.filter_congr (q := fun r => RIn r p) (fun r _ => by
    cases e : RIn r p
    · rfl
    · rw [rin_not_empty e]; rfl), filter_n1]
  rw [hme] at h2 ⊢
  unfold REmpty at h2
  simp only [Bool.or_eq_true, decide_eq_true_eq] at h2
  simp only [quads, List.map_cons, List.map_nil, List.sum_cons, List.sum_nil, n1, RIn, Bool.and_eq_true, decide_eq_true_eq]
  (repeat' split) <;> omega
theorem quads_at (a m : Rc) {i : Nat} (h : i < 4) : ∃ r, ((rcsC (quads a m)).drop (i * 4)).take 4 = rcC r ∧ (quads a m).take (i + 1) = (quads a m).take i ++ [r] := by
  rcases (by omega : i = 0 ∨ i = 1 ∨ i = 2 ∨ i = 3) with rfl | rfl | rfl | rfl <;> exact ⟨_, rfl, rfl⟩
def CMinus (cl : Cl) : Prop := ∀ a b H K, (∀ H' p c z, Le H H' → Sl H H' p (RMinus a b).length z (rcsC (RMinus a b)) 4 → K (.s (.slice p (RMinus a b).length c z)) H' = true) → cl i_ref3_Minus [.agg (rcC a), .agg (rcC b)] H K = true
theorem B_ref3_Minus_ {lf : Nat} {cl : Cl} (hlf : 10 ≤ lf) (hE : CRcB i_ref3_Empty REmpty cl) (hM : CRcRc i_ref3_Meet RMeet cl) {a b : Rc} {H : AH} {K : AV → AH → Bool}
    (hk : ∀ H' p c z, Le H H' → Sl H H' p (RMinus a b).length z (rcsC (RMinus a b)) 4 → K (.s (.slice p (RMinus a b).length c z)) H' = true) : B_ref3_Minus lf cl (rcC a) (rcC b) H K = true := by
  unfold B_ref3_Minus
  refine newK_w (newK_w ?_)
  have hL0 : Le H ((H.new (.row (rcC a))).new (.row (rcC b))) := (Le.new H _).newr _
  have ga0 := get_new1 H (.row (rcC a)) (.row (rcC b))
  have gb0 := get_new (H.new (.row (rcC a))) (.row (rcC b))
  have ha0 : ((H.new (.row (rcC a))).new (.row (rcC b))).has H.nx := has_new (has_new_self _ _)
  have hb0 := has_new_self (H.new (.row (rcC a))) (.row (rcC b))
  generalize (H.new (.row (rcC a))).nx = gb at *
  generalize H.nx = ga at *
  generalize (H.new (.row (rcC a))).new (.row (rcC b)) = H0 at *
  refine rowK_w ga0 (ldG_we (by simp [rcC]) (by decide) rfl (hE _ _ _ fun H1 l1 => arB_w (ifA_w (fun e => ?_) (fun e => ?_))))
  · have : RMinus a b = [] := by unfold RMinus; rw [if_pos e]
    rw [this] at hk
    exact hk _ _ _ _ (hL0.trans l1) Sl.nil
  refine rowK_w ((l1.get _ ha0).trans ga0) (ldG_we (by simp [rcC]) (by decide) rfl (rowK_w ((l1.get _ hb0).trans gb0) (ldG_we (by simp [rcC]) (by decide) rfl (hM _ _ _ _ fun H2 l2 => ?_))))
  have l12 := l1.trans l2
  rw [asG_]
  refine newK_w ?_
  have gm0 := get_new H2 (.row [.int .i64 (Int.ofNat 0), .int .i64 (Int.ofNat 0), .int .i64 (Int.ofNat 0), .int .i64 (Int.ofNat 0)])
  have hm0 := has_new_self H2 (.row [.int .i64 (Int.ofNat 0), .int .i64 (Int.ofNat 0), .int .i64 (Int.ofNat 0), .int .i64 (Int.ofNat 0)])
  have l2m := Le.new H2 (.row [.int .i64 (Int.ofNat 0), .int .i64 (Int.ofNat 0), .int .i64 (Int.ofNat 0), .int .i64 (Int.ofNat 0)])
  have hnm : ¬ H2.has H2.nx := (Le.refl H2).nx
  generalize H2.new (.row [.int .i64 (Int.ofNat 0), .int .i64 (Int.ofNat 0), .int .i64 (Int.ofNat 0), .int .i64 (Int.ofNat 0)]) = H3 at *
  generalize H2.nx = gm at *
  generalize hm : RMeet a b = m at *
  refine stoN_we (ds := rcC m) gm0 rfl (by simp [rcC]) (by simp [rcC]) (rowK_w (get_put _ _ _) (ldG_we (by simp [rcC]) (by decide) rfl (hE _ _ _ fun H4 l4 => arB_w ?_)))
  have l24 : Le H2 H4 := (l2m.put hnm _).trans l4
  have ga4 : H4.get ga = some (.row (rcC a)) := (l24.get _ (l12.has _ ha0)).trans ((l12.get _ ha0).trans ga0)
  have gm4 : H4.get gm = some (.row (rcC m)) := (l4.get _ (has_put hm0)).trans (get_put _ _ _)
  have lH4 : Le H H4 := (hL0.trans l12).trans l24
  refine ifA_w (fun e2 => ?_) (fun e2 => ?_)
  · have : RMinus a b = [a] := by unfold RMinus; rw [if_neg (by simp [e]), hm, if_pos e2]
    rw [this] at hk
    refine rowK_w ga4 (ldG_we (by simp [rcC]) (by decide) rfl (okK_w rfl (fL_w (okK_w rfl (newK_w ?_)))))
    exact hk _ _ _ _ (lH4.newr _) ⟨rfl, .inr ⟨H4.nx, rfl, rfl, by rw [get_new]; rfl, has_new_self _ _, lH4.nx⟩⟩
  have hq : RMinus a b = (quads a m).filter fun r => !REmpty r := by unfold RMinus; rw [if_neg (by simp [e]), hm, if_neg (by simp [e2])]
  rw [hq] at hk
  simp only [rowK_R, ga4, gm4, rowR_row, ldI_R, rc0, rc1, rc2, rc3, ldIR_int]
  refine fL_w (newK_w ?_)
  generalize hz : (AB.row [.int .i64 (Int.ofNat 0), .int .i64 (Int.ofNat 0), .int .i64 (Int.ofNat 0), .int .i64 (Int.ofNat 0), .int .i64 (Int.ofNat 0), .int .i64 (Int.ofNat 0), .int .i64 (Int.ofNat 0), .int .i64 (Int.ofNat 0), .int .i64 (Int.ofNat 0), .int .i64 (Int.ofNat 0), .int .i64 (Int.ofNat 0), .int .i64 (Int.ofNat 0), .int .i64 (Int.ofNat 0), .int .i64 (Int.ofNat 0), .int .i64 (Int.ofNat 0), .int .i64 (Int.ofNat 0)]) = zz
  have gl0 := get_new H4 zz
  have hl0 := has_new_self H4 zz
  have l4l := Le.new H4 zz
  have hnl : ¬ H4.has H4.nx := (Le.refl H4).nx
  generalize H4.new zz = H5 at *
  generalize H4.nx = gl at *
  subst hz
  refine stoN_we (ds := rcsC (quads a m)) gl0 rfl (by simp) rfl ?_
  have gl6 := get_put H5 gl (.row (rcsC (quads a m)))
  have hl6 : (H5.put gl (.row (rcsC (quads a m)))).has gl := has_put hl0
  have lH6 : Le H (H5.put gl (.row (rcsC (quads a m)))) := lH4.trans (l4l.put hnl _)
  generalize H5.put gl (.row (rcsC (quads a m))) = H6 at *
  refine loopX_w (fun x H7 => x.1 = .at gl 0 ∧ Le H6 H7 ∧ ∃ i : Nat, x.2.2 = (i : Int) ∧ i ≤ 4 ∧ x.2.1.2.1 = (((quads a m).take i).filter fun r => !REmpty r).length ∧
      Sl H6 H7 x.2.1.1 x.2.1.2.1 x.2.1.2.2.2 (rcsC (((quads a m).take i).filter fun r => !REmpty r)) 4) (fun x => 4 - x.2.2.toNat)
    ⟨rfl, Le.refl _, 0, rfl, by omega, rfl, Sl.nil⟩ (by simp; omega) ?_
  rintro self ⟨x1, ⟨p, n, c, z⟩, x3⟩ H7 ⟨e1, l7, i, e3, hi, hn, sl⟩ ih
  simp only at e1 e3 hn sl
  subst e1 e3
  simp only [pR_, fB_eq, iLt_dec, iAdd_, Int.ofNat_eq_natCast, Int.cast_ofNat_Int, nilK_at, fN_eq, Nat.add_eq, Nat.mul_eq, Nat.zero_add]
  refine ifA_w (fun hx => ?_) (fun hx => ?_)
  · have hx : i < 4 := by have := of_decide_eq_true hx; omega
    obtain ⟨r, hr1, hr2⟩ := quads_at a m hx
    have hql : (rcsC (quads a m)).length = 16 := rfl
    refine idxK_w (by omega) (by omega) (rowR_w ((l7.get _ hl6).trans gl6) (ldG_we (ys := rcC r) (by rw [hql]; omega) (by decide) (by rw [Int.toNat_natCast]; exact hr1) ?_))
    refine hE _ _ _ fun H8 l8 => arB_w ?_
    have l68 := l7.trans l8
    refine ifA_w (fun hb => ?_) (fun hb => ?_)
    · have hb : REmpty r = false := by simpa using hb
      have hf : ((quads a m).take (i + 1)).filter (fun r => !REmpty r) = ((quads a m).take i).filter (fun r => !REmpty r) ++ [r] := by rw [hr2, List.filter_append]; simp [hb]
      refine idxK_w (by omega) (by omega) (rowR_w ((l68.get _ hl6).trans gl6) (ldG_we (ys := rcC r) (by rw [hql]; omega) (by decide) (by rw [Int.toNat_natCast]; exact hr1) ?_))
      refine okK_w rfl (fL_w (okK_w rfl (newK_w ?_)))
      have gn := get_new H8 (.row (rcC r))
      have hn9 := has_new_self H8 (.row (rcC r))
      have l89 := Le.new H8 (.row (rcC r))
      have hle := List.length_filter_le (fun r => !REmpty r) ((quads a m).take i)
      have hlt : ((quads a m).take i).length ≤ 4 := by rw [List.length_take]; exact Nat.le_trans (Nat.min_le_right _ _) (by simp [quads])
      refine elK_w gn (by simp [rcC]) (by simp [ap_eq, rcC]; rfl) ?_
      refine app_w (sl.le (l8.trans l89)) ((l68).trans l89) (by rfl) (by omega) (by omega) (by omega) fun p' c' z' H9 h9 sl9 _ => ?_
      refine w64_w (by omega) (by omega) (ih _ _ ⟨rfl, h9, i + 1, by simp, by omega, ?_, ?_⟩ (by simp; omega))
      · simp only [hf, List.length_append, List.length_singleton]; omega
      · simp only [hf]
        have : rcsC (((quads a m).take i).filter (fun r => !REmpty r) ++ [r]) = rcsC (((quads a m).take i).filter (fun r => !REmpty r)) ++ rcC r := by simp [rcsC]
        rw [this]
        exact sl9
    · have hb : REmpty r = true := by simpa using hb
      have hf : ((quads a m).take (i + 1)).filter (fun r => !REmpty r) = ((quads a m).take i).filter (fun r => !REmpty r) := by rw [hr2, List.filter_append]; simp [hb]
      refine w64_w (by omega) (by omega) (ih _ _ ⟨rfl, l68, i + 1, by simp, by omega, ?_, ?_⟩ (by simp; omega))
      · simp only [hf]; exact hn
      · simp only [hf]; exact sl.le l8
  · have hx : i = 4 := by have := of_decide_eq_false hx; omega
    subst hx
    rw [List.take_of_length_le (by simp [quads])] at hn sl
    subst hn
    exact hk _ _ _ _ (lH6.trans l7) ⟨sl.len, sl.rep.imp id fun ⟨g, h1, h2, h3, h4, h5⟩ => ⟨g, h1, h2, h3, h4, fun h => h5 (lH6.has _ h)⟩⟩
end Go.Proofs
end
section
/- QuadFull: as many as there may be, and one more; behind a drop there is room. -/
namespace Go.Proofs
open Go Go.Vw Go.Vw.Ev
set_option linter.unusedVariables false
set_option linter.unusedSimpArgs false

def CTrue (f : Nat) (cl : Cl) : Prop := ∀ H K, cl f [] H K = K (.s (.bool true)) H
theorem TR.on {H : AH} {g : Pn} {L : List (Int × Pt)} {O : Pn → Prop} (h : TR H g L O) : ∀ k ∈ aKeys L, On (posOf L k) = true := by
  obtain ⟨m, q, t, _⟩ := h
  exact fun k hk => on_sq.2 (t.inv.mem k (t.perm.mem_iff.2 hk))
theorem TR.nod {H : AH} {g : Pn} {L : List (Int × Pt)} {O : Pn → Prop} (h : TR H g L O) : (aKeys L).Nodup := by
  obtain ⟨m, q, t, _⟩ := h
  exact t.nodL
theorem rin_whole (p : Pt) : RIn ⟨0, 0, 64, 64⟩ p = On p := rfl
theorem inL_whole {H : AH} {g : Pn} {L : List (Int × Pt)} {O : Pn → Prop} (h : TR H g L O) : (inL L ⟨0, 0, 64, 64⟩).length = L.length := by
  unfold inL inSel
  rw [srtI_len, List.filter_eq_self.2 fun k hk => by rw [rin_whole]; exact h.on k hk]
  simp [aKeys]
theorem len_set_new {L : List (Int × Pt)} {id : Int} {p : Pt} (h : id ∉ aKeys L) : (aSet L id p).length = L.length + 1 := by
  have := congrArg List.length (aKeys_set_new L p h)
  simpa [aKeys] using this
theorem len_del {H : AH} {g : Pn} {L : List (Int × Pt)} {O : Pn → Prop} {id : Int} (h : TR H g L O) (hid : id ∈ aKeys L) : (aDel L id).length + 1 = L.length := by
  have h1 := perm_len (filter_perm h.nod hid)
  have h2 := congrArg List.length (aKeys_del L id)
  have e : (aKeys L).filter (fun x => !(x == id)) = (aKeys L).filter (fun j => decide (j ≠ id)) := by
    congr 1
    funext x
    by_cases h : x = id <;> simp [h]
  rw [e] at h1
  rw [← h2] at h1
  simp only [aKeys, List.length_map] at h1
  omega
theorem keys_del {L : List (Int × Pt)} {id k : Int} (h : k ∈ aKeys (aDel L id)) : k ≠ id ∧ k ∈ aKeys L := by
  rw [aKeys_del] at h
  have := List.mem_filter.1 h
  exact ⟨by simpa using this.2, this.1⟩
theorem putE_ok {L : List (Int × Pt)} {id : Int} {p : Pt} (h0 : 0 ≤ id) (hp : On p = true) (hk : id ∉ aKeys L) (hl : L.length < 200) : putE L id p = 0 := by
  unfold putE
  rw [if_neg (by omega), if_neg (by simp [hp]), if_neg (by rw [aGet_none.2 hk]; simp), if_neg (by omega)]
theorem putE_full {L : List (Int × Pt)} {id : Int} {p : Pt} (h0 : 0 ≤ id) (hp : On p = true) (hk : id ∉ aKeys L) (hl : 200 ≤ L.length) : putE L id p = 16 := by
  unfold putE
  rw [if_neg (by omega), if_neg (by simp [hp]), if_neg (by rw [aGet_none.2 hk]; simp), if_pos hl]
theorem tmod64 {n : Int} (h : 0 ≤ n) : 0 ≤ Int.tmod n 64 ∧ Int.tmod n 64 < 64 := by
  rw [Int.tmod_eq_emod_of_nonneg h]; omega
theorem B_law8_QuadFull_ {lf : Nat} {cl : Cl} (hlf : 1000 ≤ lf) (hkn : CTrue i_law8_known cl) (hnew : CNewQ cl) (hput : CPut cl) (hdrop : CDrop cl) (hlen : CLen cl) (hin : CInT cl) {n s : Int} (hn : 0 ≤ n ∧ n ≤ 255) (hs : 0 ≤ s ∧ s ≤ 65535) {H : AH} :
    B_law8_QuadFull lf cl n s H isT = true := by
  unfold B_law8_QuadFull
  rw [hkn]
  refine arB_w ?_
  rw [fB_eq]
  refine ifA_w (fun hx => absurd hx (by decide)) (fun _ => ?_)
  refine hnew _ _ fun H1 g O hL1 tr1 hz1 => ?_
  rw [asP_]
  refine loopX_w (fun x H2 => x.1 = n ∧ x.2.1 = s ∧ x.2.2.1 = .at g 0 ∧ ∃ i : Nat, x.2.2.2 = (i : Int) ∧ i ≤ 200 ∧ ∃ L O, TR H2 g L O ∧ L.length = i ∧ ∀ k, k ∈ aKeys L ↔ 0 ≤ k ∧ k < i) (fun x => 200 - x.2.2.2.toNat)
    ⟨rfl, rfl, rfl, 0, rfl, by omega, [], O, tr1, rfl, fun k => ⟨fun h => (by cases h), fun h => (by omega)⟩⟩ (by simp; omega) ?_
  clear tr1 hL1 hz1 O
  rintro self ⟨a, b, c, r⟩ H2 ⟨e1, e2, e3, i, e4, hi, L, O, tr, hlL, hkeys⟩ ih
  simp only at e1 e2 e3 e4
  subst e1 e2 e3 e4
  simp only [pR_, fB_eq, iLt_dec, iMul_, iAdd_, Int.ofNat_eq_natCast, Int.cast_ofNat_Int]
  refine ifA_w (fun hx => ?_) (fun hx => ?_)
  · have hx : i < 200 := by have := of_decide_eq_true hx; omega
    have d1 : Int.tdiv b 64 = b / 64 := Int.tdiv_eq_ediv_of_nonneg hs.1
    refine w64_w (by omega) (by omega) (w64_w (by omega) (by omega) (w64_w (by omega) (by omega) ?_))
    rw [fI_eq]
    refine w64_w (by omega) (by omega) ?_
    rw [wrapK_eq, d1]
    have hw : IntKind.wrap .u16 (b / 64) = b / 64 := by
      simp [IntKind.wrap, IntKind.bits, IntKind.signed]; omega
    rw [hw]
    refine w64_w (by omega) (by omega) (w64_w (by omega) (by omega) ?_)
    rw [fI_eq]
    have t1 := tmod64 (n := (i : Int) * 7 + b) (by omega)
    have t2 := tmod64 (n := (i : Int) * 13 + b / 64) (by omega)
    generalize Int.tmod ((i : Int) * 7 + b) 64 = px at *
    generalize Int.tmod ((i : Int) * 13 + b / 64) 64 = py at *
    have hon : On ⟨px, py⟩ = true := by unfold On; simp; omega
    have hid : (i : Int) ∉ aKeys L := fun h => by have := (hkeys _).1 h; omega
    have he := putE_ok (by omega : (0 : Int) ≤ i) hon hid (by omega)
    refine hput H2 g L O i ⟨px, py⟩ _ tr (by omega) fun H3 O3 f3 t3 o3 => ?_
    rw [he]
    refine arI_w ?_
    rw [iEq_beq]
    refine ifA_w (fun hx => absurd hx (by decide)) (fun _ => w64_w (by omega) (by omega) (ih _ _ ⟨rfl, rfl, rfl, i + 1, by simp, by omega, _, O3, t3, ?_, fun k => ?_⟩ (by simp; omega)))
    · unfold putL; rw [if_pos he, len_set_new hid, hlL]
    · unfold putL; rw [if_pos he, aKeys_set_new L _ hid, List.mem_append, hkeys]
      simp only [List.mem_singleton]
      omega
  · have hx : i = 200 := by have := of_decide_eq_false hx; omega
    subst hx
    have hon : On ⟨0, 0⟩ = true := rfl
    have hid : (1000 : Int) ∉ aKeys L := fun h => by have := (hkeys _).1 h; omega
    have he := putE_full (by omega : (0 : Int) ≤ 1000) hon hid (by omega)
    refine hput H2 g L O 1000 ⟨0, 0⟩ _ tr (by omega) fun H3 O3 f3 t3 o3 => ?_
    rw [he]
    have el : putL L 1000 ⟨0, 0⟩ = L := by unfold putL; rw [he]; rfl
    rw [el] at t3
    refine arI_w (w64_w (by omega) (by omega) ?_)
    rw [fI_eq]
    have hm : 0 ≤ Int.tmod a 200 ∧ Int.tmod a 200 < 200 := by rw [Int.tmod_eq_emod_of_nonneg hn.1]; omega
    generalize Int.tmod a 200 = dd at *
    have hdk : dd ∈ aKeys L := (hkeys dd).2 (by omega)
    refine hdrop H3 g L O3 dd _ t3 fun H4 O4 f4 t4 o4 => ?_
    have hsome : (aGet L dd).isSome = true := by
      cases h : aGet L dd with
      | none => exact absurd hdk (aGet_none.1 h)
      | some v => rfl
    rw [if_pos hsome]
    have hl4 := len_del t3 hdk
    have hid4 : (1000 : Int) ∉ aKeys (aDel L dd) := fun h => hid (keys_del h).2
    have he4 := putE_ok (by omega : (0 : Int) ≤ 1000) hon hid4 (by omega)
    refine arI_w (hput H4 g (aDel L dd) O4 1000 ⟨0, 0⟩ _ t4 (by omega) fun H5 O5 f5 t5 o5 => ?_)
    rw [he4]
    have el5 : putL (aDel L dd) 1000 ⟨0, 0⟩ = aSet (aDel L dd) 1000 ⟨0, 0⟩ := by unfold putL; rw [if_pos he4]
    rw [el5] at t5
    have hl5 : (aSet (aDel L dd) 1000 ⟨0, 0⟩).length = 200 := by rw [len_set_new hid4]; omega
    refine arI_w ?_
    refine ifA_w (fun _ => ?_) (fun hx => absurd hx (by decide))
    refine ifA_w (fun _ => ?_) (fun hx => absurd hx (by decide))
    refine ifA_w (fun _ => ?_) (fun hx => absurd hx (by decide))
    refine hlen H5 g _ O5 _ t5 (arI_w ?_)
    rw [hl5]
    refine ifA_w (fun _ => ?_) (fun hx => absurd hx (by decide))
    refine hin H5 g _ O5 ⟨0, 0, 64, 64⟩ _ t5 fun H6 p c z hL6 is6 cap6 hf6 => ?_
    rw [asSl_, inL_whole t5, hl5]
    rfl
end Go.Proofs
end
section
/- QuadFinds: all are found, each in the smallest rectangle around it, rising; parts of a rectangle have what it has. -/
namespace Go.Proofs
open Go Go.Vw Go.Vw.Ev
set_option linter.unusedVariables false
set_option linter.unusedSimpArgs false

def ptsC (ps : List Pt) : List AS := ps.flatMap ptC
theorem ptsC_len : ∀ l : List Pt, (ptsC l).length = l.length * 2
  | [] => rfl
  | r :: l => by have := ptsC_len l; simp only [ptsC, List.flatMap_cons, List.length_append] at *; rw [this, fr2, List.length_cons]; omega
theorem ptsC_at : ∀ (l : List Pt) (i : Nat) (h : i < l.length), ((ptsC l).drop (i * 2)).take 2 = ptC l[i]
  | p :: l, 0, _ => rfl
  | p :: l, i + 1, h => by
    have := ptsC_at l i (by simpa using h)
    simp only [List.getElem_cons_succ, ptsC, List.flatMap_cons] at *
    rw [← this, show (i + 1) * 2 = (ptC p).length + i * 2 by rw [fr2]; omega, ← List.drop_drop, List.drop_left]
/-- A row of points that came in. -/
def InP (H : AH) (p : AP) (n : Nat) (ps : List Pt) : Prop := ps.length = n ∧ (n ≠ 0 → ∃ g, p = .at g 0 ∧ H.has g ∧ H.get g = some (.fix (ptsC ps)))
theorem InP.le {H H' : AH} {p : AP} {n : Nat} {ps : List Pt} (h : InP H p n ps) (k : Le H H') : InP H' p n ps :=
  ⟨h.1, fun hn => (h.2 hn).imp fun g hg => ⟨hg.1, k.has g hg.2.1, (k.get g hg.2.1).trans hg.2.2⟩⟩
theorem on_cases {L : List (Int × Pt)} {id : Int} {p : Pt} (h0 : 0 ≤ id) (hk : id ∉ aKeys L) (hl : L.length < 200) : (On p = true ∧ putE L id p = 0 ∧ putL L id p = aSet L id p) ∨ (On p = false ∧ putE L id p = 14 ∧ putL L id p = L) := by
  cases e : On p with
  | true => have := putE_ok h0 e hk hl; exact .inl ⟨rfl, this, by unfold putL; rw [if_pos this]⟩
  | false => have : putE L id p = 14 := by unfold putE; rw [if_neg (by omega), if_pos e]
             exact .inr ⟨rfl, this, by unfold putL; rw [this]; rfl⟩
theorem srtI_last {l : List Int} {x : Int} (hx : x ∈ l) (hm : ∀ y ∈ l, y ≤ x) : ∃ h : 0 < (srtI l).length, (srtI l)[(srtI l).length - 1]'(by omega) = x := by
  have hp := srtI_perm l
  have hpos : 0 < (srtI l).length := List.length_pos_of_mem (hp.mem_iff.2 hx)
  refine ⟨hpos, Int.le_antisymm (hm _ (hp.mem_iff.1 (List.getElem_mem _))) ?_⟩
  obtain ⟨i, hi, e⟩ := List.getElem_of_mem (hp.mem_iff.2 hx)
  rw [← e]
  rcases Nat.lt_or_ge i ((srtI l).length - 1) with h | h
  · exact List.pairwise_iff_getElem.1 (srtI_sorted l) _ _ _ _ h
  · have : i = (srtI l).length - 1 := by omega
    subst this; exact Int.le_refl _
theorem srtI_strict {l : List Int} (hn : l.Nodup) {i j : Nat} (hj : j < (srtI l).length) (h : i < j) : (srtI l)[i] < (srtI l)[j] := by
  have h1 := List.pairwise_iff_getElem.1 (srtI_sorted l) i j (by omega) hj h
  have h2 := List.pairwise_iff_getElem.1 ((srtI_perm l).nodup_iff.2 hn) i j (by omega) hj h
  omega
theorem one_rect {p q : Pt} : RIn ⟨p.x, p.y, p.x + 1, p.y + 1⟩ q = true ↔ q = p := by
  unfold RIn
  simp only [Bool.and_eq_true, decide_eq_true_eq]
  cases p; cases q
  simp only [Pt.mk.injEq]
  omega
theorem sum_add (f h : Rc → Nat) : ∀ l : List Rc, (l.map fun r => f r + h r).sum = (l.map f).sum + (l.map h).sum
  | [] => rfl
  | r :: l => by simp only [List.map_cons, List.sum_cons, sum_add f h l]; omega
theorem sel_cons (pos : Int → Pt) (r : Rc) (k : Int) (ks : List Int) : ((k :: ks).filter fun j => RIn r (pos j)).length = n1 (RIn r (pos k)) + (ks.filter fun j => RIn r (pos j)).length := by
  rw [List.filter_cons]
  cases h : RIn r (pos k) <;> simp [n1] <;> omega
/-- Those in one are those in the other and those in the parts. -/
theorem minus_sum (pos : Int → Pt) (a b : Rc) : ∀ ks : List Int, (ks.filter fun j => RIn a (pos j)).length = (ks.filter fun j => RIn (RMeet a b) (pos j)).length + ((RMinus a b).map fun r => (ks.filter fun j => RIn r (pos j)).length).sum
  | [] => by have : ∀ l : List Rc, (l.map fun _ => 0).sum = 0 := fun l => by induction l <;> simp_all
             simp [this]
  | k :: ks => by
    simp only [sel_cons, sum_add, ← filter_n1]
    have := minus_count a b (pos k)
    have := minus_sum pos a b ks
    omega
theorem inL_len (L : List (Int × Pt)) (r : Rc) : (inL L r).length = ((aKeys L).filter fun j => RIn r (posOf L j)).length := srtI_len _
theorem inL_sum (L : List (Int × Pt)) (a b : Rc) : (inL L a).length = (inL L (RMeet a b)).length + ((RMinus a b).map fun r => (inL L r).length).sum := by
  simp only [inL_len]; exact minus_sum _ _ _ _
theorem minus_le (a b : Rc) : (RMinus a b).length ≤ 4 := by
  unfold RMinus
  split
  · simp
  split
  · simp
  · exact Nat.le_trans (List.length_filter_le _ _) (by simp [quads])
theorem rcsC_at : ∀ (l : List Rc) (i : Nat) (h : i < l.length), ((rcsC l).drop (i * 4)).take 4 = rcC l[i]
  | p :: l, 0, _ => rfl
  | p :: l, i + 1, h => by
    have := rcsC_at l i (by simpa using h)
    simp only [List.getElem_cons_succ, rcsC, List.flatMap_cons] at *
    rw [← this, show (i + 1) * 4 = (rcC p).length + i * 4 by rw [fr4]; omega, ← List.drop_drop, List.drop_left]
theorem inL_le (L : List (Int × Pt)) (r : Rc) : (inL L r).length ≤ L.length := by
  rw [inL_len]; exact Nat.le_trans (List.length_filter_le _ _) (by simp [aKeys])
theorem B_law8_QuadFinds_ {lf : Nat} {cl : Cl} (hlf : 1000 ≤ lf) (hkn : CTrue i_law8_known cl) (hnew : CNewQ cl) (hput : CPut cl) (hin : CInT cl) (hon : CPtB i_ref3_On On cl) (hmeet : CRcRc i_ref3_Meet RMeet cl) (hminus : CMinus cl) (hdep : CDepth cl)
    {H : AH} {p : AP} {n : Nat} {c : ACap} {ps : List Pt} {a b : Rc} (hI : InP H p n ps) : B_law8_QuadFinds lf cl p n c 2 (rcC a) (rcC b) H isT = true := by
  unfold B_law8_QuadFinds
  refine newK_w (newK_w ?_)
  have hL0 : Le H ((H.new (.row (rcC a))).new (.row (rcC b))) := (Le.new H _).newr _
  have ga0 := get_new1 H (.row (rcC a)) (.row (rcC b))
  have gb0 := get_new (H.new (.row (rcC a))) (.row (rcC b))
  have ha0 : ((H.new (.row (rcC a))).new (.row (rcC b))).has H.nx := has_new (has_new_self _ _)
  have hb0 := has_new_self (H.new (.row (rcC a))) (.row (rcC b))
  generalize (H.new (.row (rcC a))).nx = gb at *
  generalize H.nx = ga at *
  generalize (H.new (.row (rcC a))).new (.row (rcC b)) = H0 at *
  have hI0 := hI.le hL0
  clear hI hL0
  rw [hkn]
  refine arB_w ?_
  rw [fB_eq]
  refine ifA_w (fun hx => absurd hx (by decide)) (fun _ => ?_)
  rw [fB_eq, iLt_dec]
  refine ifA_w (fun _ => rfl) (fun h60 => ?_)
  have h60 : n ≤ 60 := by have := of_decide_eq_false h60; simp only [Int.ofNat_eq_natCast, Int.cast_ofNat_Int] at this; omega
  refine hnew _ _ fun H1 g O hL1 tr1 hz1 => ?_
  rw [asP_]
  refine loopX_w (fun x Hk => x.1 = (p, n, c, 2) ∧ x.2.1 = .at ga 0 ∧ x.2.2.1 = .at gb 0 ∧ x.2.2.2.1 = .at g 0 ∧ Le H0 Hk ∧ ∃ (i m : Nat), x.2.2.2.2.1 = (m : Int) ∧ x.2.2.2.2.2 = (i : Int) ∧ i ≤ n ∧ m ≤ i ∧
      ∃ L O, TR Hk g L O ∧ (∀ a, O a → ¬ H0.has a) ∧ L.length = m ∧ ∀ k ∈ aKeys L, 0 ≤ k ∧ k < 7 * i) (fun x => 60 - x.2.2.2.2.2.toNat)
    ⟨rfl, rfl, rfl, rfl, hL1, 0, 0, rfl, rfl, by omega, by omega, [], O, tr1, hz1, rfl, fun k h => (by cases h)⟩ (by simp; omega) ?_
  clear tr1 hL1 hz1 O H1
  rintro self ⟨x1, x2, x3, x4, x5, x6⟩ H1 ⟨e1, e2, e3, e4, hL1, i, m, e5, e6, hi, hmi, L, O, tr, hz, hlL, hkeys⟩ ih
  simp only at e1 e2 e3 e4 e5 e6
  subst e1 e2 e3 e4 e5 e6
  simp only [pR_, fB_eq, iLt_dec, iMul_, iAdd_, Int.ofNat_eq_natCast, Int.cast_ofNat_Int]
  refine ifA_w (fun hx => ?_) (fun hx => ?_)
  · have hx : i < n := by have := of_decide_eq_true hx; omega
    obtain ⟨gp, rfl, hgp, gp0⟩ := hI0.2 (by omega)
    have hlen : (ptsC ps).length = n * 2 := by rw [ptsC_len, hI0.1]
    have hat := ptsC_at ps i (by rw [hI0.1]; omega)
    generalize ps[i]'(by rw [hI0.1]; omega) = q at hat
    have hx0 : (ptsC ps)[i * 2 + 0]? = some (.int .i64 q.x) := by have := congrArg (·[0]?) hat; simpa [List.getElem?_take, List.getElem?_drop, ptC] using this
    have hx1 : (ptsC ps)[i * 2 + 1]? = some (.int .i64 q.y) := by have := congrArg (·[1]?) hat; simpa [List.getElem?_take, List.getElem?_drop, ptC] using this
    refine w64_w (by omega) (by omega) ?_
    simp only [nilK_at, fN_eq, Nat.add_eq, Nat.mul_eq, Nat.zero_add]
    refine idxK_w (by omega) (by omega) (rowK_wf ((hL1.get _ hgp).trans gp0) (ldG_we (ys := ptC q) (by rw [hlen]; omega) (by decide) (by rw [Int.toNat_natCast]; exact hat) ?_))
    have hid : (7 * i : Int) ∉ aKeys L := fun h => by have := hkeys _ h; omega
    refine hput H1 g L O (7 * i) q _ tr (by omega) fun H2 O2 f2 t2 o2 => ?_
    have hL2 : Le H0 H2 := ⟨fun a ha => f2.has a (hL1.has a ha), fun a ha => (f2.get a (hL1.has a ha) fun h => hz a h ha).trans (hL1.get a ha)⟩
    have hz2 : ∀ a, O2 a → ¬ H0.has a := fun a h => (o2 a h).elim (hz a) fun h2 h3 => h2 (hL1.has a h3)
    refine arI_w ?_
    refine idxK_w (by omega) (by omega) (rowK_wf ((hL2.get _ hgp).trans gp0) (ldG_we (ys := ptC q) (by rw [hlen]; omega) (by decide) (by rw [Int.toNat_natCast]; exact hat) ?_))
    refine hon _ _ _ fun H3 h3 => arB_w ?_
    have t3 : TR H3 g (putL L (7 * i) q) O2 := t2.fr (h3.fr (fun _ => False)) (fun a _ h => h)
    have hL3 := hL2.trans h3
    rcases on_cases (p := q) (by omega : (0 : Int) ≤ 7 * i) hid (by omega) with ⟨eo, ee, el⟩ | ⟨eo, ee, el⟩
    · rw [ee, eo]
      rw [el] at t3
      refine ifA_w (fun hx => absurd hx (by decide)) (fun _ => ifA_w (fun _ => ?_) (fun hx => absurd hx (by decide)))
      refine w64_w (by omega) (by omega) ?_
      refine idxK_w (by omega) (by omega) (rowK_wf ((hL3.get _ hgp).trans gp0) (ldI_w (by rw [Int.toNat_natCast]; exact hx0) ?_))
      refine idxK_w (by omega) (by omega) (rowK_wf ((hL3.get _ hgp).trans gp0) (ldI_w (by rw [Int.toNat_natCast]; exact hx1) ?_))
      have ho := eo
      unfold On at ho
      simp only [Bool.and_eq_true, decide_eq_true_eq] at ho
      refine idxK_w (by omega) (by omega) (rowK_wf ((hL3.get _ hgp).trans gp0) (ldI_w (by rw [Int.toNat_natCast]; exact hx0) (w64_w (by omega) (by omega) ?_)))
      refine idxK_w (by omega) (by omega) (rowK_wf ((hL3.get _ hgp).trans gp0) (ldI_w (by rw [Int.toNat_natCast]; exact hx1) (w64_w (by omega) (by omega) ?_)))
      refine hin H3 g (aSet L (7 * i) q) O2 ⟨q.x, q.y, q.x + 1, q.y + 1⟩ _ t3 fun H4 p4 c4 z4 h4 is4 cap4 hf4 => ?_
      rw [asSl_]
      have hL4 := hL3.trans h4
      have t4 : TR H4 g (aSet L (7 * i) q) O2 := t3.fr (h4.fr (fun _ => False)) (fun a _ h => h)
      have hkeys' : ∀ k ∈ aKeys (aSet L (7 * i) q), 0 ≤ k ∧ k ≤ 7 * i := by
        intro k hk
        rw [aKeys_set_new L q hid, List.mem_append, List.mem_singleton] at hk
        rcases hk with hk | hk
        · have := hkeys k hk; omega
        · omega
      have hmem : (7 * i : Int) ∈ inSel (aSet L (7 * i) q) ⟨q.x, q.y, q.x + 1, q.y + 1⟩ (aKeys (aSet L (7 * i) q)) := by
        refine List.mem_filter.2 ⟨by rw [aKeys_set_new L q hid]; simp, ?_⟩
        rw [posOf_set]
        exact one_rect.2 rfl
      have hl2 : 0 < (inL (aSet L (7 * i) q) ⟨q.x, q.y, q.x + 1, q.y + 1⟩).length ∧ (inL (aSet L (7 * i) q) ⟨q.x, q.y, q.x + 1, q.y + 1⟩)[(inL (aSet L (7 * i) q) ⟨q.x, q.y, q.x + 1, q.y + 1⟩).length - 1]? = some (7 * i : Int) := by
        obtain ⟨h1, h2⟩ := srtI_last hmem fun y hy => (hkeys' y (List.mem_filter.1 hy).1).2
        exact ⟨h1, (List.getElem?_eq_getElem (by unfold inL; omega)).trans (congrArg some h2)⟩
      have hlen' : (inL (aSet L (7 * i) q) ⟨q.x, q.y, q.x + 1, q.y + 1⟩).length ≤ 1000 := by
        have h1 : (inL (aSet L (7 * i) q) ⟨q.x, q.y, q.x + 1, q.y + 1⟩).length ≤ (aKeys (aSet L (7 * i) q)).length := by unfold inL inSel; rw [srtI_len]; exact List.length_filter_le _ _
        have h2 : (aKeys (aSet L (7 * i) q)).length = L.length + 1 := (by simp [aKeys] : (aKeys (aSet L (7 * i) q)).length = (aSet L (7 * i) q).length).trans (len_set_new hid)
        omega
      generalize inL (aSet L (7 * i) q) ⟨q.x, q.y, q.x + 1, q.y + 1⟩ = one at *
      obtain ⟨hpos', hlast'⟩ := hl2
      obtain ⟨g4, cs4, rfl, hh4, hg4, hc4⟩ := is4.at (i := one.length - 1) (by omega)
      have hlast2 : one[one.length - 1]'(by omega) = 7 * i := by rw [List.getElem?_eq_getElem (by omega)] at hlast'; exact Option.some.inj hlast'
      rw [hlast2] at hc4
      rw [iEq_beq]
      refine ifA_w (fun hx => absurd (of_decide_eq_true hx) (by omega)) (fun _ => ?_)
      rw [iSub_]
      refine w64_w (by omega) (by omega) ?_
      simp only [nilK_at, Nat.zero_add]
      refine idxK_w (by omega) (by omega) (rowK_w hg4 (ldI_w (n := 7 * i) (by rw [show ((one.length : Int) - 1).toNat * 1 = one.length - 1 by omega]; exact hc4) (w64_w (by omega) (by omega) ?_)))
      refine ifA_w (fun hx => absurd hx (by simp [iEq_beq])) (fun _ => ?_)
      refine w64_w (by omega) (by omega) (ih _ _ ⟨rfl, rfl, rfl, rfl, hL4, i + 1, m + 1, by simp, by simp, by omega, by omega, _, O2, t4, hz2, by rw [len_set_new hid, hlL], fun k h => by have := hkeys' k h; omega⟩ (by simp; omega))
    · rw [ee, eo]
      rw [el] at t3
      refine ifA_w (fun hx => absurd hx (by decide)) (fun _ => ifA_w (fun hx => absurd hx (by decide)) (fun _ => ?_))
      exact w64_w (by omega) (by omega) (ih _ _ ⟨rfl, rfl, rfl, rfl, hL3, i + 1, m, rfl, by simp, by omega, by omega, L, O2, t3, hz2, hlL, fun k h => by have := hkeys k h; omega⟩ (by simp; omega))
  · have hx : i = n := by have := of_decide_eq_false hx; omega
    refine hin H1 g L O ⟨0, 0, 64, 64⟩ _ tr fun H2 p2 c2 z2 h2 is2 cap2 hf2 => ?_
    rw [asSl_]
    have hL2 := hL1.trans h2
    have t2 : TR H2 g L O := tr.fr (h2.fr (fun _ => False)) (fun a _ h => h)
    have hw := inL_whole tr
    have hst0 : (inL L ⟨0, 0, 64, 64⟩).Pairwise (· < ·) := List.pairwise_iff_getElem.2 fun j k _ hk hj => srtI_strict (tr.nod.filter _) hk hj
    generalize inL L ⟨0, 0, 64, 64⟩ = all at *
    have hst : ∀ j k (hk : k < all.length) (hj : j < k), all[j] < all[k] := fun j k hk hj => List.pairwise_iff_getElem.1 hst0 j k (by omega) hk hj
    refine loopX_w (fun x H' => H' = H2 ∧ x.1 = .at ga 0 ∧ x.2.1 = .at gb 0 ∧ x.2.2.1 = .at g 0 ∧ x.2.2.2.1 = (m : Int) ∧ x.2.2.2.2.1 = (p2, all.length, c2, z2) ∧ ∃ k : Nat, x.2.2.2.2.2 = (k : Int) ∧ 1 ≤ k ∧ k ≤ all.length + 1) (fun x => 200 - x.2.2.2.2.2.toNat)
      ⟨rfl, rfl, rfl, rfl, rfl, rfl, 1, rfl, by omega, by omega⟩ (by simp; omega) ?_
    rintro self ⟨y1, y2, y3, y4, y5, y6⟩ H' ⟨e0, e1, e2, e3, e4, e5, k, e6, hk1, hk2⟩ ih2
    simp only at e1 e2 e3 e4 e5 e6
    subst e0 e1 e2 e3 e4 e5 e6
    simp only [pR_, fB_eq, iLt_dec, iMul_, iAdd_, iSub_, Int.ofNat_eq_natCast, Int.cast_ofNat_Int]
    refine ifA_w (fun hx => ?_) (fun hx => ?_)
    · have hx : k < all.length := by have := of_decide_eq_true hx; omega
      obtain ⟨g4, cs4, rfl, hh4, hg4, hc4⟩ := is2.at (i := k - 1) (by omega)
      obtain ⟨g5, cs5, e5, hh5, hg5, hc5⟩ := is2.at (i := k) hx
      cases e5
      rw [hg4] at hg5
      cases hg5
      refine w64_w (by omega) (by omega) ?_
      simp only [nilK_at, fN_eq, Nat.add_eq, Nat.mul_eq, Nat.zero_add, Nat.mul_one]
      refine idxK_w (by omega) (by omega) (rowK_w hg4 (ldI_w (by rw [show ((k : Int) - 1).toNat = k - 1 by omega]; exact hc4) ?_))
      refine idxK_w (by omega) (by omega) (rowK_w hg4 (ldI_w (by rw [Int.toNat_natCast]; exact hc5) ?_))
      have := hst (k - 1) k hx (by omega)
      refine ifA_w (fun hx => ?_) (fun _ => ?_)
      · rw [iLe_dec] at hx; have := of_decide_eq_true hx; omega
      · exact w64_w (by omega) (by omega) (ih2 _ _ ⟨rfl, rfl, rfl, rfl, rfl, rfl, k + 1, by simp, by omega, by omega⟩ (by simp; omega))
    · have ga2 := (hL2.get _ ha0).trans ga0
      have gb2 := (hL2.get _ hb0).trans gb0
      refine joinX_w (fun x Hx => Hx = H' ∧ x.1 = .at ga 0 ∧ x.2.1 = .at gb 0 ∧ x.2.2.1 = .at g 0 ∧ x.2.2.2.1 = (m : Int) ∧ x.2.2.2.2.1 = (p2, all.length, c2, z2)) ?_ ?_
      · rintro ⟨y1, y2, y3, y4, y5, y6⟩ H3 ⟨e0, e1, e2, e3, e4, e5⟩
        simp only at e1 e2 e3 e4 e5
        subst e0 e1 e2 e3 e4 e5
        simp only [pR_, fB_eq, nilK_at, iEq_beq]
        refine ifA_w (fun _ => ?_) (fun _ => ?_)
        · have : ((all.length : Int) == (m : Int)) = true := by simp; omega
          simp only [Int.ofNat_eq_natCast, this]
          rfl
        refine rowK_w ga2 (ldG_we (by simp [rcC]) (by decide) rfl (rowK_w gb2 (ldG_we (by simp [rcC]) (by decide) rfl (hmeet _ _ _ _ fun H4 h4 => ?_))))
        rw [asG_]
        have t4 : TR H4 g L O := t2.fr (h4.fr (fun _ => False)) (fun a _ h => h)
        refine hin H4 g L O (RMeet a b) _ t4 fun H5 p5 c5 z5 h5 is5 cap5 hf5 => ?_
        rw [asSl_]
        have t5 : TR H5 g L O := t4.fr (h5.fr (fun _ => False)) (fun a _ h => h)
        have h25 := h4.trans h5
        have hL5 := hL2.trans h25
        have ga5 := (hL5.get _ ha0).trans ga0
        have gb5 := (hL5.get _ hb0).trans gb0
        refine rowK_w ga5 (ldG_we (by simp [rcC]) (by decide) rfl (rowK_w gb5 (ldG_we (by simp [rcC]) (by decide) rfl (hminus _ _ _ _ fun H6 p6 c6 z6 h6 sl6 => ?_))))
        rw [asSl_]
        have t6 : TR H6 g L O := t5.fr (h6.fr (fun _ => False)) (fun a _ h => h)
        have hsum := inL_sum L a b
        have hM4 : (RMinus a b).length ≤ 4 := minus_le a b
        refine loopX_w (fun x Hx => x.1 = .at ga 0 ∧ x.2.1 = .at g 0 ∧ x.2.2.1 = (m : Int) ∧ x.2.2.2.1 = (p2, all.length, c2, z2) ∧ x.2.2.2.2.2.1 = (p6, (RMinus a b).length, c6, z6) ∧ Le H6 Hx ∧ ∃ j : Nat, x.2.2.2.2.2.2 = (j : Int) ∧ j ≤ (RMinus a b).length ∧
            x.2.2.2.2.1 = (((inL L (RMeet a b)).length + (((RMinus a b).take j).map fun r => (inL L r).length).sum : Nat) : Int) ∧ (((RMinus a b).take j).map fun r => (inL L r).length).sum ≤ j * 60) (fun x => 10 - x.2.2.2.2.2.2.toNat)
          ⟨rfl, rfl, rfl, rfl, rfl, Le.refl _, 0, rfl, by omega, by simp, by simp⟩ (by simp; omega) ?_
        rintro self ⟨y1, y2, y3, y4, y5, y6, y7⟩ H7 ⟨e1, e2, e3, e4, e6, l7, j, e7, hj, e5, hb60⟩ ih3
        simp only at e1 e2 e3 e4 e5 e6 e7
        subst e1 e2 e3 e4 e5 e6 e7
        have t7 : TR H7 g L O := t6.fr (l7.fr (fun _ => False)) (fun a _ h => h)
        have hLR := inL_le L (RMeet a b)
        simp only [pR_, fB_eq, iLt_dec, iMul_, iAdd_, iSub_, Int.ofNat_eq_natCast, Int.cast_ofNat_Int]
        refine ifA_w (fun hx => ?_) (fun hx => ?_)
        · have hx : j < (RMinus a b).length := by have := of_decide_eq_true hx; omega
          rcases sl6.rep with ⟨h0, _⟩ | ⟨g6, rfl, _, hg6, hh6, _⟩
          · omega
          simp only [nilK_at, fN_eq, Nat.add_eq, Nat.mul_eq, Nat.zero_add]
          refine idxK_w (by omega) (by omega) (rowK_w ((l7.get _ hh6).trans hg6) (ldG_we (ys := rcC (RMinus a b)[j]) (by rw [rcsC_len]; omega) (by decide) (by rw [Int.toNat_natCast]; exact rcsC_at _ j hx) ?_))
          refine hin H7 g L O (RMinus a b)[j] _ t7 fun H8 p8 c8 z8 h8 is8 cap8 hf8 => ?_
          rw [asSl_]
          have hle8 := inL_le L (RMinus a b)[j]
          have htk : (((RMinus a b).take (j + 1)).map fun r => (inL L r).length).sum = (((RMinus a b).take j).map fun r => (inL L r).length).sum + (inL L (RMinus a b)[j]).length := by
            rw [List.take_succ_eq_append_getElem hx, List.map_append, List.sum_append]; simp
          refine w64_w (by omega) (by omega) (w64_w (by omega) (by omega) (ih3 _ _ ⟨rfl, rfl, rfl, rfl, rfl, l7.trans h8, j + 1, by simp, by omega, ?_, ?_⟩ (by simp; omega)))
          · simp only [htk]; omega
          · rw [htk]; omega
        · have hx : j = (RMinus a b).length := by have := of_decide_eq_false hx; omega
          rw [hx, List.take_length] at *
          have ga7 := (l7.get _ (h6.has _ (hL5.has _ ha0))).trans ((h6.get _ (hL5.has _ ha0)).trans ga5)
          refine ifA_w (fun _ => ?_) (fun hx => absurd hx (by first | (simp; omega) | (rw [iEq_beq]; simp; omega)))
          simp only [nilK_at]
          refine rowK_w ga7 (ldG_we (by simp [rcC]) (by decide) rfl ?_)
          refine hin H7 g L O a _ t7 fun H8 p8 c8 z8 h8 is8 cap8 hf8 => ?_
          rw [asSl_]
          have t8 : TR H8 g L O := t7.fr (h8.fr (fun _ => False)) (fun a _ h => h)
          refine ifA_w (fun _ => ?_) (fun hx => absurd hx (by first | (simp; omega) | (rw [iEq_beq]; simp; omega)))
          refine hdep H8 g L O _ t8 fun q hq hp => arI_w ?_
          have := low_dep (Inv.low hq 4 (by omega))
          have e4 : iLe (q.dep : Int) 4 = true := by rw [iLe_dec]; simp; omega
          simp only [e4]
          rfl
      · intro J hJ
        simp only [nilK_at, fN_eq, Nat.add_eq, Nat.zero_add, rowK_R, ga2, gb2, rowR_row, ldI_R, rc0, rc1, rc2, rc3, ldIR_int, fI_eq]
        exact ifA_w (fun _ => hJ _ _ ⟨rfl, rfl, rfl, rfl, rfl, rfl⟩) (fun _ => hJ _ _ ⟨rfl, rfl, rfl, rfl, rfl, rfl⟩)
end Go.Proofs
end
section
/- Points, rectangles and rows of points as they come in. -/
namespace Go.Proofs
open Go Go.Vw Go.Vw.Ev
set_option linter.unusedVariables false
theorem ag_rc {xs : List AS} (h : LeavesV [Leaf.int .i64, Leaf.int .i64, Leaf.int .i64, Leaf.int .i64] xs) : ∃ r : Rc, xs = rcC r := by
  match xs, h with
  | [x0, x1, x2, x3], ⟨h0, h1, h2, h3, _⟩ =>
    cases x0 <;> first | exact h0.elim | skip
    cases x1 <;> first | exact h1.elim | skip
    cases x2 <;> first | exact h2.elim | skip
    cases x3 <;> first | exact h3.elim | skip
    obtain ⟨rfl, _⟩ := h0; obtain ⟨rfl, _⟩ := h1; obtain ⟨rfl, _⟩ := h2; obtain ⟨rfl, _⟩ := h3
    exact ⟨⟨_, _, _, _⟩, rfl⟩
theorem ag_pt {xs : List AS} (h : LeavesV [Leaf.int .i64, Leaf.int .i64] xs) : ∃ r : Pt, xs = ptC r := by
  match xs, h with
  | [x0, x1], ⟨h0, h1, _⟩ =>
    cases x0 <;> first | exact h0.elim | skip
    cases x1 <;> first | exact h1.elim | skip
    obtain ⟨rfl, _⟩ := h0; obtain ⟨rfl, _⟩ := h1
    exact ⟨⟨_, _⟩, rfl⟩
theorem sl_pt : ∀ (n : Nat) (cs : List AS), LeavesV (List.replicate n [Leaf.int .i64, Leaf.int .i64]).flatten cs → ∃ l : List Pt, cs = ptsC l ∧ l.length = n
  | 0, [], _ => ⟨[], rfl, rfl⟩
  | 0, _ :: _, h => h.elim
  | n + 1, [], h => h.elim
  | n + 1, [_], h => h.2.elim
  | n + 1, x :: y :: r, h => by
    obtain ⟨h1, h2, h4⟩ := h
    cases x <;> first | exact h1.elim | skip
    cases y <;> first | exact h2.elim | skip
    obtain ⟨l, rfl, hl⟩ := sl_pt n r h4
    obtain ⟨rfl, _⟩ := h1
    obtain ⟨rfl, _⟩ := h2
    exact ⟨⟨_, _⟩ :: l, rfl, by simp [hl]⟩
end Go.Proofs
end
