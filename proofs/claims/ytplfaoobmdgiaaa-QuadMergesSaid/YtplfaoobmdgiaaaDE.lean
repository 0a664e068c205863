import Derived.Test.YtplfaoobmdgiaaaDD
section
/- The quadtree's depth, by the points alone. -/
namespace Go.Proofs
open Go Go.Vw Go.Vw.Ev
set_option linter.unusedVariables false
set_option linter.unusedSimpArgs false

def inK (pos : Int → Pt) (x y : Int) (d i : Nat) (id : Int) : Bool := kid (pos id) x y d == i
def deepN (pos : Int → Pt) : Nat → List Int → Int → Int → Nat → Nat
  | 0, _, _, _, _ => 0
  | h + 1, l, x, y, d => if l.length ≤ 4 then 0 else
    max (max (max (max 0 (1 + deepN pos h (l.filter (inK pos x y d 0)) (kx x d 0) (ky y d 0) (d + 1))) (1 + deepN pos h (l.filter (inK pos x y d 1)) (kx x d 1) (ky y d 1) (d + 1)))
      (1 + deepN pos h (l.filter (inK pos x y d 2)) (kx x d 2) (ky y d 2) (d + 1))) (1 + deepN pos h (l.filter (inK pos x y d 3)) (kx x d 3) (ky y d 3) (d + 1))
theorem filt_same {pos : Int → Pt} {x y : Int} {d i : Nat} {l : List Int} (h : ∀ id ∈ l, kid (pos id) x y d = i) : l.filter (inK pos x y d i) = l := List.filter_eq_self.2 fun id hid => by simp [inK, h id hid]
theorem filt_none {pos : Int → Pt} {x y : Int} {d i j : Nat} {l : List Int} (h : ∀ id ∈ l, kid (pos id) x y d = j) (hn : j ≠ i) : l.filter (inK pos x y d i) = [] := List.filter_eq_nil_iff.2 fun id hid => by simp [inK, h id hid, hn]
theorem all_kid {pos : Int → Pt} {b : Pn} {k : Nat → QT} {x y : Int} {d : Nat} (hi : Inv pos (.node b k) x y d) : ∀ i, i < 4 → (QT.node b k).all.filter (inK pos x y d i) = (k i).all := by
  obtain ⟨h1, h2, h3⟩ := inv_node.1 hi
  have hk : ∀ j, j < 4 → ∀ id ∈ (k j).all, kid (pos id) x y d = j := fun j hj id hid => ((h3 j hj).mem id hid).up (by omega) hj |>.2
  have a := hk 0 (by decide)
  have b := hk 1 (by decide)
  have c := hk 2 (by decide)
  have e := hk 3 (by decide)
  refine lt4 (P := fun i => (QT.node _ k).all.filter (inK pos x y d i) = (k i).all) ?_ ?_ ?_ ?_ <;> simp only [QT.all, List.filter_append]
  · rw [filt_same a, filt_none b (by decide), filt_none c (by decide), filt_none e (by decide)]; simp
  · rw [filt_same b, filt_none a (by decide), filt_none c (by decide), filt_none e (by decide)]; simp
  · rw [filt_same c, filt_none b (by decide), filt_none a (by decide), filt_none e (by decide)]; simp
  · rw [filt_same e, filt_none b (by decide), filt_none c (by decide), filt_none a (by decide)]; simp
theorem dep_deepN {pos : Int → Pt} : ∀ {q : QT} {x y : Int} {d h : Nat}, Inv pos q x y d → d + h = 4 → q.dep = deepN pos h q.all x y d
  | .leaf _ _ _ ids, x, y, d, h, hi, hd => by
    cases h with
    | zero => rfl
    | succ h =>
      have : ids.length ≤ 4 := by rcases hi.1 with h | h <;> omega
      simp [QT.dep, deepN, QT.all, this]
  | .node b k, x, y, d, h, hi, hd => by
    obtain ⟨h1, h2, h3⟩ := inv_node.1 hi
    obtain ⟨h, rfl⟩ : ∃ h', h = h' + 1 := ⟨h - 1, by omega⟩
    have e := all_kid hi
    rw [deepN, if_neg (by omega), e 0 (by decide), e 1 (by decide), e 2 (by decide), e 3 (by decide), ← dep_deepN (h3 0 (by decide)) (by omega), ← dep_deepN (h3 1 (by decide)) (by omega), ← dep_deepN (h3 2 (by decide)) (by omega), ← dep_deepN (h3 3 (by decide)) (by omega)]
    rfl
theorem deepN_perm {pos : Int → Pt} : ∀ (h : Nat) {l l' : List Int} (x y : Int) (d : Nat), l.Perm l' → deepN pos h l x y d = deepN pos h l' x y d
  | 0, _, _, _, _, _, _ => rfl
  | h + 1, l, l', x, y, d, hp => by
    have f := fun i => deepN_perm (pos := pos) h (kx x d i) (ky y d i) (d + 1) (hp.filter (inK pos x y d i))
    simp only [deepN, hp.length_eq, f]
theorem deepN_sub {pos : Int → Pt} : ∀ (h : Nat) {l l' : List Int} (x y : Int) (d : Nat), l.Sublist l' → deepN pos h l x y d ≤ deepN pos h l' x y d
  | 0, _, _, _, _, _, _ => Nat.le_refl _
  | h + 1, l, l', x, y, d, hp => by
    have f := fun i => deepN_sub (pos := pos) h (kx x d i) (ky y d i) (d + 1) (hp.filter (inK pos x y d i))
    have f0 := f 0
    have f1 := f 1
    have f2 := f 2
    have f3 := f 3
    have := hp.length_le
    unfold deepN
    split
    · exact Nat.zero_le _
    · rw [if_neg (by omega)]; omega
theorem deepN_congr {pos pos' : Int → Pt} : ∀ (h : Nat) {l : List Int} (x y : Int) (d : Nat), (∀ id ∈ l, pos id = pos' id) → deepN pos h l x y d = deepN pos' h l x y d
  | 0, _, _, _, _, _ => rfl
  | h + 1, l, x, y, d, he => by
    have e : ∀ i, l.filter (inK pos x y d i) = l.filter (inK pos' x y d i) := fun i => List.filter_congr fun id hid => by simp only [inK, he id hid]
    have f := fun i => deepN_congr (pos := pos) (pos' := pos') h (l := l.filter (inK pos' x y d i)) (kx x d i) (ky y d i) (d + 1) (fun id hid => he id (List.mem_filter.1 hid).1)
    simp only [deepN, e, f]
theorem deepN_le {pos : Int → Pt} : ∀ (h : Nat) (l : List Int) (x y : Int) (d : Nat), deepN pos h l x y d ≤ h
  | 0, _, _, _, _ => Nat.le_refl _
  | h + 1, l, x, y, d => by
    have f := fun i => deepN_le (pos := pos) h (l.filter (inK pos x y d i)) (kx x d i) (ky y d i) (d + 1)
    have f0 := f 0
    have f1 := f 1
    have f2 := f 2
    have f3 := f 3
    unfold deepN
    split <;> omega
/-- Five at one place are as deep as may be. -/
theorem deepN_five {pos : Int → Pt} {p : Pt} : ∀ (h : Nat) {l : List Int} (x y : Int) (d : Nat), 4 < (l.filter fun id => decide (pos id = p)).length → deepN pos h l x y d = h
  | 0, _, _, _, _, _ => rfl
  | h + 1, l, x, y, d, hl => by
    have h1 : (l.filter fun id => decide (pos id = p)).length ≤ l.length := List.length_filter_le _ _
    have e : (l.filter (inK pos x y d (kid p x y d))).filter (fun id => decide (pos id = p)) = l.filter fun id => decide (pos id = p) := by
      rw [List.filter_filter]
      refine List.filter_congr fun id _ => ?_
      by_cases hp : pos id = p
      · simp [hp, inK]
      · simp [hp]
    have f := deepN_five (pos := pos) (p := p) h (l := l.filter (inK pos x y d (kid p x y d))) (kx x d (kid p x y d)) (ky y d (kid p x y d)) (d + 1) (by rw [e]; exact hl)
    have g := fun i => deepN_le (pos := pos) h (l.filter (inK pos x y d i)) (kx x d i) (ky y d i) (d + 1)
    have g0 := g 0
    have g1 := g 1
    have g2 := g 2
    have g3 := g 3
    have hk := kid_lt p x y d
    rw [deepN, if_neg (by omega)]
    rcases (by omega : kid p x y d = 0 ∨ kid p x y d = 1 ∨ kid p x y d = 2 ∨ kid p x y d = 3) with e | e | e | e <;> rw [e] at f <;> omega
def depL (L : List (Int × Pt)) : Nat := deepN (posOf L) 4 (aKeys L) 0 0 0
def CDepthL (cl : Cl) : Prop := ∀ H g L O K, TR H g L O → K (.s (.int .i64 (depL L : Nat))) H = true → cl i_quad_Tree_Depth [.s (.ptr (.at g 0))] H K = true
theorem CDepth.pure {cl : Cl} (h : CDepth cl) : CDepthL cl := fun H g L O K tr hk => h H g L O K tr fun q hq hp => by
  rw [dep_deepN hq (h := 4) (by omega), deepN_perm 4 0 0 0 hp]; exact hk
theorem depL_le (L : List (Int × Pt)) : depL L ≤ 4 := deepN_le 4 _ _ _ _
end Go.Proofs
end
section
/- QuadMerges: what was put and dropped leaves the tree as shallow as it was. -/
namespace Go.Proofs
open Go Go.Vw Go.Vw.Ev
set_option linter.unusedVariables false
set_option linter.unusedSimpArgs false

/-- So many more at one place, from a number on. -/
def ext (p : Pt) : Int → Nat → List (Int × Pt)
  | _, 0 => []
  | a, n + 1 => (a, p) :: ext p (a + 1) n
theorem ext_len (p : Pt) : ∀ (n : Nat) (a : Int), (ext p a n).length = n
  | 0, _ => rfl
  | n + 1, a => by simp [ext, ext_len p n]
theorem ext_keys (p : Pt) : ∀ (n : Nat) (a k : Int), k ∈ aKeys (ext p a n) ↔ a ≤ k ∧ k < a + n
  | 0, a, k => by simp [ext, aKeys]; try omega
  | n + 1, a, k => by
    have := ext_keys p n (a + 1) k
    simp only [aKeys, ext, List.map_cons, List.mem_cons] at *
    rw [this]; omega
theorem ext_snoc (p : Pt) : ∀ (n : Nat) (a : Int), ext p a n ++ [(a + n, p)] = ext p a (n + 1)
  | 0, a => by simp [ext]
  | n + 1, a => by
    have := ext_snoc p n (a + 1)
    simp only [ext, List.cons_append] at *
    rw [← this, show a + 1 + (n : Int) = a + ((n + 1 : Nat) : Int) by omega]
theorem ext_get (p : Pt) : ∀ (n : Nat) (a k : Int), k ∈ aKeys (ext p a n) → aGet (ext p a n) k = some p
  | 0, a, k, h => by simp [ext, aKeys] at h
  | n + 1, a, k, h => by
    simp only [ext, aGet]
    split
    · rfl
    · rename_i hk
      refine ext_get p n (a + 1) k ?_
      rw [ext_keys] at *
      omega
theorem aSet_app {β : Type} : ∀ {l : List (Int × β)} {k : Int} {v : β}, k ∉ aKeys l → aSet l k v = l ++ [(k, v)]
  | [], _, _, _ => rfl
  | x :: r, k, v, h => by
    simp only [aKeys, List.map_cons, List.mem_cons, not_or] at h
    simp only [aSet, if_neg (fun e : x.1 = k => h.1 e.symm), List.cons_append]
    rw [aSet_app (by simpa [aKeys] using h.2)]
theorem aDel_notin {β : Type} : ∀ {l : List (Int × β)} {k : Int}, k ∉ aKeys l → aDel l k = l
  | [], _, _ => rfl
  | x :: r, k, h => by
    simp only [aKeys, List.map_cons, List.mem_cons, not_or] at h
    simp only [aDel, if_neg (fun e : x.1 = k => h.1 e.symm)]
    rw [aDel_notin (by simpa [aKeys] using h.2)]
theorem aDel_mid {β : Type} : ∀ {l r : List (Int × β)} {k : Int} {v : β}, k ∉ aKeys l → k ∉ aKeys r → aDel (l ++ (k, v) :: r) k = l ++ r
  | [], r, k, v, _, h => by simp only [List.nil_append, aDel, if_pos]; exact aDel_notin h
  | x :: l, r, k, v, h, h' => by
    simp only [aKeys, List.map_cons, List.mem_cons, not_or] at h
    simp only [List.cons_append, aDel, if_neg (fun e : x.1 = k => h.1 e.symm)]
    rw [aDel_mid (by simpa [aKeys] using h.2) h']
theorem aGet_app {β : Type} : ∀ {l r : List (Int × β)} {k : Int}, k ∈ aKeys l → aGet (l ++ r) k = aGet l k
  | x :: l, r, k, h => by
    simp only [List.cons_append, aGet]
    split
    · rfl
    · rename_i hk
      simp only [aKeys, List.map_cons, List.mem_cons] at h
      exact aGet_app (h.resolve_left fun e => hk e.symm)
theorem aGet_app_r {β : Type} : ∀ {l r : List (Int × β)} {k : Int}, k ∉ aKeys l → aGet (l ++ r) k = aGet r k
  | [], r, k, _ => rfl
  | x :: l, r, k, h => by
    simp only [aKeys, List.map_cons, List.mem_cons, not_or] at h
    simp only [List.cons_append, aGet, if_neg (fun e : x.1 = k => h.1 e.symm)]
    exact aGet_app_r h.2
theorem aKeys_app {β : Type} (l r : List (Int × β)) : aKeys (l ++ r) = aKeys l ++ aKeys r := by simp [aKeys]
theorem depL_ext {L : List (Int × Pt)} {p : Pt} {n : Nat} (hk : ∀ k ∈ aKeys L, k < 100) : depL L ≤ depL (L ++ ext p 100 n) ∧ (4 < n → depL (L ++ ext p 100 n) = 4) := by
  constructor
  · have h1 : depL L = deepN (posOf (L ++ ext p 100 n)) 4 (aKeys L) 0 0 0 := deepN_congr 4 0 0 0 fun id hid => by unfold posOf; rw [aGet_app hid]
    rw [h1]
    exact deepN_sub 4 0 0 0 (by rw [aKeys_app]; exact List.sublist_append_left _ _)
  · intro hn
    refine deepN_five (p := p) 4 0 0 0 ?_
    rw [aKeys_app, List.filter_append, List.length_append]
    have : (aKeys (ext p 100 n)).filter (fun id => decide (posOf (L ++ ext p 100 n) id = p)) = aKeys (ext p 100 n) := List.filter_eq_self.2 fun id hid => by
      have h1 := (ext_keys p n 100 id).1 hid
      have h2 : id ∉ aKeys L := fun h => by have := hk id h; omega
      simp [posOf, aGet_app_r h2, ext_get p n 100 id hid]
    rw [this]
    have : (aKeys (ext p 100 n)).length = n := by simp [aKeys, ext_len]
    omega
def onL (L : List (Int × Pt)) (p : Pt) (a : Int) (n : Nat) : List (Int × Pt) := if On p = true then L ++ ext p a n else L
theorem B_law8_QuadMerges_ {lf : Nat} {cl : Cl} (hlf : 1000 ≤ lf) (hkn : CTrue i_law8_known cl) (hnew : CNewQ cl) (hput : CPut cl) (hdrop : CDrop cl) (hdep : CDepthL cl)
    {H : AH} {p : AP} {n : Nat} {c : ACap} {ps : List Pt} {pt : Pt} {kk : Int} (hk0 : 0 ≤ kk ∧ kk ≤ 255) (hI : InP H p n ps) : B_law8_QuadMerges lf cl p n c 2 (ptC pt) kk H isT = true := by
  unfold B_law8_QuadMerges
  refine newK_w ?_
  have hL0 : Le H (H.new (.row (ptC pt))) := Le.new H _
  have ga0 := get_new H (.row (ptC pt))
  have ha0 := has_new_self H (.row (ptC pt))
  generalize H.nx = ga at *
  generalize H.new (.row (ptC pt)) = H0 at *
  have hI0 := hI.le hL0
  clear hI hL0
  rw [hkn]
  refine arB_w ?_
  rw [fB_eq]
  refine ifA_w (fun hx => absurd hx (by decide)) (fun _ => ?_)
  rw [fB_eq, iLt_dec]
  refine ifA_w (fun _ => rfl) (fun h30 => ?_)
  have h30 : n ≤ 30 := by have := of_decide_eq_false h30; simp only [Int.ofNat_eq_natCast, Int.cast_ofNat_Int] at this; omega
  refine hnew _ _ fun H1 g O hL1 tr1 hz1 => ?_
  rw [asP_]
  refine loopX_w (fun x Hk => x.1 = (p, n, c, 2) ∧ x.2.1 = kk ∧ x.2.2.1 = .at ga 0 ∧ x.2.2.2.1 = .at g 0 ∧ Le H0 Hk ∧ ∃ i : Nat, x.2.2.2.2 = (i : Int) ∧ i ≤ n ∧
      ∃ L O, TR Hk g L O ∧ (∀ a, O a → ¬ H0.has a) ∧ L.length ≤ i ∧ ∀ k ∈ aKeys L, 0 ≤ k ∧ k < i) (fun x => 60 - x.2.2.2.2.toNat)
    ⟨rfl, rfl, rfl, rfl, hL1, 0, rfl, by omega, [], O, tr1, hz1, by simp, fun k h => (by cases h)⟩ (by simp; omega) ?_
  clear tr1 hL1 hz1 O H1
  rintro self ⟨x1, x2, x3, x4, x5⟩ H1 ⟨e1, e2, e3, e4, hL1, i, e5, hi, L, O, tr, hz, hlL, hkeys⟩ ih
  simp only at e1 e2 e3 e4 e5
  subst e1 e2 e3 e4 e5
  simp only [pR_, fB_eq, iLt_dec, iMul_, iAdd_, Int.ofNat_eq_natCast, Int.cast_ofNat_Int]
  refine ifA_w (fun hx => ?_) (fun hx => ?_)
  · have hx : i < n := by have := of_decide_eq_true hx; omega
    obtain ⟨gp, rfl, hgp, gp0⟩ := hI0.2 (by omega)
    have hlen : (ptsC ps).length = n * 2 := by rw [ptsC_len, hI0.1]
    have hat := ptsC_at ps i (by rw [hI0.1]; omega)
    generalize ps[i]'(by rw [hI0.1]; omega) = q at hat
    simp only [nilK_at, fN_eq, Nat.add_eq, Nat.mul_eq, Nat.zero_add]
    refine idxK_w (by omega) (by omega) (rowK_wf ((hL1.get _ hgp).trans gp0) (ldG_we (ys := ptC q) (by rw [hlen]; omega) (by decide) (by rw [Int.toNat_natCast]; exact hat) ?_))
    have hid : (i : Int) ∉ aKeys L := fun h => by have := hkeys _ h; omega
    refine hput H1 g L O i q _ tr (by omega) fun H2 O2 f2 t2 o2 => ?_
    have hL2 : Le H0 H2 := ⟨fun a ha => f2.has a (hL1.has a ha), fun a ha => (f2.get a (hL1.has a ha) fun h => hz a h ha).trans (hL1.get a ha)⟩
    have hz2 : ∀ a, O2 a → ¬ H0.has a := fun a h => (o2 a h).elim (hz a) fun h2 h3 => h2 (hL1.has a h3)
    refine arI_w (w64_w (by omega) (by omega) ?_)
    rcases on_cases (p := q) (by omega : (0 : Int) ≤ i) hid (by omega) with ⟨eo, ee, el⟩ | ⟨eo, ee, el⟩
    · rw [el] at t2
      refine ih _ _ ⟨rfl, rfl, rfl, rfl, hL2, i + 1, by simp, by omega, _, O2, t2, hz2, by rw [len_set_new hid]; omega, fun k h => ?_⟩ (by simp; omega)
      rw [aKeys_set_new L q hid, List.mem_append, List.mem_singleton] at h
      rcases h with h | h
      · have := hkeys k h; omega
      · omega
    · rw [el] at t2
      exact ih _ _ ⟨rfl, rfl, rfl, rfl, hL2, i + 1, by simp, by omega, L, O2, t2, hz2, by omega, fun k h => by have := hkeys k h; omega⟩ (by simp; omega)
  · have hx : i = n := by have := of_decide_eq_false hx; omega
    have hk30 : ∀ k ∈ aKeys L, k < 100 := fun k h => by have := hkeys k h; omega
    refine hdep H1 g L O _ tr (arI_w ?_)
    obtain ⟨m, hm, hm19⟩ : ∃ m : Nat, Int.tmod x2 20 = (m : Int) ∧ m ≤ 19 := ⟨(Int.tmod x2 20).toNat, by rw [Int.tmod_eq_emod_of_nonneg hk0.1]; omega, by rw [Int.tmod_eq_emod_of_nonneg hk0.1]; omega⟩
    rw [fI_eq, hm]
    refine w64_w (by omega) (by omega) ?_
    refine loopX_w (fun x Hk => x.1 = .at ga 0 ∧ x.2.1 = .at g 0 ∧ x.2.2.1 = (depL L : Nat) ∧ x.2.2.2.1 = (m : Int) ∧ Le H0 Hk ∧ ∃ j : Nat, x.2.2.2.2 = (j : Int) ∧ j ≤ m ∧ ∃ O, TR Hk g (onL L pt 100 j) O ∧ ∀ a, O a → ¬ H0.has a) (fun x => 60 - x.2.2.2.2.toNat)
      ⟨rfl, rfl, rfl, rfl, hL1, 0, rfl, by omega, O, by unfold onL; split <;> simpa [ext] using tr, hz⟩ (by simp; omega) ?_
    clear tr hz hL1 O H1
    rintro self ⟨y1, y2, y3, y4, y5⟩ H1 ⟨e1, e2, e3, e4, hL1, j, e5, hj, O, tr, hz⟩ ih
    simp only at e1 e2 e3 e4 e5
    subst e1 e2 e3 e4 e5
    have ga1 := (hL1.get _ ha0).trans ga0
    simp only [pR_, fB_eq, iLt_dec, iMul_, iAdd_, Int.ofNat_eq_natCast, Int.cast_ofNat_Int]
    refine ifA_w (fun hx => ?_) (fun hx => ?_)
    · have hx : j < m := by have := of_decide_eq_true hx; omega
      refine w64_w (by omega) (by omega) ?_
      simp only [nilK_at]
      refine rowK_w ga1 (ldG_we (by simp [ptC]) (by decide) rfl ?_)
      refine hput H1 g _ O (100 + j) pt _ tr (by omega) fun H2 O2 f2 t2 o2 => ?_
      have hL2 : Le H0 H2 := ⟨fun a ha => f2.has a (hL1.has a ha), fun a ha => (f2.get a (hL1.has a ha) fun h => hz a h ha).trans (hL1.get a ha)⟩
      have hz2 : ∀ a, O2 a → ¬ H0.has a := fun a h => (o2 a h).elim (hz a) fun h2 h3 => h2 (hL1.has a h3)
      refine arI_w (w64_w (by omega) (by omega) (ih _ _ ⟨rfl, rfl, rfl, rfl, hL2, j + 1, by simp, by omega, O2, ?_, hz2⟩ (by simp; omega)))
      have hid : (100 + j : Int) ∉ aKeys (onL L pt 100 j) := by
        unfold onL
        split
        · rw [aKeys_app, List.mem_append, ext_keys]; intro h; rcases h with h | h
          · have := hk30 _ h; omega
          · omega
        · intro h; have := hk30 _ h; omega
      have hlen : (onL L pt 100 j).length < 200 := by
        unfold onL
        split
        · rw [List.length_append, ext_len]; omega
        · omega
      rcases on_cases (p := pt) (by omega : (0 : Int) ≤ 100 + j) hid hlen with ⟨eo, ee, el⟩ | ⟨eo, ee, el⟩
      · rw [el, aSet_app hid] at t2
        simp only [onL, eo, if_true, List.append_assoc, ext_snoc] at t2 ⊢
        exact t2
      · rw [el] at t2
        simp only [onL, eo] at t2 ⊢
        exact t2
    · have hx : j = m := by have := of_decide_eq_false hx; omega
      subst hx
      refine hdep H1 g _ O _ tr (arI_w ?_)
      refine loopX_w (fun x Hk => x.1 = .at ga 0 ∧ x.2.1 = .at g 0 ∧ x.2.2.1 = (depL L : Nat) ∧ x.2.2.2.1 = (j : Int) ∧ x.2.2.2.2.1 = (depL (onL L pt 100 j) : Nat) ∧ Le H0 Hk ∧ ∃ k : Nat, x.2.2.2.2.2 = (k : Int) ∧ k ≤ j ∧ ∃ O, TR Hk g (onL L pt (100 + k) (j - k)) O ∧ ∀ a, O a → ¬ H0.has a) (fun x => 60 - x.2.2.2.2.2.toNat)
        ⟨rfl, rfl, rfl, rfl, rfl, hL1, 0, rfl, by omega, O, by simpa using tr, hz⟩ (by simp; omega) ?_
      clear tr hz hL1 O H1 ga1
      rintro self ⟨y1, y2, y3, y4, y5, y6⟩ H1 ⟨e1, e2, e3, e4, e5, hL1, k, e6, hk, O, tr, hz⟩ ih
      simp only at e1 e2 e3 e4 e5 e6
      subst e1 e2 e3 e4 e5 e6
      have ga1 := (hL1.get _ ha0).trans ga0
      simp only [pR_, fB_eq, iLt_dec, iMul_, iAdd_, Int.ofNat_eq_natCast, Int.cast_ofNat_Int]
      refine ifA_w (fun hx => ?_) (fun hx => ?_)
      · have hx : k < j := by have := of_decide_eq_true hx; omega
        refine w64_w (by omega) (by omega) ?_
        refine hdrop H1 g _ O (100 + k) _ tr fun H2 O2 f2 t2 o2 => ?_
        have hL2 : Le H0 H2 := ⟨fun a ha => f2.has a (hL1.has a ha), fun a ha => (f2.get a (hL1.has a ha) fun h => hz a h ha).trans (hL1.get a ha)⟩
        have hz2 : ∀ a, O2 a → ¬ H0.has a := fun a h => (o2 a h).elim (hz a) fun h2 h3 => h2 (hL1.has a h3)
        refine arI_w (w64_w (by omega) (by omega) (ih _ _ ⟨rfl, rfl, rfl, rfl, rfl, hL2, k + 1, by simp, by omega, O2, ?_, hz2⟩ (by simp; omega)))
        have hn : (100 + k : Int) ∉ aKeys L := fun h => by have := hk30 _ h; omega
        have e : aDel (onL L pt (100 + k) (j - k)) (100 + k) = onL L pt (100 + ((k + 1 : Nat) : Int)) (j - (k + 1)) := by
          unfold onL
          split
          · rw [show j - k = (j - (k + 1)) + 1 by omega, ext, aDel_mid hn (by rw [ext_keys]; omega), show (100 + (k : Int) + 1) = 100 + ((k + 1 : Nat) : Int) by omega]
          · exact aDel_notin hn
        rw [e] at t2
        exact t2
      · have hx : k = j := by have := of_decide_eq_false hx; omega
        subst hx
        have eL : onL L pt (100 + k) (k - k) = L := by unfold onL; rw [Nat.sub_self]; split <;> simp [ext]
        rw [eL] at tr
        have hle : depL L ≤ depL (onL L pt 100 k) ∧ (On pt = true → 4 < k → depL (onL L pt 100 k) = 4) := by
          have := depL_ext (p := pt) (n := k) hk30
          unfold onL
          split
          · exact ⟨this.1, fun _ => this.2⟩
          · rename_i h; exact ⟨Nat.le_refl _, fun h' => absurd h' h⟩
        generalize depL (onL L pt 100 k) = dp at *
        refine joinX_w (fun x Hx => Hx = H1 ∧ x.1 = .at g 0 ∧ x.2.1 = (depL L : Nat) ∧ x.2.2.1 = (k : Int) ∧ x.2.2.2.1 = (dp : Int) ∧ x.2.2.2.2 = On pt) ?_ ?_
        · rintro ⟨z1, z2, z3, z4, z5⟩ H3 ⟨e0, e1, e2, e3, e4, e5⟩
          simp only at e1 e2 e3 e4 e5
          subst e0 e1 e2 e3 e4 e5
          simp only [pR_, fB_eq]
          refine hdep H3 g L O _ tr (arI_w ?_)
          refine ifA_w (fun _ => ?_) (fun hx => absurd hx (by simp [iEq_beq]))
          refine ifA_w (fun _ => ?_) (fun hx => absurd hx (by rw [iLe_dec]; simp; omega))
          refine ifA_w (fun _ => rfl) (fun hon => ifA_w (fun _ => rfl) (fun h4 => ?_))
          rw [iLe_dec] at h4
          have h4 := of_decide_eq_false h4
          have : dp = 4 := hle.2 (by simpa using hon) (by omega)
          subst this
          rfl
        · intro J hJ
          have off : ∀ {P : Prop}, (P → False) → (On pt = true → P) → false = On pt := fun h1 h2 => (Bool.eq_false_iff.2 fun h => h1 (h2 h)).symm
          have on : On pt = true → 0 ≤ pt.x ∧ pt.x < 64 ∧ 0 ≤ pt.y ∧ pt.y < 64 := fun ho => by unfold On at ho; simp only [Bool.and_eq_true, decide_eq_true_eq] at ho; omega
          simp only [nilK_at, fN_eq, Nat.add_eq, Nat.zero_add]
          refine rowK_w ga1 (ldI_w (n := pt.x) rfl (ifA_w (fun h0 => ?_) (fun h0 => hJ _ _ ⟨rfl, rfl, rfl, rfl, rfl, off (P := 0 ≤ pt.x) (by rw [iLe_dec] at h0; exact of_decide_eq_false h0) fun h => (on h).1⟩)))
          refine rowK_w ga1 (ldI_w (n := pt.x) rfl (ifA_w (fun h1 => ?_) (fun h1 => hJ _ _ ⟨rfl, rfl, rfl, rfl, rfl, off (P := pt.x < 64) (of_decide_eq_false h1) fun h => (on h).2.1⟩)))
          refine rowK_w ga1 (ldI_w (n := pt.y) rfl (ifA_w (fun h2 => ?_) (fun h2 => hJ _ _ ⟨rfl, rfl, rfl, rfl, rfl, off (P := 0 ≤ pt.y) (by rw [iLe_dec] at h2; exact of_decide_eq_false h2) fun h => (on h).2.2.1⟩)))
          refine rowK_w ga1 (ldI_w (n := pt.y) rfl (hJ _ _ ⟨rfl, rfl, rfl, rfl, rfl, ?_⟩))
          rw [iLe_dec] at h0 h2
          have h0 := of_decide_eq_true h0
          have h1 := of_decide_eq_true h1
          have h2 := of_decide_eq_true h2
          unfold On
          simp only [show decide (0 ≤ pt.x) = true from decide_eq_true h0, show decide (pt.x < 64) = true from decide_eq_true h1, show decide (0 ≤ pt.y) = true from decide_eq_true h2, Bool.true_and]
end Go.Proofs
end
