import Derived.Test.YtghmpldiccffaaaGreatDG
import Derived.Test.YtghmpldiccffaaaGreatDX
import Derived.KernelRfl
import Derived.Test.YtghmpldiccffaaaGreatBlaw18
import Derived.Test.YtghmpldiccffaaaGreatDI
import Derived.Test.YtghmpldiccffaaaGreatVwRead2
import Derived.OpenShut
import Derived.Test.YtghmpldiccffaaaGreatDT
import Derived.Test.YtghmpldiccffaaaGreatBR
import Derived.Test.YtghmpldiccffaaaGreatDK
import Derived.Test.YtghmpldiccffaaaGreatVwRead3
section
namespace Go.Proofs
open Go Go.Vw Go.Vw.Ev
set_option linter.unusedVariables false
set_option linter.unusedSimpArgs false
structure NS (me k : Int) (p : Pt) (i live : Nat) (s : RgSt) : Prop where
 id : s.id = me
 given : s.given = i
 t0 : 0 ≤ s.took
 t1 : s.took ≤ 2 * i
 ow : s.ow = owInit k
 h1 : s.hands = []
 h2 : s.last.hands = []
 ol : s.order.length ≤ 2 * i
 len : s.th.length = live
 pt : ∀ j t, aGet s.th j = some t → t.pt = p
 lt : ∀ j ∈ aKeys s.th, j < 4 * i
 li : live ≤ i
theorem owInit_at {k : Int} {c : Nat} (hc : c < 16) : owAt (owInit k) c = (Int.tmod c k, 0) := by
 unfold owAt owInit
 rw [if_pos (isC_iff.2 ⟨by omega, by omega⟩), Int.toNat_natCast]
 simp [hc]
end Go.Proofs
end
section
namespace Go.Proofs
open Go Go.Vw Go.Vw.Ev
set_option linter.unusedVariables false
set_option linter.unusedSimpArgs false
structure Sx (s : RgSt) (id n beat : Int) (th : List (Int × Th)) (was : List Th) (last : Nt) (k : Nat) : Prop where
 ow : s.ow = owInit n
 id : s.id = id
 n : s.n = n
 beat : s.beat = beat
 th : s.th = th
 was : s.was = was
 last : s.last = last
 h : s.hands = []
 w : s.watch = []
 off : ∀ w ∈ s.wat, w.on = false
 t0 : 0 ≤ s.took
 tk : s.took ≤ k
 g0 : 0 ≤ s.given
 g1 : s.given ≤ k
 ol : s.order.length ≤ k
theorem takeE_is {s : RgSt} {c : Cm} (h : IsCm c = true) (ht : s.took < 20) : takeE s c = doesE s c := by unfold takeE; rw [if_neg (by rw [h]; decide), if_neg (by omega)]
theorem doesE_put {s : RgSt} {p : Pt} (hon : On p = true) (hm : mineB s (ofC p) = true) (hl : s.th.length < 200) (hn : putN s ≤ 1000000) : doesE s (putC p) = if fullT s.th p = true then 16 else 0 := by
 unfold doesE
 rw [if_neg (fun e => e.2 (ofE_of hon)), if_neg (fun e => by rw [show (putC p).pt = p from rfl, hm] at e; cases e.2), if_neg (fun e => absurd (show (1 : Int) = 2 from e.2.1) (by decide)), check_put hon hl]
 by_cases hf : fullT s.th p = true
 ·rw [if_pos hf, if_pos (by decide)]
 ·rw [if_neg hf, if_neg (by decide), if_neg (fun e => by have := e.2; omega)]
theorem take_ok {s : RgSt} {c : Cm} (h : takeE s c = 0) : takeI s c = (if c.kind = 1 then putN s else c.id) ∧
  takeS s c = upS (if c.kind = 1 then { s with th := aSet s.th (putN s) (putT c (putN s)), given := s.given + 1 } else { s with th := doneL s.th c 0 }) (if c.kind = 1 then putN s else c.id) c := by
 have hd : doesE s c = 0 := by
  unfold takeE at h
  split at h
  ·cases h
  ·split at h
   ·cases h
   ·exact h
 have e1 : doesI s c = (if c.kind = 1 then putN s else c.id) := by unfold doesI; rw [if_neg (fun e => e hd)]
 have e2 : doesS s c = (if c.kind = 1 then { s with th := aSet s.th (putN s) (putT c (putN s)), given := s.given + 1 } else { s with th := doneL s.th c 0 }) := by unfold doesS; rw [if_neg (fun e => e hd)]
 exact ⟨by unfold takeI; rw [if_neg (fun e => e h), e1], by unfold takeS; rw [if_neg (fun e => e h), e1, e2]⟩
structure CS (H0 H : AH) (ga : Pn) (sa : RgSt) (Oa : Pn → Prop) (gb : Pn) (sb : RgSt) (Ob : Pn → Prop) (P : Pn → Prop) : Prop where
 le : Le H0 H
 a : RgS H ga sa Oa
 b : RgS H gb sb Ob
 an : ∀ x, Oa x → ¬ H0.has x
 bn : ∀ x, Ob x → ¬ H0.has x
 ap : ∀ x, Oa x → ¬ Ob x
 kp : ∀ x, P x → H.has x ∧ ¬ Oa x ∧ ¬ Ob x
section
variable {H0 H H' : AH} {ga gb : Pn} {sa sb s' : RgSt} {Oa Ob O' P P' : Pn → Prop}
end
end Go.Proofs
end
section
namespace Go.Proofs
open Go Go.Vw Go.Vw.Ev
set_option linter.unusedVariables false
set_option linter.unusedSimpArgs false
def T1 (to : Pt) : Th := ⟨0, to, fdZ, fdZ, fdZ, fdZ⟩
def T2 (to : Pt) (v : Int) : Th := ⟨0, to, ⟨v, []⟩, fdZ, fdZ, fdZ⟩
structure ToOk (to : Pt) : Prop where
 x0 : 16 ≤ to.x
 x1 : to.x < 32
 y0 : 0 ≤ to.y
 y1 : to.y < 16
theorem sm0 (src beat : Int) : SmN ⟨src, beat, [], [], [], []⟩ := ⟨by show (0 : Nat) < 1000; decide, by show (0 : Nat) < 1000; decide, by show (0 : Nat) < 1000; decide, by show (0 : Nat) < 1000; decide⟩
end Go.Proofs
end
section
namespace Go.Proofs
open Go Go.Vw Go.Vw.Ev
set_option linter.unusedVariables false
set_option linter.unusedSimpArgs false
def InI (H : AH) (p : AP) (n : Nat) (k : IntKind) (xs : List Int) : Prop := xs.length = n ∧ (n ≠ 0 → ∃ g, p = .at g 0 ∧ H.has g ∧ H.get g = some (.fix (xs.map (AS.int k))))
theorem InI.le {H H' : AH} {p : AP} {n : Nat} {k : IntKind} {xs : List Int} (h : InI H p n k xs) (l : Le H H') : InI H' p n k xs :=
 ⟨h.1, fun hn => (h.2 hn).imp fun g hg => ⟨hg.1, l.has g hg.2.1, (l.get g hg.2.1).trans hg.2.2⟩⟩
theorem InI.read {H : AH} {p : AP} {n : Nat} {k : IntKind} {xs : List Int} (h : InI H p n k xs) {i : Nat} (hi : i < n) {K : Int → Bool} (hk : K (xs[i]'(by rw [h.1]; exact hi)) = true) :
  nilK p (fun g o => idxK (i : Int) n fun m => fN (Nat.add o (Nat.mul m 1)) fun o => rowK H g fun cs => ldI cs o k K) = true := by
 obtain ⟨g, rfl, hg, hrow⟩ := h.2 (by omega)
 simp only [nilK_at, fN_eq, Nat.add_eq, Nat.mul_eq, Nat.zero_add, Nat.mul_one]
 have hl : i < xs.length := by rw [h.1]; exact hi
 refine idxK_w (by omega) (by omega) (rowK_wf hrow (ldI_w (n := xs[i]) ?_ hk))
 rw [Int.toNat_natCast, List.getElem?_map, List.getElem?_eq_getElem hl]
 rfl
theorem sl_int (k : IntKind) : ∀ (n : Nat) (cs : List AS), LeavesV (List.replicate n [Leaf.int k]).flatten cs → ∃ l : List Int, cs = l.map (AS.int k) ∧ l.length = n ∧ ∀ x ∈ l, (Lit.int k x).wf = true
 | 0, [], _ => ⟨[], rfl, rfl, fun x h => (by cases h)⟩
 | 0, _ :: _, h => h.elim
 | n + 1, [], h => h.elim
 | n + 1, x :: r, h => by
  obtain ⟨h1, h4⟩ := h
  cases x <;> first | exact h1.elim | skip
  obtain ⟨l, rfl, hl, hw⟩ := sl_int k n r h4
  obtain ⟨rfl, hx⟩ := h1
  refine ⟨_ :: l, rfl, by simp [hl], fun y hy => ?_⟩
  rcases List.mem_cons.1 hy with rfl | hy
  ·exact hx
  ·exact hw y hy
theorem sl_u8 (n : Nat) (cs : List AS) (h : LeavesV (List.replicate n [Leaf.int .u8]).flatten cs) : ∃ l : List Int, cs = l.map (AS.int .u8) ∧ l.length = n ∧ ∀ x ∈ l, 0 ≤ x ∧ x ≤ 255 := by
 obtain ⟨l, h1, h2, h3⟩ := sl_int .u8 n cs h
 exact ⟨l, h1, h2, fun x hx => Go.bounds_u8 (h3 x hx)⟩
end Go.Proofs
end
section
namespace Go.Proofs
open Go Go.Vw Go.Vw.Ev
set_option linter.unusedVariables false
set_option linter.unusedSimpArgs false
theorem InT.at {H : AH} {p : AP} {n : Nat} {ts : List Th} (h : InT H p n ts) {i : Nat} (hi : i < n) : ∃ g, p = .at g 0 ∧ H.has g ∧ (H.get g = some (.fix (thsC ts)) ∨ H.get g = some (.row (thsC ts))) ∧ i * 11 + 11 ≤ (thsC ts).length ∧
  ((thsC ts).drop (i * 11)).take 11 = thC (ts[i]'(by rw [h.1]; exact hi)) ∧ (thsC ts)[i * 11]? = some (.int .i64 (ts[i]'(by rw [h.1]; exact hi)).id) := by
 obtain ⟨g, h1, h2, h3⟩ := h.2 (by omega)
 have hl : i < ts.length := by rw [h.1]; exact hi
 have ha := thsC_at ts i hl
 refine ⟨g, h1, h2, h3, by rw [thsC_len]; omega, ha, ?_⟩
 have := congrArg (·[0]?) ha
 rw [List.getElem?_take_of_lt (by decide), List.getElem?_drop, Nat.add_zero] at this
 rw [this]; rfl
end Go.Proofs
end
section
namespace Go.Proofs
open Go Go.Vw Go.Vw.Ev
set_option linter.unusedVariables false
set_option linter.unusedSimpArgs false
theorem Sl.base {H0 H1 H : AH} {p : AP} {n z : Nat} {cs : List AS} {sz : Nat} (h : Sl H1 H p n z cs sz) (k : Le H0 H1) : Sl H0 H p n z cs sz :=
 ⟨h.len, h.rep.imp id fun ⟨g, h1, h2, h3, h4, h5⟩ => ⟨g, h1, h2, h3, h4, fun h => h5 (k.has _ h)⟩⟩
def inP (r : Rc) (t : Th) : Bool := RIn r t.pt
def CSeen (cl : Cl) : Prop := ∀ H p n c z ts r K, InT H p n ts → n < 10000 → (∀ H' p' c' z', Le H H' → Sl H H' p' (ts.filter (inP r)).length z' (thsC (ts.filter (inP r))) 11 → K (.s (.slice p' (ts.filter (inP r)).length c' z')) H' = true) → cl i_ref6_Seen [.s (.slice p n c z), .agg (rcC r)] H K = true
theorem InT.pt {H : AH} {p : AP} {n : Nat} {ts : List Th} (h : InT H p n ts) {i : Nat} (hi : i < n) : ((thsC ts).drop (i * 11 + 1)).take 2 = ptC (ts[i]'(by rw [h.1]; exact hi)).pt := by
 have ha := thsC_at ts i (by rw [h.1]; exact hi)
 have := congrArg (fun l => (l.drop 1).take 2) ha
 simp only [List.drop_take, List.drop_drop, List.take_take] at this
 rw [show i * 11 + 1 = i * 11 + 1 from rfl]
 exact this
theorem B_ref6_Seen_ {lf : Nat} {cl : Cl} (hlf : 100000 ≤ lf) (hin : CRcPtB i_ref3_In RIn cl) {H : AH} {p : AP} {n zz : Nat} {c : ACap} {ts : List Th} {r : Rc} {K : AV → AH → Bool} (hp : InT H p n ts) (hn : n < 10000)
  (hk : ∀ H' p' c' z', Le H H' → Sl H H' p' (ts.filter (inP r)).length z' (thsC (ts.filter (inP r))) 11 → K (.s (.slice p' (ts.filter (inP r)).length c' z')) H' = true) : B_ref6_Seen lf cl p n c zz (rcC r) H K = true := by
 unfold B_ref6_Seen
 have hlt := hp.1
 refine new_w fun gr H1 h1 hgr ngr ggr => ?_
 replace hp := hp.le h1
 refine loopX_w (fun x Hx => x.1 = (p, n, c, zz) ∧ x.2.1 = .at gr 0 ∧ Le H1 Hx ∧ ∃ i : Nat, x.2.2.2 = (i : Int) ∧ i ≤ n ∧ ∃ p1 c1 z1, x.2.2.1 = (p1, ((ts.take i).filter (inP r)).length, c1, z1) ∧ Sl H1 Hx p1 ((ts.take i).filter (inP r)).length z1 (thsC ((ts.take i).filter (inP r))) 11) (fun x => n - x.2.2.2.toNat)
  ⟨rfl, rfl, Le.refl _, 0, rfl, by omega, .nil, _, _, rfl, Sl.nil⟩ (by simp; omega) ?_
 rintro self ⟨x1, x2, x3, x4⟩ Hx ⟨e1, e2, hL, i, e4, hi, p1, c1, z1, e3, sl⟩ ih
 simp only at e1 e2 e3 e4
 subst e1 e2 e3 e4
 simp only [pR_, fB_eq, iLt_dec]
 refine ifA_w (fun hx => ?_) (fun hx => ?_)
 ·have hx : i < n := by have := of_decide_eq_true hx; simp only [Int.ofNat_eq_natCast] at this; omega
  have hpt := hp.pt hx
  obtain ⟨g1, rfl, hh1, r1, l1, a1, i1⟩ := hp.at hx
  have r1x : ∀ {Hy}, Le H1 Hy → Hy.get g1 = some (.fix (thsC ts)) ∨ Hy.get g1 = some (.row (thsC ts)) := fun k => r1.imp (fun e => (k.get _ hh1).trans e) (fun e => (k.get _ hh1).trans e)
  simp only [nilK_at, fN_eq, Nat.add_eq, Nat.mul_eq, Nat.zero_add, Nat.add_zero]
  refine rowK_w ((hL.get _ hgr).trans ggr) (ldG_we (ys := rcC r) (Nat.le_refl 4) (by decide) rfl ?_)
  refine idxK_w (by omega) (by omega) (rowK_wo (r1x hL) (ldG_we (ys := ptC (ts[i]'(by omega)).pt) (by rw [Int.toNat_natCast]; omega) (by decide) (by rw [Int.toNat_natCast]; exact hpt) ?_))
  refine hin _ _ _ _ fun H2 h2 => arB_w ?_
  have hL2 := hL.trans h2
  have tk : (ts.take (i + 1)).filter (inP r) = (ts.take i).filter (inP r) ++ (if inP r (ts[i]'(by omega)) = true then [ts[i]'(by omega)] else []) := by
   rw [List.take_succ_eq_append_getElem (by omega), List.filter_append, List.filter_cons, List.filter_nil]
  have lb10 : ((ts.take i).filter (inP r)).length ≤ i := Nat.le_trans (List.length_filter_le _ _) (by simp; omega)
  refine ifA_w (fun h => ?_) (fun h => ?_)
  ·have hne : inP r (ts[i]'(by omega)) = true := h
   rw [if_pos hne] at tk
   refine idxK_w (by omega) (by omega) (rowK_wo (r1x hL2) (ldG_we (ys := thC (ts[i]'(by omega))) (by rw [Int.toNat_natCast]; exact l1) (by decide) (by rw [Int.toNat_natCast]; exact a1) (okK_w rfl (fL_w ?_))))
   rw [ap_eq, List.append_nil]
   refine okK_w rfl (newK_w ?_)
   refine elK_w (ys := thC (ts[i]'(by omega))) (get_new _ _) (by rw [thC_len]; decide) rfl ?_
   refine app_w ((sl.le h2).le (Le.new _ _)) (hL2.newr _) (m := 1) rfl (by decide) (by omega) (by omega) fun p2 c2 z2 H3 hL3 sl3 l23 => ?_
   rw [iAdd_]
   refine w64_w (by simp only [Int.ofNat_eq_natCast]; omega) (by simp only [Int.ofNat_eq_natCast]; omega) (ih _ _ ⟨rfl, rfl, hL3, i + 1, by simp, by omega, p2, c2, z2, ?_, ?_⟩ (by simp; omega))
   ·rw [tk]; simp
   ·rw [tk, thsC, List.flatMap_append, List.length_append]
    simpa [thsC] using sl3
  ·have hne : ¬ inP r (ts[i]'(by omega)) = true := by unfold inP; rw [h]; simp
   rw [if_neg hne, List.append_nil] at tk
   rw [iAdd_]
   exact w64_w (by simp only [Int.ofNat_eq_natCast]; omega) (by simp only [Int.ofNat_eq_natCast]; omega) (ih _ _ ⟨rfl, rfl, hL2, i + 1, by simp, by omega, p1, c1, z1, by rw [tk], by rw [tk]; exact sl.le h2⟩ (by simp; omega))
 ·have hx : i = n := by have := of_decide_eq_false hx; simp only [Int.ofNat_eq_natCast] at this; omega
  rw [hx, List.take_of_length_le (by omega)] at sl ⊢
  exact hk _ _ _ _ (h1.trans hL) (Sl.base sl h1)
end Go.Proofs
end
section
namespace Go.Proofs
open Go Go.Vw Go.Vw.Ev
set_option linter.unusedVariables false
set_option linter.unusedSimpArgs false
set_option maxRecDepth 100000
structure Cw (s : RgSt) (id n beat : Int) (i : Nat) : Prop where
 x : Sx s id n beat s.th s.was s.last i
 g : ∀ k t, aGet s.th k = some t → GoodT t ∧ t.id = k ∧ k < 4 * s.given
 nod : (aKeys s.th).Nodup
 was : ∀ t ∈ s.was, GoodT t
 wl : s.was.length ≤ i
 ol : s.order.length = s.th.length
theorem onCell {p : Pt} (h : On p = true) : ∃ c : Nat, c < 16 ∧ ofC p = (c : Nat) := by
 have := cellOf_b h
 exact ⟨(cellOf p).toNat, by omega, by unfold ofC; rw [if_pos h]; omega⟩
structure L1 (s : RgSt) : Prop where
 h : (s.beat = 0 ∧ s.last = nt0) ∨ (0 < s.beat ∧ s.last = ⟨0, s.beat - 1, [], [], [], []⟩)
structure CI (H0 Hx : AH) (ga gb : Pn) (K : Int) (i : Nat) : Prop where
 le : Le H0 Hx
 a : ∃ s O, RgS Hx ga s O ∧ Cw s 0 1 (i : Int) i ∧ L1 s ∧ (∀ x, O x → ¬ H0.has x) ∧ ∃ P kl L, RbV P Hx gb (if K < i then K else 0) kl L ∧ (∀ x, P x → Hx.has x ∧ ¬ O x) ∧ kl = L.length ∧ ((kl : Nat) : Int) ≤ (if K < i then K else 0)
end Go.Proofs
end
section
namespace Go.Proofs
open Go Go.Vw Go.Vw.Ev
set_option linter.unusedVariables false
set_option linter.unusedSimpArgs false
set_option maxRecDepth 100000
theorem aSet_new {β : Type} : ∀ {l : List (Int × β)} {k : Int} {v : β}, k ∉ aKeys l → aSet l k v = l ++ [(k, v)]
 | [], _, _, _ => rfl
 | (j, w) :: r, k, v, h => by
  have h1 : j ≠ k := fun e => h (by simp [aKeys, e])
  have h2 : k ∉ aKeys r := fun e => h (by simp only [aKeys, List.map_cons, List.mem_cons] at e ⊢; exact .inr e)
  have := aSet_new (v := v) h2
  simp [aSet, h1, this]
def tX (xs : List Int) (j : Nat) : Th := putT (putC ⟨xs.getD j 0 % 16, j⟩) (4 * (j : Int))
def tsX (xs : List Int) (i : Nat) : List Th := (List.range i).map (tX xs)
def LX (xs : List Int) (i : Nat) : List (Int × Th) := (tsX xs i).map fun t => (t.id, t)
theorem tsX_succ (xs : List Int) (i : Nat) : tsX xs (i + 1) = tsX xs i ++ [tX xs i] := by simp [tsX, List.range_succ]
theorem LX_succ (xs : List Int) (i : Nat) : LX xs (i + 1) = LX xs i ++ [(4 * (i : Int), tX xs i)] := by simp [LX, tsX_succ]; rfl
theorem tsX_len (xs : List Int) (i : Nat) : (tsX xs i).length = i := by simp [tsX]
theorem LX_len (xs : List Int) (i : Nat) : (LX xs i).length = i := by simp [LX, tsX_len]
theorem LX_keys (xs : List Int) (i : Nat) : aKeys (LX xs i) = (List.range i).map fun j : Nat => 4 * (j : Int) := by
 unfold aKeys LX tsX
 rw [List.map_map, List.map_map]
 rfl
theorem keys4 : ∀ i : Nat, i ≤ 8 → srtI ((List.range i).map fun j : Nat => 4 * (j : Int)) = ((List.range i).map fun j : Nat => 4 * (j : Int)) ∧ ((List.range i).map fun j : Nat => 4 * (j : Int)).Nodup
 | 0, _ => by decide
 | 1, _ => by decide
 | 2, _ => by decide
 | 3, _ => by decide
 | 4, _ => by decide
 | 5, _ => by decide
 | 6, _ => by decide
 | 7, _ => by decide
 | 8, _ => by decide
 | i + 9, h => absurd h (by omega)
theorem LX_no (xs : List Int) (i : Nat) : 4 * (i : Int) ∉ aKeys (LX xs i) := by
 rw [LX_keys]
 intro h
 obtain ⟨j, hj, e⟩ := List.mem_map.1 h
 have := List.mem_range.1 hj
 have e : 4 * (j : Int) = 4 * (i : Int) := e
 omega
theorem LX_view (xs : List Int) {i : Nat} (hi : i ≤ 8) : (allT (LX xs i)).map (thOf (LX xs i)) = tsX xs i := by
 have hk := keys4 i hi
 unfold allT
 rw [LX_keys, hk.1]
 unfold tsX
 rw [List.map_map]
 refine List.map_congr_left fun j hj => ?_
 have : aGet (LX xs i) (4 * (j : Int)) = some (tX xs j) := aGet_of_mem (by rw [LX_keys]; exact hk.2) (by
  unfold LX tsX
  rw [List.map_map]
  exact List.mem_map.2 ⟨j, hj, rfl⟩)
 show (aGet (LX xs i) (4 * (j : Int))).getD th0 = _
 rw [this]; rfl
theorem LX_lay (xs : List Int) : ∀ i : Nat, layT [] (tsX xs i) = LX xs i
 | 0 => rfl
 | i + 1 => by
  have ih := LX_lay xs i
  rw [tsX_succ, LX_succ]
  have : layT [] (tsX xs i ++ [tX xs i]) = aSet (layT [] (tsX xs i)) (tX xs i).id (tX xs i) := by
   unfold layT
   rw [List.foldl_append]; rfl
  rw [this, ih]
  exact aSet_new (LX_no xs i)
theorem LX_set (xs : List Int) (i : Nat) : aSet (LX xs i) (4 * (i : Int)) (tX xs i) = LX xs (i + 1) := by rw [LX_succ]; exact aSet_new (LX_no xs i)
theorem tX_good (xs : List Int) {j : Nat} (hj : j < 8) : GoodT (tX xs j) := by
 refine ⟨on_of ?_ ?_ ?_ ?_, ?_, ?_⟩
 ·show 0 ≤ xs.getD j 0 % 16; omega
 ·show xs.getD j 0 % 16 < 64; omega
 ·show (0 : Int) ≤ j; omega
 ·show (j : Int) < 64; omega
 ·show 0 ≤ 4 * (j : Int); omega
 ·show 4 * (j : Int) ≤ 1000000; omega
theorem tsX_good (xs : List Int) {i : Nat} (hi : i ≤ 8) : ∀ t ∈ tsX xs i, GoodT t := fun t ht => by
 obtain ⟨j, hj, rfl⟩ := List.mem_map.1 ht
 have := List.mem_range.1 hj
 exact tX_good xs (by omega)
def W0 : List Wt := List.replicate 4 wt0
def sE (L : List (Int × Th)) (gv tk beat : Int) (od : List Tkn) (wat : List Wt) (was : List Th) (watch : List Cm) (last : Nt) : RgSt :=
 {id := 0, n := 1, beat := beat, given := gv, took := tk, th := L, ow := owInit 1, wat := wat, was := was, watch := watch, hands := [], order := od, last := last }
theorem sE_new : newS 0 1 = sE [] 0 0 0 [] W0 [] [] nt0 := rfl
theorem sE_has {L : List (Int × Th)} {gv tk beat : Int} {od : List Tkn} {wat : List Wt} {was : List Th} {watch : List Cm} {last : Nt} {c : Nat} (hc : c < 16) : hasB (sE L gv tk beat od wat was watch last) c = true := by
 unfold hasB
 show (isC c && decide ((owAt (owInit 1) c).1 = 0)) = true
 rw [owInit_at hc, isC_iff.2 ⟨by omega, by omega⟩, Int.tmod_one]
 rfl
theorem put_x {L : List (Int × Th)} {gv tk : Int} {od : List Tkn} {p : Pt} (hp : On p = true) (hl : L.length < 8) (ht : tk < 20) (hg : 0 ≤ gv ∧ gv ≤ 10) : takeE (sE L gv tk 0 od W0 [] [] nt0) (putC p) = 0 ∧ takeI (sE L gv tk 0 od W0 [] [] nt0) (putC p) = 4 * gv ∧
  takeS (sE L gv tk 0 od W0 [] [] nt0) (putC p) = sE (aSet L (4 * gv) (putT (putC p) (4 * gv))) (gv + 1) (tk + 1) 0 (od ++ [⟨0, 0, 4 * gv, putC p⟩]) W0 [] [] nt0 := by
 obtain ⟨c, hc, ec⟩ := onCell hp
 have en : putN (sE L gv tk 0 od W0 [] [] nt0) = 4 * gv := by
  show numE 0 gv = _
  unfold numE; omega
 have e0 : takeE (sE L gv tk 0 od W0 [] [] nt0) (putC p) = 0 := by
  rw [takeE_is (by rw [isCm_put, on_near hp]) ht, doesE_put hp (by
   unfold mineB handB
   rw [ec, sE_has hc]; rfl) (by show L.length < 200; omega) (by rw [en]; omega)]
  have hf : fullT L p = false := by
   unfold fullT cellT inT
   rw [ec, if_pos (isC_iff.2 ⟨by omega, by omega⟩), srtI_len]
   have := List.length_filter_le (fun j => RIn (cellR (c : Int)) (thOf L j).pt) (aKeys L)
   have hk : (aKeys L).length = L.length := by simp [aKeys]
   exact decide_eq_false (by omega)
  show (if fullT L p = true then (16 : Int) else 0) = 0
  rw [hf]; rfl
 have ok := take_ok e0
 rw [if_pos (show (putC p).kind = 1 from rfl), en] at ok
 rw [if_pos (show (putC p).kind = 1 from rfl)] at ok
 exact ⟨e0, ok.1, by rw [ok.2]; rfl⟩
def joinC (w : Int) : Cm := ⟨6, 0, 0, 0, ⟨0, 0⟩, fdZ, fdZ, fdZ, fdZ, fdZ, 2, 1, ⟨0, 0, w, 64⟩⟩
theorem isCm_join {w : Int} (h0 : 0 ≤ w) (h1 : w ≤ 64) : IsCm (joinC w) = true := by
 have e : coreC (joinC w) = joinC w := rfl
 unfold IsCm fldB kindB whoB whatB placeB
 rw [e, same_cm]
 have : -1000 ≤ w := by omega
 have : w ≤ 1000 := by omega
 simp [joinC, isF_Z, nearB, *]
theorem bk_join {w : Int} (h0 : 0 ≤ w) (h1 : w ≤ 64) : bkE W0 (joinC w) = 0 := by
 unfold bkE
 rw [if_neg (fun e => by rw [isCm_join h0 h1] at e; rcases e with e | e <;> cases e), if_pos (show (joinC w).kind = 6 from rfl)]
 rfl
theorem join_x {L : List (Int × Th)} {gv tk : Int} {od : List Tkn} {w : Int} (h0 : 0 ≤ w) (h1 : w ≤ 64) (ht : tk < 20) : takeGE (sE L gv tk 0 od W0 [] [] nt0) (joinC w) = 0 ∧
  takeGS (sE L gv tk 0 od W0 [] [] nt0) (joinC w) = sE L gv (tk + 1) 0 (od ++ [⟨0, 0, 0, joinC w⟩]) W0 [] [joinC w] nt0 := by
 have ew : wchE (sE L gv tk 0 od W0 [] [] nt0) (joinC w) = 0 := by
  unfold wchE
  rw [if_neg (fun e => e (by show Int.tmod 2 1 = 0; rfl))]
  exact bk_join h0 h1
 have eg : genE (sE L gv tk 0 od W0 [] [] nt0) (joinC w) = 0 := by
  unfold genE
  rw [if_pos (show watB (joinC w) = true from rfl)]
  exact ew
 have e0 : takeGE (sE L gv tk 0 od W0 [] [] nt0) (joinC w) = 0 := by
  unfold takeGE
  rw [if_neg (fun e => by rw [isCm_join h0 h1] at e; cases e)]
  exact (if_neg (show ¬ (20 : Int) ≤ tk by omega)).trans eg
 refine ⟨e0, ?_⟩
 unfold takeGS
 rw [if_neg (fun e => e e0)]
 unfold genS genI wchS
 rw [if_pos (show watB (joinC w) = true from rfl), if_neg (fun e => e ew), if_pos (.inl (show watB (joinC w) = true from rfl))]
 rfl
theorem ep_one : EpB 3000000000 (owInit 1) := by
 intro h hh
 obtain ⟨k, hk, rfl⟩ := List.mem_map.1 hh
 exact ⟨by show (0 : Int) ≤ 0; decide, by show (0 : Int) ≤ 3000000000; decide⟩
theorem leaves_x {xs : List Int} {m : Nat} (hm : m ≤ 8) {gv tk beat : Int} {od : List Tkn} {wat : List Wt} {was : List Th} {watch : List Cm} {last : Nt} :
  leavesS (sE (LX xs m) gv tk beat od wat was watch last) = sE (LX xs m) gv 0 (beat + 1) od wat (tsX xs m) [] ⟨0, beat, [], [], [], watch⟩ := by
 have hg : goneL (sE (LX xs m) gv tk beat od wat was watch last) = [] := by
  unfold goneL
  rw [show (sE (LX xs m) gv tk beat od wat was watch last).th = LX xs m from rfl, LX_view xs hm]
  refine List.filter_eq_nil_iff.2 fun t ht => ?_
  obtain ⟨d, hd, e⟩ := onCell (tsX_good xs hm t ht).on
  unfold goneB
  rw [e, sE_has hd]; decide
 unfold leavesS
 rw [hg]
 show sE (LX xs m) gv 0 (beat + 1) od wat ((allT (LX xs m)).map (thOf (LX xs m))) [] ⟨0, beat, [], [], [], watch⟩ = _
 rw [LX_view xs hm]
def rW (w : Int) : Rc := clipR ⟨0, 0, w, 64⟩
def W1 (w : Int) : List Wt := [wt0, wt0, ⟨true, 1, 1, rW w⟩, wt0]
theorem bkL_join {w : Int} (h0 : 0 ≤ w) (h1 : w ≤ 64) : bkL W0 (joinC w) 1 = W1 w := by
 unfold bkL
 rw [if_neg (fun e => e (bk_join h0 h1))]
 rfl
def lastX (beat : Int) (watch : List Cm) : Nt := ⟨0, beat, [], [], [], watch⟩
theorem sm_last (beat : Int) {watch : List Cm} (h : watch.length < 1000) : SmN (lastX beat watch) := ⟨by show (0 : Nat) < 1000; decide, by show (0 : Nat) < 1000; decide, by show (0 : Nat) < 1000; decide, h⟩
theorem good_last (beat : Int) (watch : List Cm) : GoodN (lastX beat watch) := ⟨fun t h => (by cases h), fun t h => (by cases h)⟩
theorem end_ok {L : List (Int × Th)} {gv tk beat : Int} {od : List Tkn} {wat : List Wt} {was : List Th} {watch ws : List Cm} (hb : 0 < beat) : OkEnd (sE L gv tk beat od wat was watch (lastX (beat - 1) ws)) [] ∧ endN (sE L gv tk beat od wat was watch (lastX (beat - 1) ws)) [] = [lastX (beat - 1) ws] := by
 refine ⟨.inr ⟨?_, ?_, rfl⟩, ?_⟩
 ·show beat ≠ 0; omega
 ·show chkN (sE L gv tk beat od wat was watch (lastX (beat - 1) ws)) 0 [lastX (beat - 1) ws] = true
  unfold chkN chkN
  rw [show decide ((lastX (beat - 1) ws).beat = (sE L gv tk beat od wat was watch (lastX (beat - 1) ws)).beat - 1) = true from decide_eq_true rfl]
  rfl
 ·unfold endN
  exact (if_neg (show ¬ beat = 0 by omega)).trans rfl
theorem frames4 (s : RgSt) (old : List Wt) (bef aft : List Th) : framesL s old bef aft 4 = frm1 s old bef aft 0 ++ frm1 s old bef aft 1 ++ frm1 s old bef aft 2 ++ frm1 s old bef aft 3 := rfl
theorem seen_none (ts : List Th) : seenT ⟨0, 0, 0, 0⟩ ts = [] := by
 refine List.filter_eq_nil_iff.2 fun t _ => ?_
 unfold RIn
 intro h
 simp only [Bool.and_eq_true, decide_eq_true_eq] at h
 omega
theorem enter_same (ts : List Th) : enterL ts ts = [] := by
 unfold enterL
 split
 ·assumption
 ·rfl
theorem seen_want {xs : List Int} {m : Nat} (hm : m ≤ 8) {w : Int} (h0 : 0 ≤ w) (h1 : w ≤ 64) : (tsX xs m).filter (inP ⟨0, 0, w, 64⟩) = seenT (rW w) (tsX xs m) := by
 refine List.filter_congr fun t ht => ?_
 have := on_b (tsX_good xs hm t ht).on
 unfold inP rW clipR RMeet tidy RIn
 dsimp only
 split
 ·rename_i h
  unfold REmpty at h
  have h : decide (min w 64 ≤ max (0 : Int) 0) = true ∨ decide (min (64 : Int) 64 ≤ max (0 : Int) 0) = true := by rwa [Bool.or_eq_true] at h
  rw [decide_eq_true_eq, decide_eq_true_eq] at h
  have e1 : decide (t.pt.x < w) = false ∨ decide (t.pt.y < 64) = false := by
   rcases h with h | h
   ·left; exact decide_eq_false (by omega)
   ·right; exact decide_eq_false (by omega)
  have e2 : decide (t.pt.x < 0) = false := decide_eq_false (by omega)
  rcases e1 with e | e <;> simp [e, e2]
 ·have a1 : max (0 : Int) 0 = 0 := rfl
  have a2 : min w 64 = w := by omega
  have a3 : min (64 : Int) 64 = 64 := rfl
  rw [a1, a2, a3]
theorem end_1 {xs : List Int} {m : Nat} (hm : m ≤ 8) {gv tk : Int} {od : List Tkn} {w : Int} :
  EndOk (sE (LX xs m) gv tk 0 od W0 [] [joinC w] nt0) [] ∧ endG (sE (LX xs m) gv tk 0 od W0 [] [joinC w] nt0) [] = sE (LX xs m) gv 0 1 od W0 (tsX xs m) [] (lastX 0 [joinC w]) ∧
  framesL (st3 (sE (LX xs m) gv tk 0 od W0 [] [joinC w] nt0) []) W0 (befL (sE (LX xs m) gv tk 0 od W0 [] [joinC w] nt0) []) (aftL (sE (LX xs m) gv tk 0 od W0 [] [joinC w] nt0) []) 4 = [] := by
 have e3 : st3 (sE (LX xs m) gv tk 0 od W0 [] [joinC w] nt0) [] = sE (LX xs m) gv tk 0 od W0 [] [joinC w] nt0 := rfl
 refine ⟨⟨?_, rfl, by show (0 : Nat) < 2000; decide, fun t h => (by cases h), ⟨by show (0 : Int) ≤ 0; decide, by show (0 : Int) ≤ 1000000; decide⟩, by show (1 : Nat) < 1000; decide, sm0 0 0, ⟨fun t h => (by cases h), fun t h => (by cases h)⟩, ep_one, ?_⟩, ?_, ?_⟩
 ·show (LX xs m).length + 0 < 1000
  rw [LX_len]; omega
 ·rw [e3]
  intro i hi hon
  exfalso
  match i, hi with
  | 0, _ => cases hon
  | 1, _ => cases hon
  | 2, _ => cases hon
  | 3, _ => cases hon
  | i + 4, h => omega
 ·unfold endG
  rw [e3, leaves_x hm]
  rfl
 ·rw [e3, frames4]; rfl
theorem st3_2 {xs : List Int} {m : Nat} {gv : Int} {od : List Tkn} {w : Int} (h0 : 0 ≤ w) (h1 : w ≤ 64) :
  st3 (sE (LX xs m) gv 0 1 od W0 (tsX xs m) [] (lastX 0 [joinC w])) [lastX 0 [joinC w]] = sE (LX xs m) gv 0 1 od (W1 w) (tsX xs m) [] (lastX 0 [joinC w]) := by
 rw [← bkL_join h0 h1]; rfl
theorem was_no {i : Nat} {w : Wt} (hi : i < 4) : wasR W0 i w = ⟨0, 0, 0, 0⟩ := by
 unfold wasR
 match i, hi with
 | 0, _ => rfl
 | 1, _ => rfl
 | 2, _ => rfl
 | 3, _ => rfl
 | i + 4, h => omega
theorem end_2 {xs : List Int} {m : Nat} (hm : m ≤ 8) {gv : Int} {od : List Tkn} {w : Int} (h0 : 0 ≤ w) (h1 : w ≤ 64) :
  EndOk (sE (LX xs m) gv 0 1 od W0 (tsX xs m) [] (lastX 0 [joinC w])) [lastX 0 [joinC w]] ∧ endG (sE (LX xs m) gv 0 1 od W0 (tsX xs m) [] (lastX 0 [joinC w])) [lastX 0 [joinC w]] = sE (LX xs m) gv 0 2 od (W1 w) (tsX xs m) [] (lastX 1 []) ∧
  framesL (st3 (sE (LX xs m) gv 0 1 od W0 (tsX xs m) [] (lastX 0 [joinC w])) [lastX 0 [joinC w]]) W0 (befL (sE (LX xs m) gv 0 1 od W0 (tsX xs m) [] (lastX 0 [joinC w])) [lastX 0 [joinC w]]) (aftL (sE (LX xs m) gv 0 1 od W0 (tsX xs m) [] (lastX 0 [joinC w])) [lastX 0 [joinC w]]) 4 = [⟨0, 2, 1, 1, 1, seenT (rW w) (tsX xs m)⟩] := by
 have e3 := st3_2 (xs := xs) (m := m) (gv := gv) (od := od) h0 h1
 have ea : aftL (sE (LX xs m) gv 0 1 od W0 (tsX xs m) [] (lastX 0 [joinC w])) [lastX 0 [joinC w]] = tsX xs m := LX_view xs hm
 refine ⟨⟨?_, rfl, ?_, tsX_good xs hm, ⟨by show (0 : Int) ≤ 1; decide, by show (1 : Int) ≤ 1000000; decide⟩, by show (0 : Nat) < 1000; decide, sm_last 0 (by show (1 : Nat) < 1000; decide), good_last 0 _, ep_one, ?_⟩, ?_, ?_⟩
 ·show (LX xs m).length + 0 < 1000
  rw [LX_len]; omega
 ·show (tsX xs m).length < 2000
  rw [tsX_len]; omega
 ·intro i hi hon
  left
  show seenT (wasR W0 i _) _ = []
  rw [was_no hi, seen_none]
 ·unfold endG
  rw [e3, leaves_x hm]
  rfl
 ·rw [e3, ea, frames4]
  generalize befL _ _ = bef
  show [] ++ [] ++ [(⟨0, 2, 1, 1, 1, enterL (seenT (wasR W0 2 _) bef) (seenT (rW w) (tsX xs m))⟩ : Fm)] ++ [] = _
  rw [was_no (by decide), seen_none]
  rfl
theorem end_3 {xs : List Int} {m : Nat} (hm : m ≤ 8) {gv : Int} {od : List Tkn} {w : Int} :
  EndOk (sE (LX xs m) gv 0 2 od (W1 w) (tsX xs m) [] (lastX 1 [])) [lastX 1 []] ∧
  framesL (st3 (sE (LX xs m) gv 0 2 od (W1 w) (tsX xs m) [] (lastX 1 [])) [lastX 1 []]) (W1 w) (befL (sE (LX xs m) gv 0 2 od (W1 w) (tsX xs m) [] (lastX 1 [])) [lastX 1 []]) (aftL (sE (LX xs m) gv 0 2 od (W1 w) (tsX xs m) [] (lastX 1 [])) [lastX 1 []]) 4 = [⟨0, 2, 1, 1, 2, []⟩] := by
 have e3 : st3 (sE (LX xs m) gv 0 2 od (W1 w) (tsX xs m) [] (lastX 1 [])) [lastX 1 []] = sE (LX xs m) gv 0 2 od (W1 w) (tsX xs m) [] (lastX 1 []) := rfl
 have ea : aftL (sE (LX xs m) gv 0 2 od (W1 w) (tsX xs m) [] (lastX 1 [])) [lastX 1 []] = tsX xs m := LX_view xs hm
 have eb : befL (sE (LX xs m) gv 0 2 od (W1 w) (tsX xs m) [] (lastX 1 [])) [lastX 1 []] = tsX xs m := by
  show (allT (layT [] (tsX xs m))).map (thOf (layT [] (tsX xs m))) = _
  rw [LX_lay, LX_view xs hm]
 refine ⟨⟨?_, rfl, ?_, tsX_good xs hm, ⟨by show (0 : Int) ≤ 2; decide, by show (2 : Int) ≤ 1000000; decide⟩, by show (0 : Nat) < 1000; decide, sm_last 1 (by show (0 : Nat) < 1000; decide), good_last 1 _, ep_one, ?_⟩, ?_⟩
 ·show (LX xs m).length + 0 < 1000
  rw [LX_len]; omega
 ·show (tsX xs m).length < 2000
  rw [tsX_len]; omega
 ·rw [e3, ea, eb]
  intro i hi hon
  right
  match i, hi with
  | 0, _ => cases hon
  | 1, _ => cases hon
  | 2, _ => rfl
  | 3, _ => cases hon
  | i + 4, h => omega
 ·rw [e3, ea, eb, frames4]
  show [] ++ [] ++ [(⟨0, 2, 1, 1, 2, enterL (seenT (rW w) (tsX xs m)) (seenT (rW w) (tsX xs m))⟩ : Fm)] ++ [] = _
  rw [enter_same]
  rfl
def Kp (H : AH) (O P : Pn → Prop) : Prop := ∀ a, P a → H.has a ∧ ¬ O a
theorem Kp.step {H H' : AH} {O O' P : Pn → Prop} (k : Kp H O P) (f : Fr O H H') (o : ∀ a, O' a → O a ∨ ¬ H.has a) : Kp H' O' P := fun a h => ⟨f.has _ (k a h).1, fun h' => (o a h').elim (k a h).2 fun e => e (k a h).1⟩
theorem Kp.le {H H' : AH} {O P : Pn → Prop} (k : Kp H O P) (f : Le H H') : Kp H' O P := fun a h => ⟨f.has _ (k a h).1, (k a h).2⟩
theorem same_thS (t : Th) : cellsEqA (thC t) (thC t) = true := by
 simp only [thC, ptC, fdC, List.cons_append, List.nil_append, cellsEqA, cellEqA, iEq_dec, sEq_dec, decide_true]
theorem leaves_thS (t : Th) : leavesA [Leaf.int .i64, Leaf.int .i64, Leaf.int .i64, Leaf.int .i64, Leaf.str, Leaf.int .i64, Leaf.str, Leaf.int .i64, Leaf.str, Leaf.int .i64, Leaf.str] (thC t) = true := rfl
theorem ev_th (l : List Th) {i : Nat} (h : i < l.length) : ((l.flatMap evC).drop (i * 25 + 2)).take 11 = thC l[i] := by
 have := congrArg (fun l => (l.drop 2).take 11) (flat_at evC_len l i h)
 simp only [List.drop_take, List.drop_drop, List.take_take] at this
 exact this
theorem sm_sE {L : List (Int × Th)} (hl : L.length < 9000) {gv tk beat : Int} (hg : 0 ≤ gv ∧ gv ≤ 1000000) (ht : 0 ≤ tk) {od : List Tkn} (ho : od.length ≤ 1000000) {wat : List Wt} {was : List Th} {watch : List Cm} {last : Nt} (hh : last.hands = []) : Sm (sE L gv tk beat od wat was watch last) :=
 ⟨hl, hg.1, hg.2, by show (0 : Nat) < 10000; decide, by show last.hands.length < 10000; rw [hh]; decide, ho, ht⟩
theorem B_law18_RegionSees_ {lf : Nat} {cl : Cl} (hlf : 1000 ≤ lf) (hkn : ∀ H K, cl i_law18_known [] H K = K (.s (.bool true)) H) (hnew : CRgNew cl) (htake : CTakeD cl) (htg : CTakeG cl) (hend : CEndG cl) (hseen : CSeen cl)
  {H : AH} {q : AP} {m : Nat} {c : ACap} {xs : List Int} (hI : InI H q m .u8 xs) (hxs : ∀ x ∈ xs, 0 ≤ x ∧ x ≤ 255) (hmax : m ≤ 9223372036854775807) {w : Int} (hw : 0 ≤ w ∧ w ≤ 255) : B_law18_RegionSees lf cl q m c 1 w H isT = true := by
 unfold B_law18_RegionSees
 rw [hkn]
 refine arB_w ?_
 simp only [fB_eq, iLt_dec, iEq_dec, iLe_dec]
 refine ifA_w (fun h => by cases h) (fun _ => ?_)
 refine ifA_w (fun _ => rfl) (fun hm => ?_)
 have hm : m ≤ 8 := by have := of_decide_eq_false hm; simp only [Int.ofNat_eq_natCast] at this; omega
 refine hnew 0 1 _ _ fun H1 g O1 h1 r1 o1 => ?_
 rw [asP_]
 rw [sE_new] at r1
 refine loopX_w (fun x Hx => ∃ (i : Nat) (pa : AP) (ca : ACap) (za : Nat) (od : List Tkn) (O : Pn → Prop), x = ((q, m, c, 1), w, .at g 0, (pa, i, ca, za), (i : Int)) ∧ i ≤ m ∧ Le H Hx ∧ od.length = i ∧ RgS Hx g (sE (LX xs i) i i 0 od W0 [] [] nt0) O ∧ (∀ a, O a → ¬ H.has a) ∧ SR 11 Hx pa i za (thsC (tsX xs i)) ∧ CapOk ca i ∧ (∀ a, ownP pa a → ¬ H.has a ∧ ¬ O a)) (fun x => m - x.2.2.2.2.toNat)
  ⟨0, .nil, .lit 0, 1, [], O1, rfl, by omega, h1, rfl, r1, o1, SR.nil, Nat.le_refl 0, fun a ⟨o, e⟩ => by cases e⟩ (by simp; omega) ?_
 clear r1 o1 h1
 rintro self x Hx ⟨i, pa, ca, za, od, O, rfl, hi, hL, hod, rg, on, sra, cap, oa⟩ ih
 simp only [pR_]
 refine ifA_w (fun hx => ?_) (fun hx => ?_)
 ·have hx : i < m := by have := of_decide_eq_true hx; simp only [Int.ofNat_eq_natCast] at this; omega
  have hxi := hxs _ (List.getElem_mem (show i < xs.length by rw [hI.1]; exact hx))
  refine (hI.le hL).read hx ?_
  have eu : xs.getD i 0 = xs[i]'(by rw [hI.1]; exact hx) := getD_at (by rw [hI.1]; exact hx)
  have e2 : Int.tmod (xs[i]'(by rw [hI.1]; exact hx)) (Int.ofNat 16) = xs[i]'(by rw [hI.1]; exact hx) % 16 := Int.tmod_eq_emod_of_nonneg hxi.1
  rw [e2, ← eu]
  rw [← eu] at hxi
  refine fI_w (w64_w (by omega) (by omega) ?_)
  have hg := tX_good xs (show i < 8 by omega)
  have hon : On ⟨xs.getD i 0 % 16, i⟩ = true := hg.on
  have px := put_x (L := LX xs i) (gv := (i : Int)) (tk := (i : Int)) (od := od) hon (by rw [LX_len]; omega) (by omega) (by omega)
  obtain ⟨p0, p1, p2⟩ := px
  have p3 : aSet (LX xs i) (4 * (i : Int)) (putT (putC ⟨xs.getD i 0 % 16, i⟩) (4 * (i : Int))) = LX xs (i + 1) := LX_set xs i
  rw [p3] at p2
  refine tmp_w rfl rfl fun g2 H2 h2 hg2 ng2 gg2 => ?_
  refine rowK_w gg2 (ldG_we (ys := ptC ⟨xs.getD i 0 % 16, i⟩) (lb rfl) (by decide) rfl (okK_w rfl (fL_w ?_)))
  rw [ap_eq]
  refine htake H2 g _ O (putC ⟨xs.getD i 0 % 16, i⟩) _ (rg.le h2) (sm_sE (by rw [LX_len]; omega) (by omega) (by omega) (by omega) rfl) rfl (fun e => absurd (show (1 : Int) = 5 from e) (by decide)) fun H3 O3 f3 r3 o3 => ?_
  rw [tup2_]
  refine arI_w (arI_w ?_)
  rw [p0, p1]
  rw [p2] at r3
  refine ifA_w (fun h => absurd (show false = true from h) (by decide)) (fun _ => ?_)
  have ng2O : ¬ O g2 := fun h => ng2 (rg.has _ h)
  refine rowK_w ((f3.get _ hg2 ng2O).trans gg2) (ldG_we (ys := ptC ⟨xs.getD i 0 % 16, i⟩) (lb rfl) (by decide) rfl (okK_w rfl (fL_w ?_)))
  rw [ap_eq]
  refine okK_w rfl (fL_w ?_)
  rw [ap_eq, List.append_nil]
  refine okK_w rfl (newK_w (elK_w (ys := thC (tX xs i)) (get_new _ _) (lb rfl) rfl ?_))
  have h4 := Le.new H3 (.row (thC (tX xs i)))
  change appA (H3.new (.row (thC (tX xs i)))) _ _ _ _ _ _ _ _ _ = true
  generalize H3.new (.row (thC (tX xs i))) = H4 at *
  have oaO : ∀ a, ownP pa a → ¬ O a := fun a h => (oa a h).2
  have oa3 : ∀ a, ownP pa a → ¬ O3 a := fun a h h' => (o3 a h').elim (oaO a h) fun e => e (h2.has _ (sra.has a h))
  refine appT_w (((sra.le h2).fr f3 oaO).le h4) cap (m := 1) rfl (by omega) (by omega) fun p5 c5 z5 H5 f5 s5 cap5 o5 => ?_
  have on3 : ∀ a, O3 a → ¬ H.has a := fun a h h' => (o3 a h).elim (fun e => on a e h') fun e => e (h2.has _ (hL.has _ h'))
  have hL5 : Le H H5 := ⟨fun a h => f5.has _ (h4.has _ (f3.has _ (h2.has _ (hL.has _ h)))), fun a h => (f5.get a (h4.has _ (f3.has _ (h2.has _ (hL.has _ h)))) fun h' => (oa a h').1 h).trans ((h4.get a (f3.has _ (h2.has _ (hL.has _ h)))).trans ((f3.get a (h2.has _ (hL.has _ h)) fun h' => on a h' h).trans ((h2.get a (hL.has _ h)).trans (hL.get a h))))⟩
  rw [iAdd_]
  refine w64_w (by simp only [Int.ofNat_eq_natCast]; omega) (by simp only [Int.ofNat_eq_natCast]; omega) (ih _ _ ⟨i + 1, p5, c5, z5, od ++ [⟨0, 0, 4 * (i : Int), putC ⟨xs.getD i 0 % 16, i⟩⟩], O3, by simp, by omega, hL5, by rw [List.length_append, hod]; rfl, ?_, on3, ?_, cap5, ?_⟩ (by simp; omega))
  ·exact_mod_cast (r3.le h4).fr f5 fun a h h' => oa3 a h' h
  ·rw [tsX_succ, thsC, List.flatMap_append]
   exact s5
  ·intro a h
   rcases o5 a h with h | h
   ·exact ⟨(oa a h).1, oa3 a h⟩
   ·exact ⟨fun h' => h (h4.has _ (f3.has _ (h2.has _ (hL.has _ h')))), fun h' => h (h4.has _ (r3.has _ h'))⟩
 have hx : i = m := by have := of_decide_eq_false hx; simp only [Int.ofNat_eq_natCast] at this; omega
 subst hx
 clear ih self hi cap
 have eW : Int.tmod w (Int.ofNat 17) = w % 17 := Int.tmod_eq_emod_of_nonneg hw.1
 have hW0 : 0 ≤ w % 17 := by omega
 have hW1 : w % 17 ≤ 64 := by omega
 rw [eW]
 generalize w % 17 = W at *
 refine fI_w (w64_w (by omega) (by omega) ?_)
 refine tmp_w rfl rfl fun g2 H2 h2 hg2 ng2 gg2 => ?_
 refine rowK_w gg2 (ldG_we (ys := rcC ⟨0, 0, W, 64⟩) (lb rfl) (by decide) rfl (okK_w rfl (fL_w ?_)))
 rw [ap_eq]
 obtain ⟨j0, j1⟩ := join_x (L := LX xs i) (gv := (i : Int)) (tk := (i : Int)) (od := od) hW0 hW1 (by omega)
 have kp2 : Kp H2 O (fun a => ownP pa a ∨ a = g2) := fun a h => h.elim (fun h => ⟨h2.has _ (sra.has a h), (oa a h).2⟩) fun e => by subst e; exact ⟨hg2, fun h => ng2 (rg.has _ h)⟩
 have sra2 := sra.le h2
 refine htg H2 g _ O (joinC W) _ (rg.le h2) (sm_sE (by rw [LX_len]; omega) (by omega) (by omega) (by omega) rfl) ⟨by show (1 : Int) ≠ 0; decide, by show (0 : Nat) < 10000; decide, by show (0 : Nat) < 10000; decide⟩ fun H3 O3 f3 r3 o3 => ?_
 rw [tup2_]
 refine arI_w (arI_w ?_)
 rw [j0]
 rw [j1] at r3
 generalize hod2 : od ++ [(⟨0, 0, 0, joinC W⟩ : Tkn)] = od2 at *
 have hol : od2.length ≤ 1000000 := by rw [← hod2, List.length_append, hod]; show i + 1 ≤ 1000000; omega
 have kp3 := kp2.step f3 o3
 have sra3 := sra2.fr f3 fun a h => (kp2 a (.inl h)).2
 have gg3 := (f3.get _ hg2 (kp2 g2 (.inr rfl)).2).trans gg2
 have hg3 := f3.has _ hg2
 clear f3 o3 kp2 sra2 rg j1 hod2 hod sra oa on
 obtain ⟨k1, k2, k3⟩ := end_1 (xs := xs) (m := i) (by omega) (gv := (i : Int)) (tk := (i : Int) + 1) (od := od2) (w := W)
 refine hend H3 g _ O3 .nil 0 _ 1 [] _ r3 (sm_sE (by rw [LX_len]; omega) (by omega) (by omega) hol rfl) k1 SR.nil (fun x h => by cases h) (by decide) (.inl ⟨rfl, rfl⟩) fun H4 n4 O4 q4 c4 z4 l4 f4 r4 o4 _ _ s4 fo4 e4 _ _ => ?_
 rw [show endG (sE (LX xs i) (i : Int) ((i : Int) + 1) 0 od2 W0 [] [joinC W] nt0) (endN (sE (LX xs i) (i : Int) ((i : Int) + 1) 0 od2 W0 [] [joinC W] nt0) (([] : List (Rw × Nt)).map (·.2))) = _ from k2] at r4
 have e4 : l4.map (·.2) = [] := e4.trans k3
 rw [tup3_, asG_, asSl_]
 refine arI_w ?_
 have kp4 := kp3.step f4 o4
 have sra4 := sra3.fr f4 fun a h => (kp3 a (.inl h)).2
 have gg4 := (f4.get _ hg3 (kp3 g2 (.inr rfl)).2).trans gg3
 have hg4 := f4.has _ hg3
 have hl4 : l4 = [] := List.map_eq_nil_iff.1 e4
 subst hl4
 clear f4 o4 kp3 sra3 gg3 hg3 s4 fo4 e4 k1 k2 k3 r3
 refine tmp_w rfl rfl fun g5 H5 h5 _ _ _ => ?_
 obtain ⟨k1, k2, k3⟩ := end_2 (xs := xs) (m := i) (by omega) (gv := (i : Int)) (od := od2) hW0 hW1
 obtain ⟨y1, y2⟩ := end_ok (L := LX xs i) (gv := (i : Int)) (tk := 0) (beat := 1) (od := od2) (wat := W0) (was := tsX xs i) (watch := []) (ws := [joinC W]) (by decide)
 change endN (sE (LX xs i) (i : Int) 0 1 od2 W0 (tsX xs i) [] (lastX 0 [joinC W])) [] = [lastX 0 [joinC W]] at y2
 have y3 : endN (sE (LX xs i) (i : Int) 0 1 od2 W0 (tsX xs i) [] (lastX 0 [joinC W])) (([] : List (Rw × Nt)).map (·.2)) = [lastX 0 [joinC W]] := y2
 have kp5 := kp4.le h5
 have sra5 := sra4.le h5
 have gg5 := (h5.get _ hg4).trans gg4
 have hg5 := h5.has _ hg4
 refine hend H5 g _ O4 .nil 0 _ 1 [] _ (r4.le h5) (sm_sE (by rw [LX_len]; omega) (by omega) (by decide) hol rfl) (by rw [y3]; exact k1) SR.nil (fun x h => by cases h) (by decide) y1 fun H6 n6 O6 q6 c6 z6 l6 f6 r6 o6 _ _ s6 fo6 e6 oq6 oe6 => ?_
 rw [y3] at r6 e6
 rw [k2] at r6
 have e6 : l6.map (·.2) = [⟨0, 2, 1, 1, 1, seenT (rW W) (tsX xs i)⟩] := e6.trans k3
 rw [tup3_, asG_, asSl_]
 refine arI_w ?_
 have kp6 := kp5.step f6 o6
 have sra6 := sra5.fr f6 fun a h => (kp5 a (.inl h)).2
 have gg6 := (f6.get _ hg5 (kp5 g2 (.inr rfl)).2).trans gg5
 have hg6 := f6.has _ hg5
 obtain ⟨fw, hl6⟩ : ∃ fw : Fw, l6 = [(fw, ⟨0, 2, 1, 1, 1, seenT (rW W) (tsX xs i)⟩)] := by
  rcases l6 with _ | ⟨⟨fw, fm⟩, _ | ⟨_, _⟩⟩
  ·cases e6
  ·have : fm = ⟨0, 2, 1, 1, 1, seenT (rW W) (tsX xs i)⟩ := by
    have := (List.cons.inj e6).1
    exact this
   exact ⟨fw, by rw [this]⟩
  ·cases (List.cons.inj e6).2
 subst hl6
 have fo := fo6 _ (List.mem_singleton.2 rfl)
 have kq6 : Kp H6 O6 (fun a => ownP q6 a ∨ ownA fw.e a) := fun a h => h.elim (fun h => ⟨s6.has a h, (oq6 a h).2⟩) fun h => ⟨fo.has a h, (oe6 _ (List.mem_singleton.2 rfl) a h).2⟩
 clear f6 o6 kp5 kp4 sra5 sra4 gg5 gg4 hg5 hg4 fo6 e6 k1 k2 k3 r4 y1 y2 y3 oq6 oe6
 refine tmp_w rfl rfl fun g7 H7 h7 _ _ _ => ?_
 obtain ⟨k1, k3⟩ := end_3 (xs := xs) (m := i) (by omega) (gv := (i : Int)) (od := od2) (w := W)
 obtain ⟨y1, y2⟩ := end_ok (L := LX xs i) (gv := (i : Int)) (tk := 0) (beat := 2) (od := od2) (wat := W1 W) (was := tsX xs i) (watch := []) (ws := []) (by decide)
 have y3 : endN (sE (LX xs i) (i : Int) 0 2 od2 (W1 W) (tsX xs i) [] (lastX 1 [])) (([] : List (Rw × Nt)).map (·.2)) = [lastX 1 []] := y2
 have kp7 := kp6.le h7
 have kq7 := kq6.le h7
 have sra7 := sra6.le h7
 have gg7 := (h7.get _ hg6).trans gg6
 have hg7 := h7.has _ hg6
 refine hend H7 g _ O6 .nil 0 _ 1 [] _ (r6.le h7) (sm_sE (by rw [LX_len]; omega) (by omega) (by decide) hol rfl) (by rw [y3]; exact k1) SR.nil (fun x h => by cases h) (by decide) y1 fun H8 n8 O8 q8 c8 z8 l8 f8 r8 o8 _ _ s8 fo8 e8 oq8 oe8 => ?_
 rw [y3] at e8
 have e8 : l8.map (·.2) = [⟨0, 2, 1, 1, 2, []⟩] := e8.trans k3
 rw [tup3_, asG_, asSl_]
 refine arI_w ?_
 obtain ⟨fx, hl8⟩ : ∃ fx : Fw, l8 = [(fx, ⟨0, 2, 1, 1, 2, []⟩)] := by
  rcases l8 with _ | ⟨⟨fx, fm⟩, _ | ⟨_, _⟩⟩
  ·cases e8
  ·have : fm = ⟨0, 2, 1, 1, 2, []⟩ := by
    have := (List.cons.inj e8).1
    exact this
   exact ⟨fx, by rw [this]⟩
  ·cases (List.cons.inj e8).2
 subst hl8
 have fo8 := fo8 _ (List.mem_singleton.2 rfl)
 refine tmp_w rfl rfl fun g9 H9 h9 _ _ _ => ?_
 have sra9 := (sra7.fr f8 fun a h => (kp7 a (.inl h)).2).le h9
 have gg9 := (h9.get _ (f8.has _ hg7)).trans ((f8.get _ hg7 (kp7 g2 (.inr rfl)).2).trans gg7)
 have hg9 := h9.has _ (f8.has _ hg7)
 have s69 := ((s6.le h7).fr f8 fun a h => (kq7 a (.inl h)).2).le h9
 have fo9 := ((fo.le h7).fr f8 fun a h => (kq7 a (.inr h)).2).le h9
 have s89 := s8.le h9
 have fo89 := fo8.le h9
 clear kp6 kq6 sra6 gg6 hg6 sra7 gg7 hg7 f8 o8 s8 fo8 oq8 oe8 s6 fo r6 r8 k1 k3 y1 y2 y3
 refine ifA_w (fun h => absurd (show false = true from h) (by decide)) (fun _ => ?_)
 refine ifA_w (fun h => absurd (show false = true from h) (by decide)) (fun _ => ?_)
 refine ifA_w (fun h => absurd (show false = true from h) (by decide)) (fun _ => ?_)
 refine ifA_w (fun h => absurd (show false = true from h) (by decide)) (fun _ => ?_)
 refine ifA_w (fun h => absurd (show false = true from h) (by decide)) (fun _ => ?_)
 refine ifA_w (fun h => absurd (show false = true from h) (by decide)) (fun _ => ?_)
 refine ifA_w (fun h => absurd (show false = true from h) (by decide)) (fun _ => ?_)
 obtain ⟨b6, rfl, hb6, gb6⟩ := s69.at (by show 0 < 1; decide)
 obtain ⟨b8, rfl, hb8, gb8⟩ := s89.at (by show 0 < 1; decide)
 simp only [nilK_at, fN_eq, Nat.add_eq, Nat.zero_add, Nat.add_zero, Nat.mul_eq]
 have gb6 : H9.get b6 = some (.row (frC fw)) := gb6
 have gb8 : H9.get b8 = some (.row (frC fx)) := gb8
 refine okK_w rfl (rowK_w gb6 (ldI_w (n := fw.start) rfl ?_))
 rw [show fw.start = 1 from fo9.start]
 refine ifA_w (fun h => absurd (show false = true from h) (by decide)) (fun _ => ?_)
 refine okK_w rfl (rowK_w gb6 (ldI_w (n := fw.client) rfl ?_))
 rw [show fw.client = 2 from fo9.client]
 refine ifA_w (fun h => absurd (show false = true from h) (by decide)) (fun _ => ?_)
 obtain ⟨px, cx, zx, ex, _⟩ := fo89.e
 refine okK_w rfl (rowK_w gb8 (ldSl_w (p := px) (n := 0) (c := cx) (z := zx) (by show some fx.e = _; rw [ex]; rfl) ?_))
 refine ifA_w (fun h => absurd (show false = true from h) (by decide)) (fun _ => ?_)
 refine rowK_w gg9 (ldG_we (ys := rcC ⟨0, 0, W, 64⟩) (lb rfl) (by decide) rfl ?_)
 have sqa : InT H9 pa i (tsX xs i) := ⟨tsX_len xs i, fun hn => by
  obtain ⟨b, e, hb, gb⟩ := sra9.at (by omega)
  exact ⟨b, e, hb, .inr gb⟩⟩
 refine hseen H9 pa i _ _ (tsX xs i) ⟨0, 0, W, 64⟩ _ sqa (by omega) fun H10 p10 c10 z10 h10 sl10 => ?_
 rw [asSl_]
 have sw := seen_want (xs := xs) (m := i) (by omega) hW0 hW1
 rw [sw] at sl10 ⊢
 have s10 := Sl.sr sl10
 obtain ⟨pe, ce, ze, ee, se⟩ := fo9.e
 dsimp only at ee se
 have se10 := se.le h10
 have hEl : (seenT (rW W) (tsX xs i)).length ≤ 8 := by
  have := List.length_filter_le (fun t : Th => RIn (rW W) t.pt) (tsX xs i)
  rw [tsX_len] at this
  unfold seenT
  omega
 generalize seenT (rW W) (tsX xs i) = E at *
 have gb6' := (h10.get _ hb6).trans gb6
 have rdE : ∀ {K : AP → Nat → ACap → Nat → Bool}, K pe E.length ce ze = true → rowK H10 b6 (fun cs => ldSl cs 5 K) = true := fun hK => rowK_w gb6' (ldSl_w (by show some fw.e = _; rw [ee]) hK)
 refine okK_w rfl (rdE ?_)
 refine ifA_w (fun h => by simp at h) (fun _ => ?_)
 refine loopX_w (fun x Hx => Hx = H10 ∧ ∃ j : Nat, x = ((.at b6 0, 1, c6, z6), (p10, E.length, c10, z10), (j : Int)) ∧ j ≤ E.length) (fun x => E.length - x.2.2.toNat) ⟨rfl, 0, rfl, by omega⟩ (by simp; omega) ?_
 rintro self x Hx ⟨rfl, j, rfl, hj⟩ ih
 simp only [pR_]
 refine ifA_w (fun hx => ?_) (fun hx => rfl)
 have hx : j < E.length := by have := of_decide_eq_true hx; simp only [Int.ofNat_eq_natCast] at this; omega
 obtain ⟨be, rfl, hbe, gbe⟩ := se10.at (by omega)
 obtain ⟨bw, rfl, hbw, gbw⟩ := s10.at (by omega)
 have lE := se10.1
 have lW := s10.1
 simp only [nilK_at, fN_eq, Nat.add_eq, Nat.zero_add, Nat.add_zero, Nat.mul_eq]
 refine okK_w rfl (rdE ?_)
 simp only [nilK_at, fN_eq, Nat.add_eq, Nat.zero_add, Nat.add_zero, Nat.mul_eq]
 refine idxK_w (by omega) (by omega) ?_
 rw [Int.toNat_natCast]
 have hk0 := flat_cell (f := evC) (k := 0) evC_len hx (by decide)
 refine rowK_w gbe (ldI_w (n := 1) (by rw [show j * 25 = j * 25 + 0 from rfl, hk0]; rfl) ?_)
 refine ifA_w (fun h => absurd (show false = true from h) (by decide)) (fun _ => ?_)
 refine okK_w rfl (rdE ?_)
 simp only [nilK_at, fN_eq, Nat.add_eq, Nat.zero_add, Nat.add_zero, Nat.mul_eq]
 refine idxK_w (by omega) (by omega) ?_
 rw [Int.toNat_natCast]
 refine rowK_w gbe (ldG_we (ys := thC E[j]) (by omega) (by decide) (ev_th E hx) ?_)
 refine idxK_w (by omega) (by omega) ?_
 rw [Int.toNat_natCast]
 refine rowK_w gbw (ldG_we (ys := thC E[j]) (by omega) (by decide) (flat_at thC_len' E j hx) ?_)
 refine okK_w (by rw [leaves_thS]; rfl) ?_
 rw [same_thS]
 refine ifA_w (fun h => absurd (show false = true from h) (by decide)) (fun _ => ?_)
 rw [iAdd_]
 exact w64_w (by simp only [Int.ofNat_eq_natCast]; omega) (by simp only [Int.ofNat_eq_natCast]; omega) (ih _ _ ⟨rfl, j + 1, by simp, by omega⟩ (by simp; omega))
end Go.Proofs
end
section
namespace Go.Proofs
open Go Go.Vw Go.Vw.Ev
set_option linter.unusedVariables false
end Go.Proofs
end
