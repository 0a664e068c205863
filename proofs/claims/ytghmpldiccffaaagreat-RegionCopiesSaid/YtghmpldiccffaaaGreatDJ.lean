import Derived.Test.YtghmpldiccffaaaGreatDI
import Derived.Test.YtghmpldiccffaaaGreatDLaw18a
import Derived.Test.YtghmpldiccffaaaGreatDX
import Derived.Test.YtghmpldiccffaaaGreatVwRead2
import Derived.OpenShut
import Derived.Test.YtghmpldiccffaaaGreatVwRead3
section
/- RegionCross: states and two regions at once. -/
namespace Go.Proofs
open Go Go.Vw Go.Vw.Ev
set_option linter.unusedVariables false
set_option linter.unusedSimpArgs false

/-- What a quiet region is, as far as laws go. -/
structure Sx (s : RgSt) (id n beat : Int) (th : List (Int × Th)) (was : List Th) (last : Nt) (k : Nat) : Prop where
  ow : s.ow = owInit n
  id : s.id = id
  n : s.n = n
  beat : s.beat = beat
  th : s.th = th
  was : s.was = was
  last : s.last = last
  h : s.hands = []
  w : s.watch = []
  off : ∀ w ∈ s.wat, w.on = false
  t0 : 0 ≤ s.took
  tk : s.took ≤ k
  g0 : 0 ≤ s.given
  g1 : s.given ≤ k
  ol : s.order.length ≤ k
theorem Sx.sm {s : RgSt} {id n beat : Int} {th : List (Int × Th)} {was : List Th} {last : Nt} {k : Nat} (x : Sx s id n beat th was last k) (hk : k ≤ 1000) (hl : th.length < 9000) (hh : last.hands = []) : Sm s :=
  ⟨by rw [x.th]; exact hl, x.g0, by have := x.g1; omega, by rw [x.h]; decide, by rw [x.last, hh]; decide, by have := x.ol; omega, x.t0⟩
theorem Sx.quiet {s : RgSt} {id n beat : Int} {th : List (Int × Th)} {was : List Th} {last : Nt} {k : Nat} (x : Sx s id n beat th was last k) : Quiet s := ⟨x.h, x.w, x.off⟩
theorem Sx.new {id n : Int} (hn : clamp4 n = n) (hi : 0 ≤ id ∧ id < n) : Sx (newS id n) id n 0 [] [] nt0 0 :=
  ⟨by show owInit (clamp4 n) = _; rw [hn], by show min (max id 0) (clamp4 n - 1) = id; rw [hn]; omega, hn, rfl, rfl, rfl, rfl, rfl, rfl, fun w hw => by
    have : w = wt0 := List.eq_of_mem_replicate hw
    rw [this]; rfl, Int.le_refl _, Int.le_refl _, Int.le_refl _, Int.le_refl _, Nat.le_refl _⟩
theorem Sx.has {s : RgSt} {id n beat : Int} {th : List (Int × Th)} {was : List Th} {last : Nt} {k : Nat} (x : Sx s id n beat th was last k) {c : Nat} (hc : c < 16) : hasB s c = decide (Int.tmod c n = id) := by
  unfold hasB
  rw [x.ow, owInit_at hc, x.id, isC_iff.2 ⟨by omega, by omega⟩, Bool.true_and]
/-- A command that is taken. -/
theorem take_ok {s : RgSt} {c : Cm} (h : takeE s c = 0) : takeI s c = (if c.kind = 1 then putN s else c.id) ∧
    takeS s c = upS (if c.kind = 1 then { s with th := aSet s.th (putN s) (putT c (putN s)), given := s.given + 1 } else { s with th := doneL s.th c 0 }) (if c.kind = 1 then putN s else c.id) c := by
  have hd : doesE s c = 0 := by
    unfold takeE at h
    split at h
    · cases h
    · split at h
      · cases h
      · exact h
  have e1 : doesI s c = (if c.kind = 1 then putN s else c.id) := by unfold doesI; rw [if_neg (fun e => e hd)]
  have e2 : doesS s c = (if c.kind = 1 then { s with th := aSet s.th (putN s) (putT c (putN s)), given := s.given + 1 } else { s with th := doneL s.th c 0 }) := by unfold doesS; rw [if_neg (fun e => e hd)]
  exact ⟨by unfold takeI; rw [if_neg (fun e => e h), e1], by unfold takeS; rw [if_neg (fun e => e h), e1, e2]⟩
theorem Sx.take {s : RgSt} {id n beat : Int} {th : List (Int × Th)} {was : List Th} {last : Nt} {k : Nat} (x : Sx s id n beat th was last k) {c : Cm} (h : takeE s c = 0) :
    Sx (takeS s c) id n beat (if c.kind = 1 then aSet th (putN s) (putT c (putN s)) else doneL th c 0) was last (k + 1) := by
  rw [(take_ok h).2]
  have t0 := x.t0
  have tk := x.tk
  have g0 := x.g0
  have g1 := x.g1
  have ol := x.ol
  by_cases hk : c.kind = 1
  · rw [if_pos hk, if_pos hk]
    exact ⟨x.ow, x.id, x.n, x.beat, by show aSet s.th _ _ = _; rw [x.th, if_pos hk], x.was, x.last, x.h, x.w, x.off, by show 0 ≤ s.took + 1; omega, by show s.took + 1 ≤ _; omega, by show 0 ≤ s.given + 1; omega, by show s.given + 1 ≤ _; omega, by show (s.order ++ [_]).length ≤ _; rw [List.length_append, List.length_singleton]; omega⟩
  · rw [if_neg hk, if_neg hk]
    exact ⟨x.ow, x.id, x.n, x.beat, by show doneL s.th _ _ = _; rw [x.th, if_neg hk], x.was, x.last, x.h, x.w, x.off, by show 0 ≤ s.took + 1; omega, by show s.took + 1 ≤ _; omega, g0, by show s.given ≤ _; omega, by show (s.order ++ [_]).length ≤ _; rw [List.length_append, List.length_singleton]; omega⟩
theorem take_no {s : RgSt} {c : Cm} (h : takeE s c ≠ 0) : takeS s c = s := by unfold takeS; rw [if_pos h]
/-- A beat's end. -/
theorem Sx.done {s : RgSt} {id n beat : Int} {th : List (Int × Th)} {was : List Th} {last : Nt} {k : Nat} (x : Sx s id n beat th was last k) (nts : List Nt) {go : List Th} (hg : goneL { s with th := layT s.th (comesL s nts) } = go) :
    Sx (endS s nts) id n (beat + 1) (dropT (layT th (comesL s nts)) go) ((allT (dropT (layT th (comesL s nts)) go)).map (thOf (dropT (layT th (comesL s nts)) go))) ⟨id, beat, go, [], [], []⟩ k := by
  unfold endS leavesS
  rw [hg, x.th]
  have g1 := x.g1
  have ol := x.ol
  refine ⟨x.ow, x.id, x.n, by show s.beat + 1 = _; rw [x.beat], rfl, rfl, ?_, rfl, rfl, x.off, Int.le_refl _, by show (0 : Int) ≤ k; omega, x.g0, g1, ol⟩
  show (⟨s.id, s.beat, go, s.hands, [], s.watch⟩ : Nt) = _
  rw [x.id, x.beat, x.h, x.w]
/-! Two regions. -/
structure CS (H0 H : AH) (ga : Pn) (sa : RgSt) (Oa : Pn → Prop) (gb : Pn) (sb : RgSt) (Ob : Pn → Prop) (P : Pn → Prop) : Prop where
  le : Le H0 H
  a : RgS H ga sa Oa
  b : RgS H gb sb Ob
  an : ∀ x, Oa x → ¬ H0.has x
  bn : ∀ x, Ob x → ¬ H0.has x
  ap : ∀ x, Oa x → ¬ Ob x
  kp : ∀ x, P x → H.has x ∧ ¬ Oa x ∧ ¬ Ob x
section
variable {H0 H H' : AH} {ga gb : Pn} {sa sb s' : RgSt} {Oa Ob O' P P' : Pn → Prop}
theorem CS.add (c : CS H0 H ga sa Oa gb sb Ob P) (h : ∀ x, P' x → H.has x ∧ ¬ Oa x ∧ ¬ Ob x) : CS H0 H ga sa Oa gb sb Ob (fun x => P x ∨ P' x) := { c with kp := fun x hx => hx.elim (c.kp x) (h x) }
theorem CS.gB (c : CS H0 H ga sa Oa gb sb Ob P) (f : Fr Ob H H') {x : Pn} (hx : P x) : H'.get x = H.get x := f.get x (c.kp x hx).1 (c.kp x hx).2.2
end
end Go.Proofs
end
section
/- RegionCross: the walk. -/
namespace Go.Proofs
open Go Go.Vw Go.Vw.Ev
set_option linter.unusedVariables false
set_option linter.unusedSimpArgs false

def T1 (to : Pt) : Th := ⟨0, to, fdZ, fdZ, fdZ, fdZ⟩
def T2 (to : Pt) (v : Int) : Th := ⟨0, to, ⟨v, []⟩, fdZ, fdZ, fdZ⟩
structure ToOk (to : Pt) : Prop where
  x0 : 16 ≤ to.x
  x1 : to.x < 32
  y0 : 0 ≤ to.y
  y1 : to.y < 16
theorem ToOk.on {to : Pt} (h : ToOk to) : On to = true := by
  have := h.x0; have := h.x1; have := h.y0; have := h.y1
  exact on_of (by omega) (by omega) (by omega) (by omega)
theorem ToOk.cell {to : Pt} (h : ToOk to) : ofC to = ((1 : Nat) : Int) := by
  have := h.x0; have := h.x1; have := h.y0; have := h.y1
  unfold ofC
  rw [if_pos h.on]
  unfold cellOf
  rw [show to.x / 16 = 1 by omega, show to.y / 16 = 0 by omega]
  rfl
theorem quiet0 (src beat : Int) : QuietN ⟨src, beat, [], [], [], []⟩ := ⟨rfl, rfl, rfl, fun t h => by cases h⟩
theorem sm0 (src beat : Int) : SmN ⟨src, beat, [], [], [], []⟩ := ⟨by show (0 : Nat) < 1000; decide, by show (0 : Nat) < 1000; decide, by show (0 : Nat) < 1000; decide, by show (0 : Nat) < 1000; decide⟩
end Go.Proofs
end
section
/- Rows of whole numbers that come in. -/
namespace Go.Proofs
open Go Go.Vw Go.Vw.Ev
set_option linter.unusedVariables false
set_option linter.unusedSimpArgs false

def InI (H : AH) (p : AP) (n : Nat) (k : IntKind) (xs : List Int) : Prop := xs.length = n ∧ (n ≠ 0 → ∃ g, p = .at g 0 ∧ H.has g ∧ H.get g = some (.fix (xs.map (AS.int k))))
theorem InI.le {H H' : AH} {p : AP} {n : Nat} {k : IntKind} {xs : List Int} (h : InI H p n k xs) (l : Le H H') : InI H' p n k xs :=
  ⟨h.1, fun hn => (h.2 hn).imp fun g hg => ⟨hg.1, l.has g hg.2.1, (l.get g hg.2.1).trans hg.2.2⟩⟩
theorem InI.read {H : AH} {p : AP} {n : Nat} {k : IntKind} {xs : List Int} (h : InI H p n k xs) {i : Nat} (hi : i < n) {K : Int → Bool} (hk : K (xs[i]'(by rw [h.1]; exact hi)) = true) :
    nilK p (fun g o => idxK (i : Int) n fun m => fN (Nat.add o (Nat.mul m 1)) fun o => rowK H g fun cs => ldI cs o k K) = true := by
  obtain ⟨g, rfl, hg, hrow⟩ := h.2 (by omega)
  simp only [nilK_at, fN_eq, Nat.add_eq, Nat.mul_eq, Nat.zero_add, Nat.mul_one]
  have hl : i < xs.length := by rw [h.1]; exact hi
  refine idxK_w (by omega) (by omega) (rowK_wf hrow (ldI_w (n := xs[i]) ?_ hk))
  rw [Int.toNat_natCast, List.getElem?_map, List.getElem?_eq_getElem hl]
  rfl
theorem sl_int (k : IntKind) : ∀ (n : Nat) (cs : List AS), LeavesV (List.replicate n [Leaf.int k]).flatten cs → ∃ l : List Int, cs = l.map (AS.int k) ∧ l.length = n ∧ ∀ x ∈ l, (Lit.int k x).wf = true
  | 0, [], _ => ⟨[], rfl, rfl, fun x h => (by cases h)⟩
  | 0, _ :: _, h => h.elim
  | n + 1, [], h => h.elim
  | n + 1, x :: r, h => by
    obtain ⟨h1, h4⟩ := h
    cases x <;> first | exact h1.elim | skip
    obtain ⟨l, rfl, hl, hw⟩ := sl_int k n r h4
    obtain ⟨rfl, hx⟩ := h1
    refine ⟨_ :: l, rfl, by simp [hl], fun y hy => ?_⟩
    rcases List.mem_cons.1 hy with rfl | hy
    · exact hx
    · exact hw y hy
theorem sl_u8 (n : Nat) (cs : List AS) (h : LeavesV (List.replicate n [Leaf.int .u8]).flatten cs) : ∃ l : List Int, cs = l.map (AS.int .u8) ∧ l.length = n ∧ ∀ x ∈ l, 0 ≤ x ∧ x ≤ 255 := by
  obtain ⟨l, h1, h2, h3⟩ := sl_int .u8 n cs h
  exact ⟨l, h1, h2, fun x hx => Go.bounds_u8 (h3 x hx)⟩
end Go.Proofs
end
section
/- RegionCopies: a copy is alike, and goes its own way. -/
namespace Go.Proofs
open Go Go.Vw Go.Vw.Ev
set_option linter.unusedVariables false
set_option linter.unusedSimpArgs false
set_option maxRecDepth 100000

/-- A region in which things were put, and beats ended: i calls of each, or less. -/
structure Cw (s : RgSt) (id n beat : Int) (i : Nat) : Prop where
  x : Sx s id n beat s.th s.was s.last i
  g : ∀ k t, aGet s.th k = some t → GoodT t ∧ t.id = k ∧ k < 4 * s.given
  nod : (aKeys s.th).Nodup
  was : ∀ t ∈ s.was, GoodT t
  wl : s.was.length ≤ i
  ol : s.order.length = s.th.length
theorem Sx.mono {s : RgSt} {id n beat : Int} {th : List (Int × Th)} {was : List Th} {last : Nt} {k k' : Nat} (x : Sx s id n beat th was last k) (h : k ≤ k') : Sx s id n beat th was last k' :=
  { x with tk := by have := x.tk; omega, g1 := by have := x.g1; omega, ol := by have := x.ol; omega }
theorem Sx.self {s : RgSt} {id n beat : Int} {th : List (Int × Th)} {was : List Th} {last : Nt} {k : Nat} (x : Sx s id n beat th was last k) : Sx s id n beat s.th s.was s.last k := { x with th := rfl, was := rfl, last := rfl }
theorem Cw.mono {s : RgSt} {id n beat : Int} {i j : Nat} (c : Cw s id n beat i) (h : i ≤ j) : Cw s id n beat j := { c with x := c.x.mono h, wl := by have := c.wl; omega }
theorem Cw.new {id n : Int} (hn : clamp4 n = n) (hi : 0 ≤ id ∧ id < n) : Cw (newS id n) id n 0 0 :=
  ⟨Sx.new hn hi, fun k t h => (by cases h), List.nodup_nil, fun t h => (by cases h), Nat.le_refl _, rfl⟩
theorem Cw.th_le {s : RgSt} {id n beat : Int} {i : Nat} (c : Cw s id n beat i) : s.th.length ≤ i := by have := c.x.ol; have := c.ol; omega
theorem Cw.put {s : RgSt} {id n beat : Int} {i : Nat} (c : Cw s id n beat i) (hi : i < 1000) (hid : 0 ≤ id ∧ id ≤ 3) {p : Pt} (hp : On p = true) : Cw (takeS s (putC p)) id n beat (i + 1) := by
  by_cases he : takeE s (putC p) = 0
  · have x := c.x.take he
    rw [if_pos (show (putC p).kind = 1 from rfl)] at x
    have e := (take_ok he).2
    rw [if_pos (show (putC p).kind = 1 from rfl), if_pos (show (putC p).kind = 1 from rfl)] at e
    have g0 := c.x.g0
    have g1 := c.x.g1
    have hN : putN s = 4 * s.given + id := by unfold putN numE; rw [c.x.id]; omega
    have hno : putN s ∉ aKeys s.th := fun h => by
      rw [mem_get] at h
      obtain ⟨t, et⟩ := Option.isSome_iff_exists.1 h
      have := (c.g _ t et).2.2
      omega
    have hk := aKeys_set_new s.th (putT (putC p) (putN s)) hno
    have hlen : (aSet s.th (putN s) (putT (putC p) (putN s))).length = s.th.length + 1 := by
      have := congrArg List.length hk
      simpa [aKeys] using this
    have eth : (takeS s (putC p)).th = aSet s.th (putN s) (putT (putC p) (putN s)) := by rw [e]; rfl
    refine ⟨?_, ?_, ?_, ?_, ?_, ?_⟩
    · rw [eth]; rw [e] at x ⊢; exact x
    · rw [eth]
      intro k t h
      have eg : (takeS s (putC p)).given = s.given + 1 := by rw [e]; rfl
      rw [eg]
      by_cases ek : k = putN s
      · subst ek
        rw [aGet_set_same] at h
        cases h
        exact ⟨⟨hp, by show 0 ≤ putN s; omega, by show putN s ≤ 1000000; omega⟩, rfl, by omega⟩
      · rw [aGet_set_ne _ _ ek] at h
        obtain ⟨h1, h2, h3⟩ := c.g k t h
        exact ⟨h1, h2, by omega⟩
    · rw [eth, hk]
      exact List.nodup_append.2 ⟨c.nod, by simp, fun a ha b hb => by rw [List.mem_singleton] at hb; subst hb; exact fun e => hno (e ▸ ha)⟩
    · rw [e]; exact c.was
    · rw [e]; have := c.wl; show s.was.length ≤ _; omega
    · rw [eth, hlen, e]
      show (s.order ++ [_]).length = _
      rw [List.length_append, List.length_singleton, c.ol]
  · rw [take_no he]
    exact c.mono (by omega)
theorem Cw.sm {s : RgSt} {id n beat : Int} {i : Nat} (c : Cw s id n beat i) (hi : i < 1000) (hh : s.last.hands = []) : Sm s := c.x.sm (by omega) (by have := c.th_le; omega) hh
theorem all_key {L : List (Int × Th)} {k : Int} (h : k ∈ allT L) : ∃ t, aGet L k = some t ∧ thOf L k = t := by
  have := (srtI_perm _).mem_iff.1 h
  rw [mem_get] at this
  obtain ⟨t, et⟩ := Option.isSome_iff_exists.1 this
  exact ⟨t, et, by unfold thOf; rw [et]; rfl⟩
theorem Cw.good {s : RgSt} {id n beat : Int} {i : Nat} (c : Cw s id n beat i) : ∀ k ∈ allT s.th, GoodT (thOf s.th k) := fun k h => by
  obtain ⟨t, et, e⟩ := all_key h
  rw [e]
  exact (c.g k t et).1
theorem layT_len : ∀ (ts : List Th) (L : List (Int × Th)), (ts.map Th.id).Nodup → (∀ t ∈ ts, t.id ∉ aKeys L) → (layT L ts).length = L.length + ts.length
  | [], L, _, _ => rfl
  | t :: r, L, hn, hd => by
    rw [List.map_cons, List.nodup_cons] at hn
    have hno := hd t (by simp)
    have hk := aKeys_set_new L t hno
    have hlen : (aSet L t.id t).length = L.length + 1 := by
      have := congrArg List.length hk
      simpa [aKeys] using this
    have := layT_len r (aSet L t.id t) hn.2 fun u hu h => by
      rw [hk] at h
      rcases List.mem_append.1 h with h | h
      · exact hd u (by simp [hu]) h
      · rw [List.mem_singleton] at h
        exact hn.1 (h ▸ List.mem_map.2 ⟨u, hu, rfl⟩)
    show (layT (aSet L t.id t) r).length = _
    rw [this, hlen, List.length_cons]
    omega
theorem Cw.copy_len {s : RgSt} {id n beat : Int} {i : Nat} (c : Cw s id n beat i) : (layT [] ((allT s.th).map (thOf s.th))).length = s.th.length := by
  have e : ((allT s.th).map (thOf s.th)).map Th.id = allT s.th := by
    rw [List.map_map]
    refine (List.map_congr_left fun k hk => ?_).trans (List.map_id _)
    obtain ⟨t, et, e⟩ := all_key hk
    show (thOf s.th k).id = k
    rw [e]
    exact (c.g k t et).2.1
  rw [layT_len _ [] (by rw [e]; exact (srtI_perm _).nodup_iff.2 c.nod) fun t _ h => by cases h]
  simp [allT_len]
theorem onCell {p : Pt} (h : On p = true) : ∃ c : Nat, c < 16 ∧ ofC p = (c : Nat) := by
  have := cellOf_b h
  exact ⟨(cellOf p).toNat, by omega, by unfold ofC; rw [if_pos h]; omega⟩
/-- With one server nothing goes, nothing comes. -/
structure L1 (s : RgSt) : Prop where
  h : (s.beat = 0 ∧ s.last = nt0) ∨ (0 < s.beat ∧ s.last = ⟨0, s.beat - 1, [], [], [], []⟩)
theorem L1.quiet {s : RgSt} (l : L1 s) : QuietN s.last ∧ SmN s.last ∧ s.last.hands = [] := by
  rcases l.h with ⟨_, e⟩ | ⟨_, e⟩ <;> rw [e]
  · exact ⟨quiet0 0 0, sm0 0 0, rfl⟩
  · exact ⟨quiet0 _ _, sm0 _ _, rfl⟩
theorem L1.ok {s : RgSt} {i : Nat} {beat : Int} (l : L1 s) (c : Cw s 0 1 beat i) : OkEnd s [] := by
  rcases l.h with ⟨e, _⟩ | ⟨e, e'⟩
  · exact .inl ⟨e, rfl⟩
  · refine .inr ⟨by omega, ?_, by rw [c.x.n]; rfl⟩
    rw [e']
    show chkN s 0 [⟨0, s.beat - 1, [], [], [], []⟩] = true
    unfold chkN chkN
    rw [c.x.id, decide_eq_true (show (⟨0, s.beat - 1, [], [], [], []⟩ : Nt).beat = s.beat - 1 from rfl)]
    rfl
theorem L1.comes {s : RgSt} {i : Nat} {beat : Int} (l : L1 s) (c : Cw s 0 1 beat i) : comesL s (endN s []) = [] := by
  unfold endN
  split
  · rfl
  · rcases l.h with ⟨_, e⟩ | ⟨_, e⟩ <;> rw [e] <;> rfl
theorem L1.done {s : RgSt} {i : Nat} {beat : Int} (l : L1 s) (c : Cw s 0 1 beat i) (hi : i < 1000) (hb : 0 ≤ beat) : Cw (endS s (endN s [])) 0 1 (beat + 1) i ∧ L1 (endS s (endN s [])) := by
  have hc := l.comes c
  have hgo : goneL { s with th := layT s.th (comesL s (endN s [])) } = [] := by
    rw [hc]
    show goneL s = []
    refine List.filter_eq_nil_iff.2 fun t ht => ?_
    obtain ⟨k, hk, rfl⟩ := List.mem_map.1 ht
    have hg := c.good k hk
    obtain ⟨d, hd, e⟩ := onCell hg.on
    unfold goneB
    rw [e, c.x.has hd]
    have : Int.tmod (d : Int) 1 = 0 := Int.tmod_one _
    simp [this]
  have x := c.x.done (endN s []) hgo
  have eth : (endS s (endN s [])).th = s.th := by rw [x.th, hc]; rfl
  have ewas : (endS s (endN s [])).was = (allT s.th).map (thOf s.th) := by rw [x.was, hc]; rfl
  have ela : (endS s (endN s [])).last = ⟨0, beat, [], [], [], []⟩ := x.last
  have egi : (endS s (endN s [])).given = s.given := rfl
  have eor : (endS s (endN s [])).order = s.order := rfl
  refine ⟨⟨?_, ?_, ?_, ?_, ?_, ?_⟩, ⟨.inr ⟨by rw [x.beat]; omega, by rw [ela, x.beat]; congr 1; omega⟩⟩⟩
  · exact x.self
  · rw [eth, egi]; exact c.g
  · rw [eth]; exact c.nod
  · rw [ewas]
    intro t ht
    obtain ⟨k, hk, rfl⟩ := List.mem_map.1 ht
    exact c.good k hk
  · rw [ewas, List.length_map, allT_len]; exact c.th_le
  · rw [eth, eor]; exact c.ol
/-! The walk. -/
theorem Cw.sms {s : RgSt} {id n beat : Int} {i : Nat} (c : Cw s id n beat i) (hi : i < 1000) (hl : SmN s.last) : SmS s :=
  ⟨by have := c.th_le; omega, by have := c.wl; omega, by rw [c.x.w]; decide, by rw [c.x.h]; decide, by have := c.x.ol; omega, hl⟩
theorem Cw.oks {s : RgSt} {id n beat : Int} {i : Nat} (c : Cw s id n beat i) (hn : 1 ≤ n ∧ n ≤ 4) (hid : 0 ≤ id ∧ id < n) (hb : 0 ≤ beat) (hw : s.wat.length = 4) : OkS s :=
  ⟨by rw [c.x.n]; omega, by rw [c.x.n]; omega, by rw [c.x.id]; omega, by rw [c.x.id, c.x.n]; omega, by rw [c.x.beat]; omega, hw, by rw [c.x.ow]; simp [owInit], by
    rw [c.x.ow, c.x.n]
    intro h hh
    obtain ⟨k, hk, rfl⟩ := List.mem_map.1 hh
    have e : Int.tmod (k : Int) n = (k : Int) % n := Int.tmod_eq_emod_of_nonneg (by omega)
    have h1 := Int.emod_nonneg (k : Int) (show n ≠ 0 by omega)
    have h2 := Int.emod_lt_of_pos (k : Int) (show 0 < n by omega)
    exact ⟨by show 0 ≤ Int.tmod (k : Int) n; omega, by show Int.tmod (k : Int) n < n; omega, by show (0 : Int) ≤ 0; decide, by show (0 : Int) ≤ 1073741824; decide⟩, c.good⟩
theorem RgS.wat4 {H : AH} {g : Pn} {s : RgSt} {O : Pn → Prop} (r : RgS H g s O) : s.wat.length = 4 := by
  obtain ⟨f, Q, rb, _⟩ := r
  obtain ⟨gb, _, bk, _⟩ := rb.book
  exact bk.len
/-- What stands ahead of a round. -/
structure CI (H0 Hx : AH) (ga gb : Pn) (K : Int) (i : Nat) : Prop where
  le : Le H0 Hx
  a : ∃ s O, RgS Hx ga s O ∧ Cw s 0 1 (i : Int) i ∧ L1 s ∧ (∀ x, O x → ¬ H0.has x) ∧ ∃ P kl L, RbV P Hx gb (if K < i then K else 0) kl L ∧ (∀ x, P x → Hx.has x ∧ ¬ O x) ∧ kl = L.length ∧ ((kl : Nat) : Int) ≤ (if K < i then K else 0)
theorem B_law18_RegionCopies_ {lf : Nat} {cl : Cl} (hlf : 1000 ≤ lf) (hkn : ∀ H K, cl i_law18_known [] H K = K (.s (.bool true)) H) (hnew : CRgNew cl) (hcopy : CRgCopyV cl) (htake : CTakeD cl) (hend : CEnd0 cl) (hbt : CBeat cl) (hor : COrd cl) (hth : CThV cl)
    {H : AH} {q : AP} {m : Nat} {c : ACap} {xs : List Int} (hI : InI H q m .u8 xs) (hxs : ∀ x ∈ xs, 0 ≤ x ∧ x ≤ 255) (hmax : m ≤ 9223372036854775807) {cut : Int} (hcut : 0 ≤ cut ∧ cut ≤ 255) : B_law18_RegionCopies lf cl q m c 1 cut H isT = true := by
  unfold B_law18_RegionCopies
  rw [hkn]
  refine arB_w ?_
  simp only [fB_eq, iLt_dec, iEq_dec, iLe_dec]
  refine ifA_w (fun h => by cases h) (fun _ => ?_)
  refine ifA_w (fun _ => rfl) (fun hm => ?_)
  have hm : m ≤ 12 := by have := of_decide_eq_false hm; simp only [Int.ofNat_eq_natCast] at this; omega
  refine hnew 0 1 _ _ fun H1 ga Oa h1 ra oa => ?_
  rw [asP_]
  have c0 := Cw.new (id := 0) (n := 1) (by decide) (by decide)
  have l0 : L1 (newS 0 1) := ⟨.inl ⟨rfl, rfl⟩⟩
  refine hcopy _ _ _ _ _ ra (c0.sms (by decide) l0.quiet.2.1) (c0.oks (by decide) (by decide) (by decide) ra.wat4) fun H2 P0 gb h2 rv0 p0 => ?_
  rw [asP_]
  have hK : Int.tmod cut (Int.ofNat 12) = cut % 12 := Int.tmod_eq_emod_of_nonneg hcut.1
  have hK0 : 0 ≤ cut % 12 ∧ cut % 12 < 12 := by omega
  generalize cut % 12 = K at *
  have hn1 : (newS 0 1).order.length = 0 := rfl
  have hn2 : (newS 0 1).beat = 0 := by decide
  have hn3 := c0.copy_len
  rw [hn1, hn2] at rv0
  refine loopX_w (fun x Hx => ∃ (i : Nat) (gb : Pn), x = ((q, m, c, 1), cut, .at ga 0, .at gb 0, (i : Int)) ∧ i ≤ m ∧ CI H Hx ga gb K i) (fun x => m - x.2.2.2.2.toNat)
    ⟨0, gb, rfl, by omega, h1.trans h2, _, Oa, ra.le h2, c0, l0, oa, P0, 0, _, by rw [if_neg (by omega)]; exact rv0, fun x hx => ⟨(p0 x hx).2, fun h => (p0 x hx).1 (ra.has _ h)⟩, hn3.symm, by rw [if_neg (by omega)]; decide⟩ (by simp; omega) ?_
  clear rv0 p0 ra oa h1 h2
  rintro self x Hx ⟨i, gb, rfl, hi, ci⟩ ih
  simp only [pR_]
  refine ifA_w (fun hx => ?_) (fun hx => ?_)
  · have hx : i < m := by have := of_decide_eq_true hx; simp only [Int.ofNat_eq_natCast] at this; omega
    refine joinX_w (fun x Hy => ∃ gb, x = ((q, m, c, 1), cut, .at ga 0, .at gb 0, (i : Int)) ∧ Le H Hy ∧ ∃ s O, RgS Hy ga s O ∧ Cw s 0 1 (i : Int) i ∧ L1 s ∧ (∀ x, O x → ¬ H.has x) ∧ ∃ P kl L, RbV P Hy gb (if K < i + 1 then K else 0) kl L ∧ (∀ x, P x → Hy.has x ∧ ¬ O x) ∧ kl = L.length ∧ ((kl : Nat) : Int) ≤ (if K < i + 1 then K else 0)) ?_ ?_
    · rintro x Hy ⟨gb, rfl, hL, s, O, rg, cw, l1, on, P, kl, L, rv, hp, ekl, hkl⟩
      simp only [pR_]
      have hxi := hxs _ (List.getElem_mem (show i < xs.length by rw [hI.1]; exact hx))
      refine (hI.le hL).read hx ?_
      have e2 : Int.tmod (xs[i]'(by rw [hI.1]; exact hx)) (Int.ofNat 64) = xs[i]'(by rw [hI.1]; exact hx) % 64 := Int.tmod_eq_emod_of_nonneg hxi.1
      rw [e2]
      refine fI_w (w64_w (by omega) (by omega) ((hI.le hL).read hx ?_))
      have e3 : Int.tdiv (xs[i]'(by rw [hI.1]; exact hx)) (Int.ofNat 4) = xs[i]'(by rw [hI.1]; exact hx) / 4 := Int.tdiv_eq_ediv_of_nonneg hxi.1
      generalize xs[i]'(by rw [hI.1]; exact hx) = u at *
      rw [wrapK_eq, e3, wrapu8 (by omega) (by omega)]
      refine w64_w (by omega) (by omega) (fL_w ?_)
      have hon : On ⟨u % 64, u / 4⟩ = true := on_of (show 0 ≤ u % 64 by omega) (show u % 64 < 64 by omega) (show 0 ≤ u / 4 by omega) (show u / 4 < 64 by omega)
      refine htake Hy ga s O (putC ⟨u % 64, u / 4⟩) _ rg (cw.sm (by omega) l1.quiet.2.2) rfl (fun e => absurd (show (1 : Int) = 5 from e) (by decide)) fun H3 O3 f3 r3 o3 => ?_
      rw [tup2_]
      refine arI_w (arI_w ?_)
      have cw3 := cw.put (by omega) (by decide) hon
      have l13 : L1 (takeS s (putC ⟨u % 64, u / 4⟩)) := by
        by_cases he : takeE s (putC ⟨u % 64, u / 4⟩) = 0
        · rw [(take_ok he).2]; exact ⟨l1.h⟩
        · rw [take_no he]; exact l1
      have b3 := cw3.x.beat
      generalize takeS s (putC ⟨u % 64, u / 4⟩) = s3 at *
      have hq := l13.quiet
      have hc3 := l13.comes cw3
      refine hend H3 ga s3 O3 .nil 0 _ 1 [] _ r3 (cw3.sm (by omega) hq.2.2) (by
        rw [show endN s3 (([] : List (Rw × Nt)).map (·.2)) = endN s3 [] from rfl, hc3]
        have := cw3.th_le
        show s3.th.length + 0 < 1000; omega) cw3.x.quiet hq.2.1 hq.1 cw3.was (by have := cw3.wl; omega) SR.nil (fun x h => by cases h) (by decide) (by rw [b3]; omega) (l13.ok cw3) fun H4 r O4 f4 r4 o4 _ _ => ?_
      rw [tup3_, asG_, asSl_, iAdd_]
      refine arI_w ?_
      obtain ⟨cw4, l14⟩ := l13.done cw3 (by omega) (by omega)
      have hO3 : ∀ x, O3 x → ¬ H.has x := fun x h h' => (o3 x h).elim (fun e => on x e h') fun e => e (hL.has _ h')
      have hp3 : ∀ x, P x → H3.has x ∧ ¬ O3 x := fun x h => ⟨f3.has _ (hp x h).1, fun h' => (o3 x h').elim (hp x h).2 fun e => e (hp x h).1⟩
      have hO4 : ∀ x, O4 x → ¬ H.has x := fun x h h' => (o4 x h).elim (fun e => hO3 x e h') fun e => e (f3.has _ (hL.has _ h'))
      have hp4 : ∀ x, P x → H4.has x ∧ ¬ O4 x := fun x h => ⟨f4.has _ (hp3 x h).1, fun h' => (o4 x h').elim (hp3 x h).2 fun e => e (hp3 x h).1⟩
      have hL4 : Le H H4 := ⟨fun x h => f4.has _ (f3.has _ (hL.has _ h)), fun x h => (f4.get x (f3.has _ (hL.has _ h)) fun h' => hO3 x h' h).trans ((f3.get x (hL.has _ h) fun h' => on x h' h).trans (hL.get x h))⟩
      refine w64_w (by simp only [Int.ofNat_eq_natCast]; omega) (by simp only [Int.ofNat_eq_natCast]; omega) (ih _ _ ⟨i + 1, gb, by simp, by omega, hL4, _, O4, r4, ?_, l14, hO4, P, kl, L, ?_, hp4, ekl, ?_⟩ (by simp; omega))
      · exact_mod_cast cw4
      · have := (rv.fr f3 fun a h => (hp a h).2).fr f4 fun a h => (hp3 a h).2
        exact_mod_cast this
      · exact_mod_cast hkl
    · intro J hJ
      obtain ⟨hL, s, O, rg, cw, l1, on, P, kl, L, rv, hp, ekl, hkl⟩ := ci
      rw [hK]
      refine fI_w (w64_w (by omega) (by omega) ?_)
      refine ifA_w (fun hc => ?_) (fun hc => ?_)
      · have hc : (i : Int) = K := of_decide_eq_true hc
        refine hcopy _ _ _ _ _ rg (cw.sms (by omega) l1.quiet.2.1) (cw.oks (by decide) (by decide) (by omega) rg.wat4) fun H2 P2 gb2 h2 rv2 p2 => ?_
        rw [asP_]
        have e2 := cw.copy_len
        have b2 := cw.x.beat
        have t2 := cw.th_le
        refine hJ _ _ ⟨gb2, rfl, hL.trans h2, s, O, rg.le h2, cw, l1, on, P2, _, _, by rw [if_pos (by omega), ← hc, ← b2]; exact rv2, fun x h => ⟨(p2 x h).2, fun h' => (p2 x h).1 (rg.has _ h')⟩, by rw [e2]; exact cw.ol, by rw [if_pos (by omega), cw.ol]; omega⟩
      · have hc : ¬ (i : Int) = K := of_decide_eq_false hc
        have e : (if K < (i : Int) + 1 then K else 0) = if K < (i : Int) then K else 0 := by split <;> split <;> omega
        exact hJ _ _ ⟨gb, rfl, hL, s, O, rg, cw, l1, on, P, kl, L, by rw [e]; exact rv, hp, ekl, by rw [e]; exact hkl⟩
  · have hx : i = m := by have := of_decide_eq_false hx; simp only [Int.ofNat_eq_natCast] at this; omega
    subst hx
    obtain ⟨hL, s, O, rg, cw, l1, on, P, kl, L, rv, hp, ekl, hkl⟩ := ci
    rw [hK]
    refine fI_w (w64_w (by omega) (by omega) ?_)
    rw [mnA_, fI_eq]
    have kll : kl ≤ 12 := by split at hkl <;> omega
    refine joinX_w (fun x Hy => Hy = Hx ∧ x = ((q, i, c, 1), .at ga 0, .at gb 0, (if K < i then K else 0))) ?_ ?_
    · rintro x Hy ⟨rfl, rfl⟩
      simp only [pR_]
      refine hbt _ _ _ _ _ _ _ rg.view (arI_w ?_)
      rw [cw.x.beat]
      refine ifA_w (fun _ => ?_) (fun h => absurd rfl (of_decide_eq_false h))
      refine hbt _ _ _ _ _ _ _ rv (arI_w ?_)
      refine ifA_w (fun _ => ?_) (fun h => absurd rfl (of_decide_eq_false h))
      refine hor _ _ _ _ _ _ _ rv (by omega) fun H2 p2 c2 z2 h2 => ?_
      rw [asSl_]
      refine hth _ _ _ _ _ _ _ (rv.le h2) (by omega) fun H3 p3 c3 z3 h3 _ => ?_
      rw [asSl_]
      refine ifA_w (fun _ => ?_) (fun h => absurd (by rw [allT_len, ekl]) (of_decide_eq_false h))
      refine hor _ _ _ _ _ _ _ (rv.le (h2.trans h3)) (by omega) fun H4 p4 c4 z4 h4 => ?_
      rw [asSl_]
      rw [decide_eq_true (show (Int.ofNat kl : Int) ≤ _ from hkl)]
      rfl
    · intro J hJ
      refine fI_w (w64_w (by omega) (by omega) ?_)
      refine ifA_w (fun hc => ?_) (fun hc => ?_)
      · have hc := of_decide_eq_true hc
        simp only [Int.ofNat_eq_natCast] at hc
        refine hJ _ _ ⟨rfl, ?_⟩
        rw [if_neg (by omega)]
        rfl
      · have hc := of_decide_eq_false hc
        simp only [Int.ofNat_eq_natCast] at hc
        refine hJ _ _ ⟨rfl, ?_⟩
        rw [if_pos (by omega), show min K (Int.ofNat i) = K by simp only [Int.ofNat_eq_natCast]; omega]
end Go.Proofs
end
section
/- Rows of bools that come in. -/
namespace Go.Proofs
open Go Go.Vw Go.Vw.Ev
set_option linter.unusedVariables false
end Go.Proofs
end
