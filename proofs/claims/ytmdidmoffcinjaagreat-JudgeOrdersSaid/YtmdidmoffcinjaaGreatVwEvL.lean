/- The relation's laws. -/
import Derived.Test.YtmdidmoffcinjaaGreatVwEvR
namespace Go.Vw.Ev
open Go Go.Vw
def PExt (φ φ' : Phi) : Prop := ∀ a r, φ a = some r → φ' a = some r
theorem PExt.refl (φ : Phi) : PExt φ φ := fun _ _ h => h
theorem PExt.trans {φ φ' φ'' : Phi} (h : PExt φ φ') (h' : PExt φ' φ'') : PExt φ φ'' := fun a r x => h' a r (h a r x)
section
variable {φ φ' : Phi}
theorem RP.mono (hx : PExt φ φ') {p : AP} {a : Option Addr} (h : RP φ p a) : RP φ' p a := by
 cases p with
 | nil => exact h
 | «at» x o => obtain ⟨r, h1, h2⟩ := h; exact ⟨r, hx _ _ h1, h2⟩
 | edge x o => exact h
theorem RC.mono (hx : PExt φ φ') {c : ACap} {n : Nat} (h : RC φ c n) : RC φ' c n := by
 cases c with
 | lit c => exact h
 | of x k => obtain ⟨r, h1, h2⟩ := h; exact ⟨r, hx _ _ h1, h2⟩
theorem RSl.mono (hx : PExt φ φ') {p : AP} {n z c : Nat} {a : Option Addr} (h : RSl φ p n z c a) : RSl φ' p n z c a := by
 cases p with
 | nil => exact h
 | «at» x o => obtain ⟨r, h1, h2⟩ := h; exact ⟨r, hx _ _ h1, h2⟩
 | edge x o => obtain ⟨h0, r, o', h1, h2⟩ := h; exact ⟨h0, r, o', hx _ _ h1, h2⟩
mutual
theorem RS.mono (hx : PExt φ φ') : ∀ (x : AS) (v : Value), RS φ x v → RS φ' x v
 | .int _ _, _, h => by simpa only [RS] using h
 | .bool _, _, h => by simpa only [RS] using h
 | .str _, _, h => by simpa only [RS] using h
 | .nilFunc, _, h => by simpa only [RS] using h
 | .nilIface, _, h => by simpa only [RS] using h
 | .ptr p, _, h => by
  simp only [RS] at h ⊢
  obtain ⟨a, h1, h2⟩ := h
  exact ⟨a, h1, h2.mono hx⟩
 | .slice p n c z, _, h => by
  simp only [RS] at h ⊢
  obtain ⟨a, c', h1, h2, h3, h4⟩ := h
  exact ⟨a, c', h1, h2.mono hx, h3, h4.mono hx⟩
 | .map p, _, h => by
  simp only [RS] at h ⊢
  cases p with
  | none => exact h
  | some x => obtain ⟨r, h1, h2⟩ := h; exact ⟨r, hx _ _ h1, h2⟩
 | .chan p, _, h => by
  simp only [RS] at h ⊢
  cases p with
  | none => exact h
  | some x => obtain ⟨r, h1, h2⟩ := h; exact ⟨r, hx _ _ h1, h2⟩
 | .func f a c, _, h => by
  simp only [RS] at h ⊢
  obtain ⟨a', c', h1, h2, h3⟩ := h
  exact ⟨a', c', h1, RSL.mono hx a _ h2, RSL.mono hx c _ h3⟩
theorem RSL.mono (hx : PExt φ φ') : ∀ (xs : List AS) (vs : List Value), RSL φ xs vs → RSL φ' xs vs
 | [], _, h => by simpa only [RSL] using h
 | x :: xs, _, h => by
  simp only [RSL] at h ⊢
  obtain ⟨v, vs, h1, h2, h3⟩ := h
  exact ⟨v, vs, h1, RS.mono hx x v h2, RSL.mono hx xs vs h3⟩
end
mutual
theorem RV.mono (hx : PExt φ φ') : ∀ (x : AV) (v : Value), RV φ x v → RV φ' x v
 | .s x, v, h => by simp only [RV] at h ⊢; exact h.mono hx
 | .agg cs, v, h => by
  simp only [RV] at h ⊢
  obtain ⟨l, h1, h2⟩ := h
  exact ⟨l, h1, h2.mono hx⟩
 | .tup vs, v, h => by
  simp only [RV] at h ⊢
  obtain ⟨l, h1, h2⟩ := h
  exact ⟨l, h1, RVL.mono hx vs _ h2⟩
 | .undef, v, h => by simpa only [RV] using h
 | .top, v, h => by simp only [RV]
theorem RVL.mono (hx : PExt φ φ') : ∀ (xs : List AV) (vs : List Value), RVL φ xs vs → RVL φ' xs vs
 | [], _, h => by simpa only [RVL] using h
 | x :: xs, _, h => by
  simp only [RVL] at h ⊢
  obtain ⟨v, vs, h1, h2, h3⟩ := h
  exact ⟨v, vs, h1, RV.mono hx x v h2, RVL.mono hx xs vs h3⟩
end
theorem REL.mono (hx : PExt φ φ') : ∀ {xs : List (Int × AV)} {vs : List (Int × Value)}, REL φ xs vs → REL φ' xs vs
 | [], _, h => by simpa only [REL] using h
 | x :: xs, _, h => by
  simp only [REL] at h ⊢
  obtain ⟨v, vs, h1, h2, h3⟩ := h
  exact ⟨v, vs, h1, h2.mono hx, REL.mono hx h3⟩
theorem RGL.mono (hx : PExt φ φ') : ∀ {xs : List (List AS)} {vs : List Value}, RGL φ xs vs → RGL φ' xs vs
 | [], _, h => by simpa only [RGL] using h
 | x :: xs, _, h => by
  simp only [RGL] at h ⊢
  obtain ⟨v, vs, h1, h2, h3⟩ := h
  exact ⟨v, vs, h1, h2.mono hx, RGL.mono hx h3⟩
theorem RB.mono (hx : PExt φ φ') {r : Rec} {b : AB} {k : Blk} (h : RB φ r b k) : RB φ' r b k := by
 cases b with
 | row cs => obtain ⟨l, h1, h2, h3⟩ := h; exact ⟨l, h1, h2.mono hx, h3⟩
 | imap es => obtain ⟨l, h1, h2⟩ := h; exact ⟨l, h1, h2.mono hx⟩
 | fix cs => obtain ⟨l, h1, h2, h3⟩ := h; exact ⟨l, h1, h2.mono hx, h3⟩
 | chan cap xs => obtain ⟨l, s, c, h1, h2⟩ := h; exact ⟨l, s, c, h1, h2.mono hx⟩
 | one x => obtain ⟨v, h1, h2, h3⟩ := h; exact ⟨v, h1, h2, h3.mono hx⟩
 | pmap es => obtain ⟨l, h1, h2⟩ := h; exact ⟨l, h1, h2.mono hx⟩
theorem RS.oneCell : ∀ {x : AS} {v : Value}, RS φ x v → v.oneCell' = true := by
 intro x v h
 cases x <;> simp only [RS] at h
 case int => subst h; rfl
 case bool => subst h; rfl
 case str => obtain ⟨b, rfl, _⟩ := h; rfl
 case ptr => obtain ⟨b, rfl, _⟩ := h; rfl
 case slice => obtain ⟨a, c', rfl, _⟩ := h; rfl
 case map p =>
  cases p with
  | none => subst h; rfl
  | some x => obtain ⟨r, _, rfl⟩ := h; rfl
 case chan p =>
  cases p with
  | none => subst h; rfl
  | some x => obtain ⟨r, _, rfl⟩ := h; rfl
 case func => obtain ⟨a', c', rfl, _⟩ := h; rfl
 case nilFunc => subst h; rfl
 case nilIface => subst h; rfl
theorem RSL.length : ∀ {xs : List AS} {vs : List Value}, RSL φ xs vs → vs.length = xs.length
 | [], _, h => by simp only [RSL] at h; simp [h]
 | x :: xs, _, h => by
  simp only [RSL] at h
  obtain ⟨v, vs, rfl, _, h3⟩ := h
  simp [RSL.length h3]
theorem RSL.allOne : ∀ {xs : List AS} {vs : List Value}, RSL φ xs vs → Vw.allOne vs = true
 | [], _, h => by simp only [RSL] at h; simp [h, Vw.allOne]
 | x :: xs, _, h => by
  simp only [RSL] at h
  obtain ⟨v, vs, rfl, h2, h3⟩ := h
  have := RSL.allOne h3
  simp only [Vw.allOne, List.all_cons, Bool.and_eq_true] at this ⊢
  exact ⟨h2.oneCell, this⟩
theorem RSL.append : ∀ {xs ys : List AS} {vs ws : List Value}, RSL φ xs vs → RSL φ ys ws → RSL φ (xs ++ ys) (vs ++ ws)
 | [], _, _, _, h, h' => by simp only [RSL] at h; simpa [h] using h'
 | x :: xs, _, _, _, h, h' => by
  simp only [RSL] at h
  obtain ⟨v, vs, rfl, h2, h3⟩ := h
  simp only [List.cons_append, RSL]
  exact ⟨v, _, rfl, h2, RSL.append h3 h'⟩
theorem RSL.take : ∀ (n : Nat) {xs : List AS} {vs : List Value}, RSL φ xs vs → RSL φ (xs.take n) (vs.take n)
 | 0, _, _, h => by simp [RSL]
 | n + 1, [], _, h => by simp only [RSL] at h; simp [h, RSL]
 | n + 1, x :: xs, _, h => by
  simp only [RSL] at h
  obtain ⟨v, vs, rfl, h2, h3⟩ := h
  simp only [List.take_succ_cons, RSL]
  exact ⟨v, _, rfl, h2, RSL.take n h3⟩
theorem RSL.drop : ∀ (n : Nat) {xs : List AS} {vs : List Value}, RSL φ xs vs → RSL φ (xs.drop n) (vs.drop n)
 | 0, _, _, h => by simpa using h
 | n + 1, [], _, h => by simp only [RSL] at h; simp [h, RSL]
 | n + 1, x :: xs, _, h => by
  simp only [RSL] at h
  obtain ⟨v, vs, rfl, h2, h3⟩ := h
  simpa using RSL.drop n h3
theorem RSL.get : ∀ {xs : List AS} {vs : List Value}, RSL φ xs vs → ∀ {i : Nat} {x : AS}, xs[i]? = some x → ∃ v, vs[i]? = some v ∧ RS φ x v
 | [], _, _, _, _, hi => by simp at hi
 | x :: xs, _, h, i, y, hi => by
  simp only [RSL] at h
  obtain ⟨v, vs, rfl, h2, h3⟩ := h
  cases i with
  | zero => simp at hi; subst hi; exact ⟨v, rfl, h2⟩
  | succ i =>
   obtain ⟨w, hw, hr⟩ := RSL.get h3 (i := i) (by simpa using hi)
   exact ⟨w, by simpa using hw, hr⟩
theorem RVL.get : ∀ {xs : List AV} {vs : List Value}, RVL φ xs vs → ∀ {i : Nat} {x : AV}, xs[i]? = some x → ∃ v, vs[i]? = some v ∧ RV φ x v
 | [], _, _, _, _, hi => by simp at hi
 | x :: xs, _, h, i, y, hi => by
  simp only [RVL] at h
  obtain ⟨v, vs, rfl, h2, h3⟩ := h
  cases i with
  | zero => simp at hi; subst hi; exact ⟨v, rfl, h2⟩
  | succ i =>
   obtain ⟨w, hw, hr⟩ := RVL.get h3 (i := i) (by simpa using hi)
   exact ⟨w, by simpa using hw, hr⟩
theorem RVL.append : ∀ {xs ys : List AV} {vs ws : List Value}, RVL φ xs vs → RVL φ ys ws → RVL φ (xs ++ ys) (vs ++ ws)
 | [], _, _, _, h, h' => by simp only [RVL] at h; simpa [h] using h'
 | x :: xs, _, _, _, h, h' => by
  simp only [RVL] at h
  obtain ⟨v, vs, rfl, h2, h3⟩ := h
  simp only [List.cons_append, RVL]
  exact ⟨v, _, rfl, h2, RVL.append h3 h'⟩
theorem RVL.ofRSL : ∀ {xs : List AS} {vs : List Value}, RSL φ xs vs → RVL φ (xs.map .s) vs
 | [], _, h => by simp only [RSL] at h; simp [h, RVL]
 | x :: xs, _, h => by
  simp only [RSL] at h
  obtain ⟨v, vs, rfl, h2, h3⟩ := h
  simp only [List.map_cons, RVL, RV]
  exact ⟨v, _, rfl, h2, RVL.ofRSL h3⟩
theorem scsA_ok : ∀ {l : List AV} {xs : List AS} {vs : List Value}, scsA l = some xs → RVL φ l vs → RSL φ xs vs
 | [], xs, vs, h, hr => by
  simp only [scsA, Option.some.injEq] at h
  subst h
  simp only [RVL] at hr
  simpa only [RSL] using hr
 | .s x :: r, xs, vs, h, hr => by
  simp only [scsA] at h
  split at h
  ·rename_i l hl
   simp only [Option.some.injEq] at h
   subst h
   simp only [RVL, RV] at hr
   obtain ⟨v, vs, rfl, h2, h3⟩ := hr
   simp only [RSL]
   exact ⟨v, vs, rfl, h2, scsA_ok hl h3⟩
  ·simp at h
 | .agg _ :: _, _, _, h, _ => by simp [scsA] at h
 | .tup _ :: _, _, _, h, _ => by simp [scsA] at h
 | .undef :: _, _, _, h, _ => by simp [scsA] at h
 | .top :: _, _, _, h, _ => by simp [scsA] at h
theorem ofS_ok : ∀ {v : Value} {x : AS}, ofS v = some x → RS φ x v := by
 intro v x h
 unfold ofS at h
 split at h <;> try simp only [Option.some.injEq, reduceCtorEq] at h
 all_goals first
  | (subst h; simp [RS, RP, RC, RSl]; done)
  | (subst h; simp only [RS]; exact ⟨none, 0, rfl, rfl, Nat.le_refl _, rfl, rfl, rfl⟩)
  | skip
 split at h
 ·rename_i ha hc
  simp only [Option.some.injEq] at h
  subst h
  simp only [RS]
  exact ⟨_, _, rfl, by simp [RSL, ha], by simp [RSL, hc]⟩
 ·simp at h
theorem ofL_ok : ∀ {vs : List Value} {xs : List AS}, ofL vs = some xs → RSL φ xs vs
 | [], xs, h => by
  simp only [ofL, Option.some.injEq] at h
  subst h
  simp [RSL]
 | v :: r, xs, h => by
  simp only [ofL] at h
  split at h
  ·rename_i x t hx ht
   simp only [Option.some.injEq] at h
   subst h
   simp only [RSL]
   exact ⟨v, r, rfl, ofS_ok hx, ofL_ok ht⟩
  ·simp at h
theorem ofV_ok {v : Value} {x : AV} (h : ofV v = some x) : RV φ x v := by
 unfold ofV at h
 split at h
 ·split at h
  ·rename_i l hl
   simp only [Option.some.injEq] at h
   subst h
   simp only [RV]
   exact ⟨_, rfl, ofL_ok hl⟩
  ·simp at h
 ·split at h
  ·rename_i l hl
   simp only [Option.some.injEq] at h
   subst h
   simp only [RV]
   exact ⟨_, rfl, RVL.ofRSL (ofL_ok hl)⟩
  ·simp at h
 ·split at h
  ·rename_i l hl
   simp only [Option.some.injEq] at h
   subst h
   simp only [RV]
   exact ofS_ok hl
  ·simp at h
theorem apEq_ok {p q : AP} (h : apEq p q = true) : p = q := by
 cases p <;> cases q <;> simp [apEq] at h ⊢
 exact ⟨Pn.beq_iff.1 h.1, h.2⟩
theorem acEq_ok {p q : ACap} (h : acEq p q = true) : p = q := by
 cases p <;> cases q <;> simp [acEq] at h ⊢
 ·exact h
 ·exact ⟨Pn.beq_iff.1 h.1, h.2⟩
theorem opEq_ok {p q : Option Pn} (h : opEq p q = true) : p = q := by
 cases p <;> cases q <;> simp [opEq] at h ⊢
 exact Pn.beq_iff.1 h
theorem RP.fn {p : AP} {a b : Option Addr} (h : RP φ p a) (h' : RP φ p b) : a = b := by
 cases p with
 | nil => exact Eq.trans h (Eq.symm h')
 | «at» x o =>
  obtain ⟨r, h1, h2⟩ := h
  obtain ⟨r', h1', h2'⟩ := h'
  rw [h1] at h1'
  cases h1'
  exact h2.trans h2'.symm
 | edge x o => exact h.elim
theorem RC.fn {p : ACap} {a b : Nat} (h : RC φ p a) (h' : RC φ p b) : a = b := by
 cases p with
 | lit c => exact Eq.trans h (Eq.symm h')
 | of x o =>
  obtain ⟨r, h1, h2⟩ := h
  obtain ⟨r', h1', h2'⟩ := h'
  rw [h1] at h1'
  cases h1'
  exact h2.trans h2'.symm
theorem bytes_inj {a b : ByteArray} (h : a.data.toList.map UInt8.toNat = b.data.toList.map UInt8.toNat) : a = b := by
 have : a.data.toList = b.data.toList := by
  generalize a.data.toList = l at h
  generalize b.data.toList = m at h
  induction l generalizing m with
  | nil => cases m with | nil => rfl | cons y t => simp at h
  | cons x s ih =>
   cases m with
   | nil => simp at h
   | cons y t =>
    simp only [List.map_cons, List.cons.injEq] at h
    rw [ih t h.2, UInt8.toNat_inj.1 h.1]
 cases a; cases b
 simp at this
 simp [this]
theorem asEq_ok {x y : AS} (h : asEq x y = true) {v w : Value} (hv : RS φ x v) (hw : RS φ y w) : v = w := by
 cases x <;> cases y <;> simp only [asEq, Bool.false_eq_true, Bool.and_eq_true] at h <;> simp only [RS] at hv hw
 case int.int => rw [hv, hw, ikEq_iff.1 h.1, iEq_iff.1 h.2]
 case bool.bool => rw [hv, hw]; simpa using h
 case str.str =>
  obtain ⟨a, rfl, ha⟩ := hv
  obtain ⟨b, rfl, hb⟩ := hw
  rw [sEq_iff] at h
  rw [bytes_inj (ha.trans (h.trans hb.symm))]
 case ptr.ptr =>
  obtain ⟨a, rfl, ha⟩ := hv
  obtain ⟨b, rfl, hb⟩ := hw
  have := apEq_ok h
  subst this
  rw [ha.fn hb]
 case slice.slice p n c z p' n' c' z' =>
  obtain ⟨⟨⟨h1, h2⟩, h3⟩, h4⟩ := h
  have e2 := Nat.eq_of_beq_eq_true h2
  have e4 := Nat.eq_of_beq_eq_true h4
  have e1 := apEq_ok h1
  have e3 := acEq_ok h3
  subst e1 e2 e3 e4
  obtain ⟨a, k, rfl, hc, _, hs⟩ := hv
  obtain ⟨a', k', rfl, hc', _, hs'⟩ := hw
  have := hc.fn hc'
  subst this
  cases p with
  | nil => rw [hs.1, hs'.1]
  | «at» x o =>
   obtain ⟨r, r1, r2, _⟩ := hs
   obtain ⟨r', r1', r2', _⟩ := hs'
   rw [r1] at r1'
   cases r1'
   rw [r2, r2']
  | edge x o => simp [apEq] at h1
 case map.map p q =>
  have := opEq_ok h
  subst this
  cases p with
  | none => rw [hv, hw]
  | some x =>
   obtain ⟨r, r1, rfl⟩ := hv
   obtain ⟨r', r1', rfl⟩ := hw
   rw [r1] at r1'
   cases r1'
   rfl
 case chan.chan p q =>
  have := opEq_ok h
  subst this
  cases p with
  | none => rw [hv, hw]
  | some x =>
   obtain ⟨r, r1, rfl⟩ := hv
   obtain ⟨r', r1', rfl⟩ := hw
   rw [r1] at r1'
   cases r1'
   rfl
 case nilFunc.nilFunc => rw [hv, hw]
 case nilIface.nilIface => rw [hv, hw]
theorem aslEq_ok : ∀ {x y : List AS}, aslEq x y = true → ∀ {v w : List Value}, RSL φ x v → RSL φ y w → v = w
 | [], [], _, v, w, hv, hw => by simp only [RSL] at hv hw; rw [hv, hw]
 | x :: xs, y :: ys, h, v, w, hv, hw => by
  simp only [aslEq, Bool.and_eq_true] at h
  simp only [RSL] at hv hw
  obtain ⟨a, as, rfl, h2, h3⟩ := hv
  obtain ⟨b, bs, rfl, h2', h3'⟩ := hw
  rw [asEq_ok h.1 h2 h2', aslEq_ok h.2 h3 h3']
 | [], _ :: _, h, _, _, _, _ => by simp [aslEq] at h
 | _ :: _, [], h, _, _, _, _ => by simp [aslEq] at h
theorem avEq_ok {x y : AV} (h : avEq x y = true) {v w : Value} (hv : RV φ x v) (hw : RV φ y w) : v = w := by
 cases x <;> cases y <;> simp only [avEq, Bool.false_eq_true] at h <;> simp only [RV] at hv hw
 ·exact asEq_ok h hv hw
 ·obtain ⟨l, rfl, hl⟩ := hv
  obtain ⟨m, rfl, hm⟩ := hw
  have := aslEq_ok h hl hm
  rw [show l = m by simpa using this]
theorem esEq_ok : ∀ {x y : List (Int × AV)}, esEq x y = true → ∀ {v w : List (Int × Value)}, REL φ x v → REL φ y w → v = w
 | [], [], _, v, w, hv, hw => by simp only [REL] at hv hw; rw [hv, hw]
 | x :: xs, y :: ys, h, v, w, hv, hw => by
  simp only [esEq, Bool.and_eq_true] at h
  simp only [REL] at hv hw
  obtain ⟨a, as, rfl, h2, h3⟩ := hv
  obtain ⟨b, bs, rfl, h2', h3'⟩ := hw
  rw [iEq_iff.1 h.1.1, avEq_ok h.1.2 h2 h2', esEq_ok h.2 h3 h3']
 | [], _ :: _, h, _, _, _, _ => by simp [esEq] at h
 | _ :: _, [], h, _, _, _, _ => by simp [esEq] at h
theorem abEq_ok {r : Rec} {x y : AB} (h : abEq x y = true) {v w : Blk} (hv : RB φ r x v) (hw : RB φ r y w) : v = w := by
 cases x <;> cases y <;> simp only [abEq, Bool.false_eq_true] at h
 ·obtain ⟨l, rfl, hl, _⟩ := hv
  obtain ⟨m, rfl, hm, _⟩ := hw
  rw [aslEq_ok h hl hm]
 ·obtain ⟨l, rfl, hl⟩ := hv
  obtain ⟨m, rfl, hm⟩ := hw
  rw [esEq_ok h hl hm]
 ·obtain ⟨l, rfl, hl, _⟩ := hv
  obtain ⟨m, rfl, hm, _⟩ := hw
  rw [aslEq_ok h hl hm]
 ·obtain ⟨l, rfl, hl⟩ := hv
  obtain ⟨m, rfl, hm⟩ := hw
  rw [esEq_ok h hl hm]
end
end Go.Vw.Ev
