/- The evaluator's heap, and what reads and writes it. -/
import Derived.Test.YtmdidmoffcinjaaGreatVwEvT
namespace Go.Vw.Ev
open Go Go.Vw
structure RH (φ : Phi) (H : AH) (hF h : Hp) : Prop where
 blk : ∀ a b, H.t.get a = some b → ∃ r, φ a = some r ∧ ∃ k, h r.b = some k ∧ RB φ r b k
 inj : ∀ a a' r r', H.t.get a ≠ none → H.t.get a' ≠ none → φ a = some r → φ a' = some r' → r.b = r'.b → a = a' ∨ ∃ c, h r.b = some (.old c)
 fresh : ∀ a : Pn, H.nx.val ≤ a.val → φ a = none
 frame : ∀ b k, hF b = some k → h b = some k
 off : ∀ a r, H.t.get a ≠ none → φ a = some r → hF r.b = none
structure KI (φ : Phi) (S : Kept) (hk : Hp) : Prop where
 here : ∀ x ∈ S, ∃ r k, φ x.1 = some r ∧ hk r.b = some k ∧ RB φ r x.2 k
 only : ∀ b k, hk b = some k → ∃ x ∈ S, ∃ r, φ x.1 = some r ∧ r.b = b
def KIo (φ : Phi) (S : Option Kept) (st : Option Hp) : Prop :=
 match S, st with
 | none, none => True
 | some S, some hk => KI φ S hk
 | _, _ => False
section
variable {φ : Phi} {P : Program} {w0 : World}
theorem KI.mono {φ' : Phi} (hx : PExt φ φ') {S : Kept} {hk : Hp} (h : KI φ S hk) : KI φ' S hk :=
 ⟨fun x hm => by obtain ⟨r, k, h1, h2, h3⟩ := h.here x hm; exact ⟨r, k, hx _ _ h1, h2, h3.mono hx⟩,
  fun b k hb => by obtain ⟨x, hm, r, h1, h2⟩ := h.only b k hb; exact ⟨x, hm, r, hx _ _ h1, h2⟩⟩
theorem RH.nxfree {H : AH} {hF h : Hp} (hh : RH φ H hF h) : H.t.get H.nx = none := by
 cases hg : H.t.get H.nx with
 | none => rfl
 | some b =>
  obtain ⟨r, hr, _⟩ := hh.blk _ _ hg
  rw [hh.fresh _ (Nat.le_refl _)] at hr
  cases hr
theorem RH.sz {H : AH} {hF h : Hp} (hh : RH φ H hF h) : ∀ a cs r, (H.t.get a = some (.row cs) ∨ H.t.get a = some (.fix cs)) → φ a = some r → r.pre.length + cs.length ≤ r.sz := by
 intro a cs r hg hr
 rcases hg with hg | hg <;>
 ·obtain ⟨r', hr', k, _, l, _, hl, hs⟩ := hh.blk _ _ hg
  rw [hr] at hr'
  cases hr'
  rw [← hl.length]
  exact hs
theorem RH.one {H : AH} {hF h : Hp} (hh : RH φ H hF h) {a a' : Pn} {r r' : Rec} (hg : H.t.get a ≠ none) (hg' : H.t.get a' ≠ none) (ha : φ a = some r) (ha' : φ a' = some r') (he : r.b = r'.b) (hn : ∀ c, h r.b ≠ some (.old c)) : a = a' := by
 rcases hh.inj a a' r r' hg hg' ha ha' he with h1 | ⟨c, h1⟩
 ·exact h1
 ·exact absurd h1 (hn c)
theorem kHas_iff {S : Kept} {a : Pn} : kHas S a = true ↔ ∃ x ∈ S, x.1 = a := by
 induction S with
 | nil => simp [kHas]
 | cons x r ih => simp [kHas, ih, Pn.beq_iff]
theorem kSame_ok {S : Kept} {H : AH} {hF h hk : Hp} (hs : kSame S H = true) (hh : RH φ H hF h) (ki : KI φ S hk) :
  ∀ x ∈ S, ∃ r, φ x.1 = some r ∧ h r.b = hk r.b ∧ H.t.get x.1 ≠ none := by
 intro x hx
 have : ∃ b, H.t.get x.1 = some b ∧ abEq x.2 b = true := by
  clear ki
  induction S with
  | nil => cases hx
  | cons y t ih =>
   simp only [kSame, Bool.and_eq_true] at hs
   rcases List.mem_cons.1 hx with rfl | hx
   ·have h1 := hs.1
    split at h1
    ·rename_i b hb
     exact ⟨b, hb, h1⟩
    ·exact absurd h1 (by decide)
   ·exact ih hs.2 hx
 obtain ⟨b, hb, he⟩ := this
 obtain ⟨r, k, h1, h2, h3⟩ := ki.here x hx
 obtain ⟨r', h1', k', h2', h3'⟩ := hh.blk _ _ hb
 rw [h1] at h1'
 cases h1'
 exact ⟨r, h1, by rw [h2, h2', abEq_ok he h3 h3'], by rw [hb]; simp⟩
theorem kSame_ext {S : Kept} {H : AH} {hF h hk : Hp} (hs : kSame S H = true) (hh : RH φ H hF h) (ki : KI φ S hk) : Vw.Ext hk h := by
 intro b k hb
 obtain ⟨x, hx, r, h1, rfl⟩ := ki.only b k hb
 obtain ⟨r', h1', h2, _⟩ := kSame_ok hs hh ki x hx
 rw [h1] at h1'
 cases h1'
 rw [h2, hb]
theorem stK_ex {S : Option Kept} {st : Option Hp} {H : AH} {hF h : Hp} (hh : RH φ H hF h) (ki : KIo φ S st) {a : Pn} {K : Bool} (hs : stK S H a K = true) :
  K = true ∧ ∀ r, φ a = some r → ∀ X : Prop, X → stabK st h r.b X := by
 unfold stK at hs
 split at hs
 ·cases st with
  | none => exact ⟨hs, fun _ _ X hX => hX⟩
  | some hk => exact ki.elim
 ·cases st with
  | none => exact ki.elim
  | some hk =>
   obtain ⟨h1, h2⟩ := okK_ex hs
   simp only [Bool.and_eq_true] at h1
   refine ⟨h2, fun r hr X hX => ?_⟩
   obtain ⟨x, hx, rfl⟩ := kHas_iff.1 h1.1
   obtain ⟨r', h1', h2', _⟩ := kSame_ok h1.2 hh ki x hx
   rw [hr] at h1'
   cases h1'
   exact ⟨h2'.symm, hX⟩
theorem ofK_ex {S : Option Kept} {st : Option Hp} {H : AH} {hF h : Hp} (hh : RH φ H hF h) (ki : KIo φ S st) {a : Pn} {K : Bool} (hs : ofK S H a K = true) :
  K = true ∧ ∀ r, φ a = some r → H.t.get a ≠ none → (∀ c, h r.b ≠ some (.old c)) → ∀ hk, st = some hk → hk r.b = none := by
 unfold ofK at hs
 split at hs
 ·cases st with
  | none => exact ⟨hs, fun _ _ _ _ hk he => by cases he⟩
  | some hk => exact ki.elim
 ·rename_i S
  cases st with
  | none => exact ki.elim
  | some hk =>
   obtain ⟨h1, h2⟩ := okK_ex hs
   simp only [Bool.and_eq_true, Bool.not_eq_true'] at h1
   refine ⟨h2, fun r hr hg hno hk' he => ?_⟩
   cases he
   cases hb : hk r.b with
   | none => rfl
   | some k =>
    obtain ⟨x, hx, r', hr', hrb⟩ := KI.only ki _ _ hb
    obtain ⟨r'', hr'', _, hg'⟩ := kSame_ok h1.2 hh ki x hx
    have := hh.one hg hg' hr hr' hrb.symm hno
    have hc : kHas S a = true := kHas_iff.2 ⟨x, hx, this.symm⟩
    rw [h1.1] at hc
    cases hc
theorem ofKL_ex {S : Option Kept} {st : Option Hp} {H : AH} {hF h : Hp} (hh : RH φ H hF h) (ki : KIo φ S st) {a : Pn} {K : Bool} (hs : ofKL S H a K = true) :
  K = true ∧ ∀ r, φ a = some r → ∀ hk, st = some hk → hk r.b = none := by
 unfold ofKL at hs
 split at hs
 ·cases st with
  | none => exact ⟨hs, fun _ _ hk he => by cases he⟩
  | some hk => exact ki.elim
 ·rename_i S
  obtain ⟨h1, h2⟩ := okK_ex hs
  obtain ⟨cs, hg, h2⟩ := rowW_get h2
  ·skip
   have : ofK (some S) H a true = true := by simp only [ofK, okK, h1]
   obtain ⟨_, h3⟩ := ofK_ex hh ki this
   refine ⟨h2, fun r hr hk he => h3 r hr (by rw [hg]; simp) (fun c hc => ?_) hk he⟩
   obtain ⟨r', hr', k, hk', l, hl, _⟩ := hh.blk _ _ hg
   rw [hr] at hr'
   cases hr'
   rw [hc, hl] at hk'
   cases hk'
theorem rowK_ex {H : AH} {hF h : Hp} (hh : RH φ H hF h) {a : Pn} {r : Rec} (hr : φ a = some r) {K : List AS → Bool} (hk : rowK H a K = true) :
  ∃ cs l, K cs = true ∧ (∃ s, h.row? r.b = some (r.pre ++ (l ++ s))) ∧ RSL φ cs l := by
 obtain ⟨cs, hg, hk⟩ := rowK_get hk
 rcases hg with hg | hg
 ·obtain ⟨r', hr', k, hk', l, hl, hcs, hs⟩ := hh.blk _ _ hg
  rw [hr] at hr'
  cases hr'
  subst hl
  exact ⟨cs, l, hk, ⟨[], by simp [Hp.row?, hk']⟩, hcs⟩
 ·obtain ⟨r', hr', k, hk', l, hl, hcs, hs⟩ := hh.blk _ _ hg
  rw [hr] at hr'
  cases hr'
  subst hl
  exact ⟨cs, l, hk, ⟨r.suf, by simp only [Hp.row?, hk']⟩, hcs⟩
theorem rowW_ex {H : AH} {hF h : Hp} (hh : RH φ H hF h) {a : Pn} {r : Rec} (hr : φ a = some r) {K : List AS → Bool} (hk : rowW H a K = true) :
  ∃ cs l, K cs = true ∧ H.t.get a = some (.row cs) ∧ h r.b = some (.row r.e (r.pre ++ l) r.sz) ∧ RSL φ cs l ∧ r.pre.length + l.length ≤ r.sz := by
 obtain ⟨cs, hg, hk⟩ := rowW_get hk
 ·obtain ⟨r', hr', k, hk', l, hl, hcs, hs⟩ := hh.blk _ _ hg
  rw [hr] at hr'
  cases hr'
  subst hl
  exact ⟨cs, l, hk, hg, hk', hcs, hs⟩
theorem mapK_ex {H : AH} {hF h : Hp} (hh : RH φ H hF h) {a : Pn} {r : Rec} (hr : φ a = some r) {K : List (Int × AV) → Bool} (hk : mapK H a K = true) :
  ∃ es l, K es = true ∧ H.t.get a = some (.imap es) ∧ h r.b = some (.imap l) ∧ REL φ es l := by
 unfold mapK at hk
 split at hk
 ·rename_i cs hg
  obtain ⟨r', hr', k, hk', l, hl, hcs⟩ := hh.blk _ _ hg
  rw [hr] at hr'
  cases hr'
  subst hl
  exact ⟨cs, l, hk, hg, hk', hcs⟩
 ·exact absurd hk (by decide)
theorem mapP_ex {H : AH} {hF h : Hp} (hh : RH φ H hF h) {a : Pn} {r : Rec} (hr : φ a = some r) {K : List (Int × AV) → Bool} (hk : mapP H a K = true) :
  ∃ es l, K es = true ∧ H.t.get a = some (.pmap es) ∧ h r.b = some (.pmap l) ∧ REL φ es l := by
 unfold mapP at hk
 split at hk
 ·rename_i cs hg
  obtain ⟨r', hr', k, hk', l, hl, hcs⟩ := hh.blk _ _ hg
  rw [hr] at hr'
  cases hr'
  subst hl
  exact ⟨cs, l, hk, hg, hk', hcs⟩
 ·exact absurd hk (by decide)
theorem chanK_ex {H : AH} {hF h : Hp} (hh : RH φ H hF h) {a : Pn} {r : Rec} (hr : φ a = some r) {K : Nat → List (List AS) → Bool} (hk : chanK H a K = true) :
  ∃ cap xs l s c, K cap xs = true ∧ H.t.get a = some (.chan cap xs) ∧ h r.b = some (.obj (.chan cap l.toArray false s c false)) ∧ RGL φ xs l := by
 unfold chanK at hk
 split at hk
 ·rename_i cap xs hg
  obtain ⟨r', hr', k, hk', l, s, c, hl, hcs⟩ := hh.blk _ _ hg
  rw [hr] at hr'
  cases hr'
  subst hl
  exact ⟨cap, xs, l, s, c, hk, hg, hk', hcs⟩
 ·exact absurd hk (by decide)
theorem RGL.length : ∀ {xs : List (List AS)} {l : List Value}, RGL φ xs l → l.length = xs.length
 | [], l, h => by simp only [RGL] at h; subst h; rfl
 | x :: xs, l, h => by
  simp only [RGL] at h
  obtain ⟨v, vs, rfl, _, h3⟩ := h
  simp [RGL.length h3]
theorem RGL.snoc {x : List AS} {v : Array Value} (hx : RSL φ x v.toList) : ∀ {xs : List (List AS)} {l : List Value}, RGL φ xs l → RGL φ (xs ++ [x]) (l ++ [.agg v])
 | [], l, h => by simp only [RGL] at h; subst h; simp only [List.nil_append, RGL]; exact ⟨v, [], rfl, hx, rfl⟩
 | y :: xs, l, h => by
  simp only [RGL] at h
  obtain ⟨u, vs, rfl, h2, h3⟩ := h
  simp only [List.cons_append, RGL]
  exact ⟨u, _, rfl, h2, RGL.snoc hx h3⟩
theorem tyA_ex {d : Option TypeDesc} {v : AV} {V : Value} (hv : RV φ v V) {K : AV → Bool} (h : tyA d v K = true) :
  ∃ v', K v' = true ∧ RV φ v' V ∧ ∀ (p K' : Value → Prop), p V → K' V → anyOf d p K' := by
 unfold tyA at h
 split at h
 ·obtain ⟨n, hn, h'⟩ := arI_ex h
  subst hn
  have hv' := hv
  simp only [RV, RS] at hv
  subst hv
  exact ⟨_, h', hv', fun p K' hp hK => ⟨n, hp, hK⟩⟩
 ·obtain ⟨b, hn, h'⟩ := arB_ex h
  subst hn
  have hv' := hv
  simp only [RV, RS] at hv
  subst hv
  exact ⟨_, h', hv', fun p K' hp hK => ⟨b, hp, hK⟩⟩
 ·obtain ⟨s, b, h, rfl, hs⟩ := asStr_ex h hv
  exact ⟨_, h, by simp only [RV, RS]; exact ⟨b, rfl, hs⟩, fun p K' hp hK => ⟨b, hp, hK⟩⟩
 ·obtain ⟨s, b, h, rfl, hs⟩ := asP_ex h hv
  exact ⟨_, h, by simp only [RV, RS]; exact ⟨b, rfl, hs⟩, fun p K' hp hK => ⟨b, hp, hK⟩⟩
 ·obtain ⟨p, n, c, z, hn, h'⟩ := arSl_ex h
  subst hn
  have hv' := hv
  simp only [RV, RS] at hv
  obtain ⟨a, c', rfl, _⟩ := hv
  exact ⟨_, h', hv', fun p K' hp hK => ⟨_, _, _, hp, hK⟩⟩
 ·obtain ⟨q, hn, h'⟩ := arM_ex h
  subst hn
  have hv' := hv
  simp only [RV, RS] at hv
  have : ∃ m, V = .map m := by
   cases q with
   | none => exact ⟨_, hv⟩
   | some x => obtain ⟨r, _, h2⟩ := hv; exact ⟨_, h2⟩
  obtain ⟨m, rfl⟩ := this
  exact ⟨_, h', hv', fun p K' hp hK => ⟨_, hp, hK⟩⟩
 ·obtain ⟨q, hn, h'⟩ := arC_ex h
  subst hn
  have hv' := hv
  simp only [RV, RS] at hv
  have : ∃ m, V = .chan m := by
   cases q with
   | none => exact ⟨_, hv⟩
   | some x => obtain ⟨r, _, h2⟩ := hv; exact ⟨_, h2⟩
  obtain ⟨m, rfl⟩ := this
  exact ⟨_, h', hv', fun p K' hp hK => ⟨_, hp, hK⟩⟩
 ·obtain ⟨cs, l, h, rfl, hs⟩ := asG_ex h hv
  exact ⟨_, h, by simp only [RV]; exact ⟨_, rfl, hs⟩, fun p K' hp hK => ⟨l.toList, by simpa using hp, by simpa using hK⟩⟩
 ·obtain ⟨cs, l, h, rfl, hs⟩ := asG_ex h hv
  exact ⟨_, h, by simp only [RV]; exact ⟨_, rfl, hs⟩, fun p K' hp hK => ⟨l.toList, by simpa using hp, by simpa using hK⟩⟩
 ·rename_i hd1 hd2 hd3 hd4 hd5 hd6 hd7 hd8 hd9
  refine ⟨v, h, hv, fun p K' hp hK => ?_⟩
  cases d with
  | none => exact ⟨V, hp, hK⟩
  | some d =>
   cases d <;> first
    | exact ⟨V, hp, hK⟩
    | exact (hd1 _ rfl).elim
    | exact (hd2 rfl).elim
    | exact (hd3 rfl).elim
    | exact (hd4 _ rfl).elim
    | exact (hd5 _ rfl).elim
    | exact (hd6 _ _ rfl).elim
    | exact (hd7 _ _ rfl).elim
    | exact (hd8 _ rfl).elim
    | exact (hd9 _ _ rfl).elim
theorem arr2 {l : Array Value} {x y : Value} (h : l.toList = [x, y]) : l = #[x, y] := Array.ext' h
theorem arr3 {l : Array Value} {x y z : Value} (h : l.toList = [x, y, z]) : l = #[x, y, z] := Array.ext' h
theorem shA_ex {ts : List TypeId} {v : AV} {V : Value} (hv : RV φ v V) {K : AV → Bool} (h : shA P ts v K = true) :
  ∃ v', K v' = true ∧ RV φ v' V ∧ ∀ K' : Value → Prop, K' V → shaped P ts V K' := by
 unfold shA at h
 split at h
 ·unfold tup0 at h
  split at h
  ·have hv' := hv
   simp only [RV, RVL] at hv
   obtain ⟨l, rfl, hl⟩ := hv
   have : l = #[] := Array.ext' hl
   subst this
   exact ⟨_, h, hv', fun K' hK => ⟨rfl, hK⟩⟩
  ·exact absurd h (by decide)
 ·obtain ⟨v', h, hv', hK⟩ := tyA_ex hv h
  exact ⟨v', h, hv', fun K' hk => hK _ _ rfl hk⟩
 ·unfold tup2 at h
  split at h
  ·simp only [RV, RVL] at hv
   obtain ⟨l, rfl, X, L, hL, hX, Y, L', rfl, hY, rfl⟩ := hv
   have := arr2 hL
   subst this
   obtain ⟨x', h, hx', hKx⟩ := tyA_ex hX h
   obtain ⟨y', h, hy', hKy⟩ := tyA_ex hY h
   refine ⟨_, h, ?_, fun K' hk => ?_⟩
   ·simp only [RV, RVL]
    exact ⟨_, rfl, X, _, rfl, hx', Y, _, rfl, hy', rfl⟩
   ·refine hKx (fun _ => True) (fun v => anyOf _ (fun x => Value.tuple #[X, Y] = .tuple #[v, x]) fun x => K' (.tuple #[v, x])) trivial ?_
    exact hKy (fun x => Value.tuple #[X, Y] = .tuple #[X, x]) (fun x => K' (.tuple #[X, x])) rfl hk
  ·exact absurd h (by decide)
 ·unfold tup3 at h
  split at h
  ·simp only [RV, RVL] at hv
   obtain ⟨l, rfl, X, L, hL, hX, Y, L', rfl, hY, Z, L'', rfl, hZ, rfl⟩ := hv
   have := arr3 hL
   subst this
   obtain ⟨x', h, hx', hKx⟩ := tyA_ex hX h
   obtain ⟨y', h, hy', hKy⟩ := tyA_ex hY h
   obtain ⟨z', h, hz', hKz⟩ := tyA_ex hZ h
   refine ⟨_, h, ?_, fun K' hk => ?_⟩
   ·simp only [RV, RVL]
    exact ⟨_, rfl, X, _, rfl, hx', Y, _, rfl, hy', Z, _, rfl, hz', rfl⟩
   ·refine hKx (fun _ => True) (fun v => anyOf _ (fun _ => True) fun x => anyOf _ (fun y => Value.tuple #[X, Y, Z] = .tuple #[v, x, y]) fun y => K' (.tuple #[v, x, y])) trivial ?_
    refine hKy (fun _ => True) (fun x => anyOf _ (fun y => Value.tuple #[X, Y, Z] = .tuple #[X, x, y]) fun y => K' (.tuple #[X, x, y])) trivial ?_
    exact hKz (fun y => Value.tuple #[X, Y, Z] = .tuple #[X, Y, y]) (fun y => K' (.tuple #[X, Y, y])) rfl hk
  ·exact absurd h (by decide)
 ·exact absurd h (by decide)
theorem lkA_some {k : Int} : ∀ {es : List (Int × AV)} {l : List (Int × Value)} {v : AV}, REL φ es l → lkA es k = some v → ∃ V, lkup l k = some V ∧ RV φ v V
 | [], _, _, _, h => by simp [lkA] at h
 | x :: r, l, v, hr, h => by
  simp only [REL] at hr
  obtain ⟨V, vs, rfl, h2, h3⟩ := hr
  have h : Bool.casesOn (iEq x.1 k) (lkA r k) (some x.2) = some v := h
  rw [iEq_beq] at h
  simp only [lkup, List.find?_cons]
  cases hb : x.1 == k
  ·rw [hb] at h
   exact lkA_some h3 h
  ·rw [hb] at h
   have h : some x.2 = some v := h
   cases h
   exact ⟨V, rfl, h2⟩
theorem lkA_none {k : Int} : ∀ {es : List (Int × AV)} {l : List (Int × Value)}, REL φ es l → lkA es k = none → lkup l k = none
 | [], _, hr, _ => by simp only [REL] at hr; subst hr; rfl
 | x :: r, l, hr, h => by
  simp only [REL] at hr
  obtain ⟨V, vs, rfl, h2, h3⟩ := hr
  have h : Bool.casesOn (iEq x.1 k) (lkA r k) (some x.2) = none := h
  rw [iEq_beq] at h
  simp only [lkup, List.find?_cons]
  cases hb : x.1 == k
  ·rw [hb] at h
   exact lkA_none h3 h
  ·rw [hb] at h
   have h : some x.2 = none := h
   cases h
theorem lkZ_ex {k : Int} {es : List (Int × AV)} {l : List (Int × Value)} {z : AV} {z0 : Value} (hl : REL φ es l) (hz : RV φ z z0) {K : AV → Bool → Bool} (h : lkZ es k z K = true) :
  ∃ w W th, K w th = true ∧ RV φ w W ∧ W = (lkup l k).getD z0 ∧ th = (lkup l k).isSome := by
 rw [lkZ_eq0] at h
 unfold lkZ0 at h
 split at h
 ·rename_i v' hv'
  obtain ⟨V', hV', hrv⟩ := lkA_some hl hv'
  exact ⟨_, V', true, h, hrv, by rw [hV']; rfl, by rw [hV']; rfl⟩
 ·rename_i hv'
  have hV' := lkA_none hl hv'
  exact ⟨_, z0, false, h, hz, by rw [hV']; rfl, by rw [hV']; rfl⟩
theorem REL.length : ∀ {es : List (Int × AV)} {l : List (Int × Value)}, REL φ es l → l.length = es.length
 | [], _, hr => by simp only [REL] at hr; subst hr; rfl
 | x :: r, l, hr => by
  simp only [REL] at hr
  obtain ⟨V, vs, rfl, h2, h3⟩ := hr
  simp [REL.length h3]
theorem setA_ok {k : Int} {v : AV} {V : Value} (hv : RV φ v V) : ∀ {es : List (Int × AV)} {l : List (Int × Value)}, REL φ es l → REL φ (setA es k v) (imapSet l k V)
 | [], _, hr => by
  simp only [REL] at hr
  subst hr
  show REL φ [(k, v)] [(k, V)]
  simp only [REL]
  exact ⟨V, [], rfl, hv, rfl⟩
 | x :: r, l, hr => by
  simp only [REL] at hr
  obtain ⟨W, vs, rfl, h2, h3⟩ := hr
  show REL φ (Bool.casesOn (iEq x.1 k) (x :: setA r k v) ((k, v) :: r)) _
  rw [iEq_beq]
  simp only [imapSet]
  cases hb : x.1 == k
  ·have : ¬ x.1 = k := by simpa using hb
   rw [if_neg this]
   show REL φ (x :: setA r k v) _
   simp only [REL]
   exact ⟨W, _, rfl, h2, setA_ok hv h3⟩
  ·have : x.1 = k := by simpa using hb
   rw [if_pos this]
   show REL φ ((k, v) :: r) _
   simp only [REL]
   exact ⟨V, _, rfl, hv, h3⟩
theorem delA_ok {k : Int} : ∀ {es : List (Int × AV)} {l : List (Int × Value)}, REL φ es l → REL φ (delA es k) (l.filter (fun x => !(x.1 == k)))
 | [], _, hr => by
  simp only [REL] at hr
  subst hr
  exact rfl
 | x :: r, l, hr => by
  simp only [REL] at hr
  obtain ⟨W, vs, rfl, h2, h3⟩ := hr
  show REL φ (Bool.casesOn (iEq x.1 k) (x :: delA r k) (delA r k)) _
  rw [iEq_beq]
  cases hb : x.1 == k
  ·show REL φ (x :: delA r k) _
   rw [List.filter_cons_of_pos (by simp [hb])]
   simp only [REL]
   exact ⟨W, _, rfl, h2, delA_ok h3⟩
  ·show REL φ (delA r k) _
   rw [List.filter_cons_of_neg (by simp [hb])]
   exact delA_ok h3
theorem rEv_ex {S : Option Kept} {st : Option Hp} {H : AH} {hF h : Hp} (hh : RH φ H hF h) (ki : KIo φ S st) {ρA : AEnv} {ρ : Env} (hr : EnvR φ ρA ρ) {op : Op} {K : AV → Bool} (he : rEv P S ρA op H K = true) :
  ∃ v V, K v = true ∧ RV φ v V ∧ ∀ K' : Value → Prop, K' V → rOp P st ρ op h K' := by
 unfold rEv at he
 split at he
 ·split at he
  ·rename_i i d h1 h2
   obtain ⟨v, he, hv⟩ := evA_ex hr he
   obtain ⟨p, a, he, ha, hp⟩ := asP_ex he hv
   obtain ⟨x, o, r, rfl, he, hx, rfl⟩ := nilK_ex he hp
   obtain ⟨he, hst⟩ := stK_ex hh ki he
   obtain ⟨cs, l, he, hb, hl⟩ := rowK_ex hh hx he
   obtain ⟨u, U, he, hu, d', hd', hK⟩ := ldA_ex he hl
   refine ⟨u, U, he, hu, fun K' hK' => ?_⟩
   simp only [rOp, h1, h2, ha, nilCk]
   exact hst r hx _ (hK h r.b r.pre hb K' hK')
  ·exact absurd he (by decide)
 ·rename_i t0 mo ko okf
  split at he
  ·rename_i kt et h1
   split at he
   ·rename_i h2 h3
    obtain ⟨v, he, hv⟩ := evA_ex hr he
    obtain ⟨u, he, hu⟩ := evA_ex hr he
    obtain ⟨kk, key, he, hkey⟩ := asI_ex he hu
    obtain ⟨hkk, he⟩ := okK_ex he
    have := ikEq_iff.1 hkk
    subst this
    obtain ⟨a, r, he, har, hm⟩ := asMp_ex he hv
    obtain ⟨he, hst⟩ := stK_ex hh ki he
    obtain ⟨es, l, he, hg, hb, hl⟩ := mapK_ex hh har he
    unfold zA at h3
    split at h3
    ·rename_i z0 hz0
     have hzz : RV φ _ z0 := ofV_ok h3
     obtain ⟨w, W, th, he, hw, hW, hth⟩ := lkZ_ex hl hzz he
     obtain ⟨u', he, hu', hK⟩ := tyA_ex hw he
     split at he
     ·refine ⟨u', W, he, hu', fun K' hK' => ?_⟩
      simp only [rOp, h1, h2, hz0, hm, hkey]
      exact ⟨r.b, l, rfl, hb, hst r har _ (hK _ _ hW hK')⟩
     ·refine ⟨_, .tuple #[W, .bool th], he, ?_, fun K' hK' => ?_⟩
      ·simp only [RV, RVL, RS]
       exact ⟨_, rfl, W, _, rfl, hu', _, _, rfl, rfl, rfl⟩
      ·simp only [rOp, h1, h2, hz0, hm, hkey]
       exact ⟨r.b, l, rfl, hb, hst r har _ (hK _ _ hW (by rw [← hth]; exact hK'))⟩
    ·simp at h3
   ·rename_i h2 h3
    split at he
    ·rename_i hpt
     obtain ⟨v, he, hv⟩ := evA_ex hr he
     obtain ⟨u, he, hu⟩ := evA_ex hr he
     obtain ⟨key, cs, he, hkey, hcs⟩ := asQ_ex he hu
     obtain ⟨a, r, he, har, hm⟩ := asMp_ex he hv
     obtain ⟨he, hst⟩ := stK_ex hh ki he
     obtain ⟨es, l, he, hg, hb, hl⟩ := mapP_ex hh har he
     unfold zA at h3
     split at h3
     ·rename_i z0 hz0
      have hzz : RV φ _ z0 := ofV_ok h3
      obtain ⟨w, W, th, he, hw, hW, hth⟩ := lkZ_ex hl hzz he
      obtain ⟨u', he, hu', hK⟩ := tyA_ex hw he
      split at he
      ·refine ⟨u', W, he, hu', fun K' hK' => ?_⟩
       simp only [rOp, h1, h2, hz0, hm, hkey]
       exact ⟨hpt, r.b, l, key, rfl, hb, hcs, hst r har _ (hK _ _ hW hK')⟩
      ·refine ⟨_, .tuple #[W, .bool th], he, ?_, fun K' hK' => ?_⟩
       ·simp only [RV, RVL, RS]
        exact ⟨_, rfl, W, _, rfl, hu', _, _, rfl, rfl, rfl⟩
       ·simp only [rOp, h1, h2, hz0, hm, hkey]
        exact ⟨hpt, r.b, l, key, rfl, hb, hcs, hst r har _ (hK _ _ hW (by rw [← hth]; exact hK'))⟩
     ·simp at h3
    ·exact absurd he (by decide)
   ·exact absurd he (by decide)
  ·exact absurd he (by decide)
 ·split at he
  ·rename_i hcal
   split at he
   ·rename_i t x h1 h2
    split at he
    ·rename_i h3
     obtain ⟨v, he, hv⟩ := evA_ex hr he
     obtain ⟨a, r, he, har, hm⟩ := asMp_ex he hv
     obtain ⟨he, hst⟩ := stK_ex hh ki he
     obtain ⟨es, l, he, hg, hb, hl⟩ := mapK_ex hh har he
     rw [fN_eq, ln_eq] at he
     refine ⟨_, _, he, RV_int _ _, fun K' hK' => ?_⟩
     simp only [rOp, hcal, h1, h2, List.map_cons, List.map_nil, hm, h3]
     exact ⟨r.b, l, rfl, hb, hst r har _ (by rw [hl.length]; exact hK')⟩
    ·exact absurd he (by decide)
   ·exact absurd he (by decide)
  ·exact absurd he (by decide)
 ·exact absurd he (by decide)
end
end Go.Vw.Ev
