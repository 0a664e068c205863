import Derived.Test.YtmdidmoffcinjaaGreatVwSort
import Derived.Test.YtmdidmoffcinjaaGreatVwDed
import Derived.Test.YtmdidmoffcinjaaGreatBQ
import Derived.Test.YtmdidmoffcinjaaGreatBref3
section
namespace Go.Vw.Ev
open Go Go.Vw
set_option linter.unusedSimpArgs false
noncomputable def rowR (b : Option AB) (K : List AS → Bool) : Bool := match b with | some (.row cs) => K cs | some (.fix cs) => K cs | _ => false
theorem rowK_R (H : AH) (a : Pn) (K : List AS → Bool) : rowK H a K = rowR (H.get a) K := by
 unfold rowK rowR AH.get
 cases H.t.get a with
 | none => rfl
 | some b => cases b <;> rfl
theorem rowR_row (cs : List AS) (K : List AS → Bool) : rowR (some (.row cs)) K = K cs := rfl
theorem rowR_w {b : Option AB} {cs : List AS} {K : List AS → Bool} (h : b = some (.row cs)) (hk : K cs = true) : rowR b K = true := by rw [h]; exact hk
noncomputable def ldIR (x : Option AS) (k : IntKind) (K : Int → Bool) : Bool := match x with | some (.int k' n) => okK (ikEq k k') (K n) | _ => false
theorem ldI_R (cs : List AS) (o : Nat) (k : IntKind) (K : Int → Bool) : ldI cs o k K = ldIR cs[o]? k K := by
 unfold ldI ldIR; rw [nth_eq]
 cases cs[o]? with
 | none => rfl
 | some x => cases x <;> rfl
theorem ldIR_int (k : IntKind) (n : Int) (K : Int → Bool) : ldIR (some (.int k n)) k K = K n := by
 unfold ldIR; show okK (ikEq k k) (K n) = _; rw [ikEq_self]; rfl
theorem get_new1 (H : AH) (b c : AB) : ((H.new b).new c).get H.nx = some b := by rw [get_new_has (has_new_self H b), get_new]
theorem ifA_and (K : AV → AH → Bool) (H : AH) (a b : Bool) : ifA a (K (.s (.bool b)) H) (K (.s (.bool false)) H) = K (.s (.bool (a && b))) H := by cases a <;> rfl
theorem ifA_or (K : AV → AH → Bool) (H : AH) (a b : Bool) : ifA a (K (.s (.bool true)) H) (K (.s (.bool b)) H) = K (.s (.bool (a || b))) H := by cases a <;> rfl
theorem loopX_succ {X : Type} (n : Nat) (F : (X → AH → Bool) → X → AH → Bool) (x : X) (H : AH) : loopX (n + 1) F x H = F (loopX n F) x H := rfl
theorem ldG_all {cs : List AS} {m : Nat} (h : cs.length = m) (hm : 0 < m) (K : List AS → Bool) : ldG cs 0 m K = K cs := by
 rw [ldG_ (by omega) hm, List.drop_zero, List.take_of_length_le (by omega)]
structure Fr (F : Pn → Prop) (H H' : AH) : Prop where
 has : ∀ a, H.has a → H'.has a
 get : ∀ a, H.has a → ¬ F a → H'.get a = H.get a
theorem Le.fr {H H' : AH} (h : Le H H') (F : Pn → Prop) : Fr F H H' := ⟨h.has, fun a ha _ => h.get a ha⟩
theorem Fr.refl (F : Pn → Prop) (H : AH) : Fr F H H := ⟨fun _ h => h, fun _ _ _ => rfl⟩
theorem Fr.mono {F G : Pn → Prop} {H H' : AH} (h : Fr F H H') (k : ∀ a, F a → G a) : Fr G H H' := ⟨h.has, fun a ha hn => h.get a ha fun hf => hn (k a hf)⟩
theorem Fr.trans {F G : Pn → Prop} {A B C : AH} (h : Fr F A B) (k : Fr G B C) (hg : ∀ a, G a → F a ∨ ¬ A.has a) : Fr F A C :=
 ⟨fun a ha => k.has a (h.has a ha), fun a ha hn => (k.get a (h.has a ha) fun hx => (hg a hx).elim hn fun hh => hh ha).trans (h.get a ha hn)⟩
theorem Fr.put {F : Pn → Prop} {H H' : AH} (h : Fr F H H') {a : Pn} (ha : F a ∨ ¬ H.has a) (b : AB) : Fr F H (H'.put a b) :=
 ⟨fun x hx => h.has x hx, fun x hx hn => (get_put_ne (fun e => by subst e; exact ha.elim hn fun hh => hh hx)).trans (h.get x hx hn)⟩
theorem Fr.new {F : Pn → Prop} {H H' : AH} (h : Fr F H H') (b : AB) : Fr F H (H'.new b) :=
 ⟨fun x hx => has_new (h.has x hx), fun x hx hn => (get_new_has (h.has x hx)).trans (h.get x hx hn)⟩
theorem Fr.nx {F : Pn → Prop} {H H' : AH} (h : Fr F H H') : ¬ H.has H'.nx := fun hx => not_has_nx H' (h.has _ hx)
end Go.Vw.Ev
end
section
namespace Go.Vw.Ev
open Go Go.Vw
set_option linter.unusedVariables false
section
variable {β : Type}
def aGet : List (Int × β) → Int → Option β
 | [], _ => none
 | x :: r, k => if x.1 = k then some x.2 else aGet r k
def aSet : List (Int × β) → Int → β → List (Int × β)
 | [], k, v => [(k, v)]
 | x :: r, k, v => if x.1 = k then (k, v) :: r else x :: aSet r k v
def aDel : List (Int × β) → Int → List (Int × β)
 | [], _ => []
 | x :: r, k => if x.1 = k then aDel r k else x :: aDel r k
def aKeys (l : List (Int × β)) : List Int := l.map (·.1)
def aImg (f : β → AV) (l : List (Int × β)) : List (Int × AV) := l.map fun x => (x.1, f x.2)
theorem aImg_length (f : β → AV) (l : List (Int × β)) : (aImg f l).length = l.length := by simp [aImg]
theorem lkA_img (f : β → AV) : ∀ (l : List (Int × β)) (k : Int), lkA (aImg f l) k = (aGet l k).map f
 | [], k => rfl
 | x :: r, k => by
  show Bool.rec (motive := fun _ => Option AV) (lkA (aImg f r) k) (some (f x.2)) (iEq x.1 k) = _
  rw [iEq_beq, lkA_img f r k]
  show _ = Option.map f (if x.1 = k then some x.2 else aGet r k)
  by_cases h : x.1 = k
  ·rw [if_pos h, show (x.1 == k) = true by simpa using h]; rfl
  ·rw [if_neg h, show (x.1 == k) = false by simpa using h]
theorem setA_img (f : β → AV) : ∀ (l : List (Int × β)) (k : Int) (v : β), setA (aImg f l) k (f v) = aImg f (aSet l k v)
 | [], k, v => rfl
 | x :: r, k, v => by
  show Bool.rec (motive := fun _ => List (Int × AV)) ((x.1, f x.2) :: setA (aImg f r) k (f v)) ((k, f v) :: aImg f r) (iEq x.1 k) = _
  rw [iEq_beq, setA_img f r k v]
  show _ = aImg f (if x.1 = k then (k, v) :: r else x :: aSet r k v)
  by_cases h : x.1 = k
  ·rw [if_pos h, show (x.1 == k) = true by simpa using h]; rfl
  ·rw [if_neg h, show (x.1 == k) = false by simpa using h]; rfl
theorem delA_img (f : β → AV) : ∀ (l : List (Int × β)) (k : Int), delA (aImg f l) k = aImg f (aDel l k)
 | [], k => rfl
 | x :: r, k => by
  show Bool.rec (motive := fun _ => List (Int × AV)) ((x.1, f x.2) :: delA (aImg f r) k) (delA (aImg f r) k) (iEq x.1 k) = _
  rw [iEq_beq, delA_img f r k]
  show _ = aImg f (if x.1 = k then aDel r k else x :: aDel r k)
  by_cases h : x.1 = k
  ·rw [if_pos h, show (x.1 == k) = true by simpa using h]
  ·rw [if_neg h, show (x.1 == k) = false by simpa using h]; rfl
theorem keysOf_img (f : β → AV) : ∀ l : List (Int × β), keysOf (aImg f l) = aKeys l
 | [] => rfl
 | x :: r => by
  show x.1 :: keysOf (aImg f r) = _
  rw [keysOf_img f r]; rfl
theorem aGet_none : ∀ {l : List (Int × β)} {k : Int}, aGet l k = none ↔ k ∉ aKeys l
 | [], k => by simp [aGet, aKeys]
 | x :: r, k => by
  have := aGet_none (l := r) (k := k)
  unfold aGet
  by_cases h : x.1 = k
  ·simp [h, aKeys]
  ·simp only [h, if_false, this, aKeys, List.map_cons, List.mem_cons, not_or]
   exact ⟨fun h2 => ⟨fun e => h e.symm, h2⟩, fun h2 => h2.2⟩
theorem aGet_some_mem {l : List (Int × β)} {k : Int} {v : β} (h : aGet l k = some v) : k ∈ aKeys l := by
 by_cases hk : k ∈ aKeys l
 ·exact hk
 ·rw [aGet_none.2 hk] at h; cases h
theorem aGet_set_same : ∀ (l : List (Int × β)) (k : Int) (v : β), aGet (aSet l k v) k = some v
 | [], k, v => by simp [aSet, aGet]
 | x :: r, k, v => by
  unfold aSet
  by_cases h : x.1 = k
  ·simp [h, aGet]
  ·simp only [h, if_false, aGet]; exact aGet_set_same r k v
theorem aGet_set_ne : ∀ (l : List (Int × β)) {k j : Int} (v : β), j ≠ k → aGet (aSet l k v) j = aGet l j
 | [], k, j, v, h => by simp [aSet, aGet, Ne.symm h]
 | x :: r, k, j, v, h => by
  unfold aSet
  by_cases hx : x.1 = k
  ·simp only [hx, if_true, aGet]
   rw [if_neg (Ne.symm h), if_neg (by omega)]
  ·simp only [hx, if_false, aGet, aGet_set_ne r v h]
theorem aGet_del_same : ∀ (l : List (Int × β)) (k : Int), aGet (aDel l k) k = none
 | [], k => rfl
 | x :: r, k => by
  unfold aDel
  by_cases h : x.1 = k
  ·simp only [h, if_true]; exact aGet_del_same r k
  ·simp only [h, if_false, aGet]; exact aGet_del_same r k
theorem aGet_del_ne : ∀ (l : List (Int × β)) {k j : Int}, j ≠ k → aGet (aDel l k) j = aGet l j
 | [], k, j, h => rfl
 | x :: r, k, j, h => by
  unfold aDel
  by_cases hx : x.1 = k
  ·simp only [hx, if_true, aGet]
   rw [if_neg (by omega), aGet_del_ne r h]
  ·simp only [hx, if_false, aGet, aGet_del_ne r h]
theorem aKeys_set_new : ∀ (l : List (Int × β)) {k : Int} (v : β), k ∉ aKeys l → aKeys (aSet l k v) = aKeys l ++ [k]
 | [], k, v, _ => rfl
 | x :: r, k, v, h => by
  have h1 : x.1 ≠ k := fun e => h (by rw [← e]; simp [aKeys])
  have h2 : k ∉ aKeys r := fun e => h (by simp only [aKeys, List.map_cons, List.mem_cons]; exact .inr e)
  unfold aSet
  rw [if_neg h1]
  show x.1 :: aKeys (aSet r k v) = _
  rw [aKeys_set_new r v h2]; rfl
theorem aKeys_set_old : ∀ (l : List (Int × β)) {k : Int} (v : β), k ∈ aKeys l → aKeys (aSet l k v) = aKeys l
 | [], k, v, h => by simp [aKeys] at h
 | x :: r, k, v, h => by
  unfold aSet
  by_cases h1 : x.1 = k
  ·rw [if_pos h1]; show k :: aKeys r = x.1 :: aKeys r; rw [h1]
  ·rw [if_neg h1]
   show x.1 :: aKeys (aSet r k v) = x.1 :: aKeys r
   rw [aKeys_set_old r v ?_]
   rcases List.mem_cons.1 (show k ∈ x.1 :: aKeys r from h) with e | e
   ·exact absurd e.symm h1
   ·exact e
theorem aKeys_del : ∀ (l : List (Int × β)) (k : Int), aKeys (aDel l k) = (aKeys l).filter (fun j => decide (j ≠ k))
 | [], k => rfl
 | x :: r, k => by
  unfold aDel
  show _ = (x.1 :: aKeys r).filter _
  by_cases h : x.1 = k
  ·rw [if_pos h, aKeys_del r k, List.filter_cons_of_neg (by simp [h])]
  ·rw [if_neg h, List.filter_cons_of_pos (by simp [h])]
   show x.1 :: aKeys (aDel r k) = _
   rw [aKeys_del r k]
end
theorem mapK_w {H : AH} {a : Pn} {es : List (Int × AV)} {K : List (Int × AV) → Bool} (h : H.get a = some (.imap es)) (hk : K es = true) : mapK H a K = true := by
 unfold mapK; rw [show H.t.get a = some (.imap es) from h]; exact hk
theorem asMp_w {g : Pn} {K : Pn → Bool} (hk : K g = true) : asMp (.s (.map (some g))) K = true := hk
theorem lkZ_w {β : Type} {f : β → AV} {l : List (Int × β)} {k : Int} {z : AV} {K : AV → Bool → Bool} (h1 : ∀ v, aGet l k = some v → K (f v) true = true) (h2 : aGet l k = none → K z false = true) : lkZ (aImg f l) k z K = true := by
 rw [lkZ_eq0]
 unfold lkZ0
 rw [lkA_img]
 cases h : aGet l k with
 | none => exact h2 h
 | some v => exact h1 v h
theorem wrK_w {H : AH} {a : Pn} {b : AB} {K : AH → Bool} (hk : K (H.put a b) = true) : wrK H a (some b) K = true := by rw [wrK_]; exact hk
def IS (H : AH) (p : AP) (n z : Nat) (ks : List Int) : Prop :=
 n = ks.length ∧ ((p = .nil ∧ ks = []) ∨ ∃ g cs, p = .at g 0 ∧ z = 1 ∧ H.has g ∧ H.get g = some (.row cs) ∧ ks.length ≤ cs.length ∧ cs.take ks.length = intsA ks)
def CapOk : ACap → Nat → Prop
 | .lit k, n => n ≤ k
 | .of _ _, _ => True
def ownP (p : AP) (a : Pn) : Prop := ∃ o, p = .at a o
theorem IS.nil {H : AH} {z : Nat} : IS H .nil 0 z [] := ⟨rfl, .inl ⟨rfl, rfl⟩⟩
theorem IS.fr {F : Pn → Prop} {H H' : AH} {p : AP} {n z : Nat} {ks : List Int} (h : IS H p n z ks) (k : Fr F H H') (hf : ∀ a, ownP p a → ¬ F a) : IS H' p n z ks := by
 refine ⟨h.1, h.2.imp id ?_⟩
 rintro ⟨g, cs, rfl, hz, hh, hg, hl, ht⟩
 exact ⟨g, cs, rfl, hz, k.has g hh, (k.get g hh (hf g ⟨0, rfl⟩)).trans hg, hl, ht⟩
theorem intsA_get {ks : List Int} {i : Nat} (h : i < ks.length) : (intsA ks)[i]? = some (.int .i64 ks[i]) := by
 rw [intsA_map]; simp [h]
theorem intsA_append (a b : List Int) : intsA (a ++ b) = intsA a ++ intsA b := by simp [intsA_map]
theorem IS.at {H : AH} {p : AP} {n z : Nat} {ks : List Int} (h : IS H p n z ks) {i : Nat} (hi : i < ks.length) : ∃ g cs, p = .at g 0 ∧ H.has g ∧ H.get g = some (.row cs) ∧ cs[i]? = some (.int .i64 ks[i]) := by
 rcases h.2 with ⟨_, h0⟩ | ⟨g, cs, hp, _, hh, hg, hl, ht⟩
 ·subst h0; simp at hi
 ·refine ⟨g, cs, hp, hh, hg, ?_⟩
  have h1 := intsA_get hi
  rw [← ht, List.getElem?_take_of_lt hi] at h1
  exact h1
theorem appI_w {H : AH} {p : AP} {n z m : Nat} {ks js : List Int} {c : ACap} {K : AP → Nat → ACap → Nat → AH → Bool} (h : IS H p n z ks) (hm : m = js.length) (hpos : 0 < m) (hb : n + m ≤ 1000000)
  (hk : ∀ g' H', g' = H.nx → Fr (ownP p) H H' → H'.has g' → H'.get g' = some (.row (intsA (ks ++ js))) → K (.at g' 0) (n + m) (.of g' 0) 1 H' = true) : appA H p n z 1 8 (intsA js) m c K = true := by
 rw [appA_eq0]
 unfold appA0
 refine fN_w (okK_w (by rw [Nat.ble_eq_true_of_le (by omega), Nat.ble_eq_true_of_le (by omega)]; rfl) ?_)
 have hm0 : Nat.beq m 0 = false := by
  cases h : Nat.beq m 0
  ·rfl
  ·have := Nat.eq_of_beq_eq_true h; omega
 rw [hm0]
 dsimp only
 rcases h.2 with ⟨rfl, rfl⟩ | ⟨g, cs, rfl, rfl, hh, hg, hl, ht⟩
 ·refine newK_w (hk _ _ rfl ((Le.new H _).fr _) (has_new_self _ _) ?_)
  rw [get_new]; rfl
 ·dsimp only
  refine okK_w (Nat.beq_refl _) ?_
  rw [rowW_row hg]
  refine ldN_w (ys := intsA ks) (by rw [h.1]; omega) (by rw [List.drop_zero, h.1, Nat.mul_one]; exact ht) (fL_w ?_)
  rw [ap_eq, wrK_none]
  refine newK_w (hk _ _ rfl ⟨fun a ha => has_new (has_del ha), fun a ha hn => ?_⟩ (has_new_self _ _) ?_)
  ·exact (get_new_has (has_del ha)).trans (get_del_ne fun e => hn ⟨0, by rw [e]⟩)
  ·rw [intsA_append]; exact get_new _ _
theorem elI_w {H : AH} {p : AP} {n z : Nat} {ks : List Int} {K : List AS → Bool} (h : IS H p n z ks) (hk : K (intsA ks) = true) : elK H p n 1 K = true := by
 rcases h.2 with ⟨rfl, rfl⟩ | ⟨g, cs, rfl, rfl, hh, hg, hl, ht⟩
 ·have := h.1
  simp only [List.length_nil] at this
  subst this
  rw [elK_eq0]
  exact okK_w rfl hk
 ·have := h.1
  exact elK_w hg (by omega) (by rw [List.drop_zero, this, Nat.mul_one]; exact ht) hk
theorem appF_w {H0 H : AH} {p : AP} {n z m : Nat} {ks js : List Int} {c : ACap} {K : AP → Nat → ACap → Nat → AH → Bool} (h : IS H p n z ks) (hle : Le H0 H) (hf : ∀ a, ownP p a → ¬ H0.has a) (hc : CapOk c n) (hm : m = js.length) (hb : n + m ≤ 1000000)
  (hk : ∀ p' c' z' H', Le H0 H' → IS H' p' (n + m) z' (ks ++ js) → (∀ a, ownP p' a → ¬ H0.has a) → CapOk c' (n + m) → K p' (n + m) c' z' H' = true) : appA H p n z 1 8 (intsA js) m c K = true := by
 rcases Nat.eq_zero_or_pos m with h0 | h0
 ·subst h0
  have : js = [] := List.length_eq_zero_iff.1 hm.symm
  subst this
  rw [appA_eq0]
  unfold appA0
  refine fN_w (okK_w (by rw [Nat.ble_eq_true_of_le (by omega), Nat.ble_eq_true_of_le (by omega)]; rfl) ?_)
  show K p (n + 0) c z H = true
  exact hk _ _ _ _ hle (by simpa using h) hf hc
 ·refine appI_w h hm h0 hb fun g' H' hg' f hh hr => ?_
  refine hk _ _ _ _ ⟨fun a ha => f.has a (hle.has a ha), fun a ha => (f.get a (hle.has a ha) fun h => hf a h ha).trans (hle.get a ha)⟩ ⟨by rw [List.length_append, ← hm, ← h.1], .inr ⟨g', _, rfl, rfl, hh, hr, by simp [intsA_length], by rw [List.take_of_length_le (by simp [intsA_length])]⟩⟩ ?_ trivial
  rintro a ⟨o, ho⟩ ha
  cases ho
  rw [hg'] at ha
  exact not_has_nx _ (hle.has _ ha)
theorem appH_w {H : AH} {p : AP} {n z m : Nat} {ks js : List Int} {c : ACap} {K : AP → Nat → ACap → Nat → AH → Bool} (h : IS H p n z ks) (hc : CapOk c n) (hm : m = js.length) (hb : n + m ≤ 1000000)
  (hk : ∀ p' c' z' H', Fr (ownP p) H H' → IS H' p' (n + m) z' (ks ++ js) → (∀ a, ownP p' a → ownP p a ∨ ¬ H.has a) → CapOk c' (n + m) → K p' (n + m) c' z' H' = true) : appA H p n z 1 8 (intsA js) m c K = true := by
 rcases Nat.eq_zero_or_pos m with h0 | h0
 ·subst h0
  have : js = [] := List.length_eq_zero_iff.1 hm.symm
  subst this
  rw [appA_eq0]
  unfold appA0
  refine fN_w (okK_w (by rw [Nat.ble_eq_true_of_le (by omega), Nat.ble_eq_true_of_le (by omega)]; rfl) ?_)
  show K p (n + 0) c z H = true
  exact hk _ _ _ _ (Fr.refl _ _) (by simpa using h) (fun a h => .inl h) hc
 ·refine appI_w h hm h0 hb fun g' H' hg' f hh hr => ?_
  refine hk _ _ _ _ f ⟨by rw [List.length_append, ← hm, ← h.1], .inr ⟨g', _, rfl, rfl, hh, hr, by simp [intsA_length], by rw [List.take_of_length_le (by simp [intsA_length])]⟩⟩ ?_ trivial
  rintro a ⟨o, ho⟩
  cases ho
  rw [hg']
  exact .inr (not_has_nx _)
theorem IS.own_has {H : AH} {p : AP} {n z : Nat} {ks : List Int} (h : IS H p n z ks) (a : Pn) (ha : ownP p a) : H.has a := by
 obtain ⟨o, rfl⟩ := ha
 rcases h.2 with ⟨h, _⟩ | ⟨g, cs, h, _, hh, _⟩
 ·cases h
 ·cases h; exact hh
end Go.Vw.Ev
end
section
namespace Go.Proofs
open Go Go.Vw Go.Vw.Ev
set_option linter.unusedVariables false
set_option linter.unusedSimpArgs false
structure Pt where
 x : Int
 y : Int
 deriving DecidableEq
structure Rc where
 x0 : Int
 y0 : Int
 x1 : Int
 y1 : Int
 deriving DecidableEq
def ptC (p : Pt) : List AS := [.int .i64 p.x, .int .i64 p.y]
def rcC (r : Rc) : List AS := [.int .i64 r.x0, .int .i64 r.y0, .int .i64 r.x1, .int .i64 r.y1]
def On (p : Pt) : Bool := decide (0 ≤ p.x) && (decide (p.x < 64) && (decide (0 ≤ p.y) && decide (p.y < 64)))
def RIn (r : Rc) (p : Pt) : Bool := decide (r.x0 ≤ p.x) && (decide (p.x < r.x1) && (decide (r.y0 ≤ p.y) && decide (p.y < r.y1)))
def REmpty (r : Rc) : Bool := decide (r.x1 ≤ r.x0) || decide (r.y1 ≤ r.y0)
def tidy (r : Rc) : Rc := if REmpty r then ⟨0, 0, 0, 0⟩ else r
def RMeet (a b : Rc) : Rc := tidy ⟨max a.x0 b.x0, max a.y0 b.y0, min a.x1 b.x1, min a.y1 b.y1⟩
theorem fr4 (r : Rc) : (rcC r).length = 4 := rfl
theorem fr2 (p : Pt) : (ptC p).length = 2 := rfl
theorem rc0 (r : Rc) : (rcC r)[0]? = some (.int .i64 r.x0) := rfl
theorem rc1 (r : Rc) : (rcC r)[1]? = some (.int .i64 r.y0) := rfl
theorem rc2 (r : Rc) : (rcC r)[2]? = some (.int .i64 r.x1) := rfl
theorem rc3 (r : Rc) : (rcC r)[3]? = some (.int .i64 r.y1) := rfl
theorem pt0 (p : Pt) : (ptC p)[0]? = some (.int .i64 p.x) := rfl
theorem pt1 (p : Pt) : (ptC p)[1]? = some (.int .i64 p.y) := rfl
theorem B_geom_On_ {lf : Nat} {cl : Cl} {p : Pt} {H : AH} {K : AV → AH → Bool} (hk : ∀ H', Le H H' → K (.s (.bool (On p))) H' = true) : B_geom_On lf cl (ptC p) H K = true := by
 have h := hk _ (Le.new H (.row (ptC p)))
 unfold B_geom_On
 simp only [newK_, rowK_R, get_new, rowR_row, ldI_R, pt0, pt1, ldIR_int, fB_eq, iLe_dec, iLt_dec, Int.ofNat_eq_natCast, Int.cast_ofNat_Int, ifA_and]
 exact h
theorem B_geom_In_ {lf : Nat} {cl : Cl} {r : Rc} {p : Pt} {H : AH} {K : AV → AH → Bool} (hk : ∀ H', Le H H' → K (.s (.bool (RIn r p))) H' = true) : B_geom_In lf cl (rcC r) (ptC p) H K = true := by
 have h := hk _ ((Le.new H (.row (rcC r))).newr (.row (ptC p)))
 unfold B_geom_In
 simp only [newK_, rowK_R, get_new, get_new1, rowR_row, ldI_R, rc0, rc1, rc2, rc3, pt0, pt1, ldIR_int, fB_eq, iLe_dec, iLt_dec, ifA_and]
 exact h
theorem B_geom_Empty_ {lf : Nat} {cl : Cl} {r : Rc} {H : AH} {K : AV → AH → Bool} (hk : ∀ H', Le H H' → K (.s (.bool (REmpty r))) H' = true) : B_geom_Empty lf cl (rcC r) H K = true := by
 have h := hk _ (Le.new H (.row (rcC r)))
 unfold B_geom_Empty
 simp only [newK_, rowK_R, get_new, rowR_row, ldI_R, rc0, rc1, rc2, rc3, ldIR_int, fB_eq, iLe_dec, ifA_or]
 exact h
def CPtB (f : Nat) (g : Pt → Bool) (cl : Cl) : Prop := ∀ p H K, (∀ H', Le H H' → K (.s (.bool (g p))) H' = true) → cl f [.agg (ptC p)] H K = true
def CRcB (f : Nat) (g : Rc → Bool) (cl : Cl) : Prop := ∀ r H K, (∀ H', Le H H' → K (.s (.bool (g r))) H' = true) → cl f [.agg (rcC r)] H K = true
def CRcPtB (f : Nat) (g : Rc → Pt → Bool) (cl : Cl) : Prop := ∀ r p H K, (∀ H', Le H H' → K (.s (.bool (g r p))) H' = true) → cl f [.agg (rcC r), .agg (ptC p)] H K = true
def CRcRc (f : Nat) (g : Rc → Rc → Rc) (cl : Cl) : Prop := ∀ r s H K, (∀ H', Le H H' → K (.agg (rcC (g r s))) H' = true) → cl f [.agg (rcC r), .agg (rcC s)] H K = true
def CRc1 (f : Nat) (g : Rc → Rc) (cl : Cl) : Prop := ∀ r H K, (∀ H', Le H H' → K (.agg (rcC (g r))) H' = true) → cl f [.agg (rcC r)] H K = true
def CRc0 (f : Nat) (r : Rc) (cl : Cl) : Prop := ∀ H K, (∀ H', Le H H' → K (.agg (rcC r)) H' = true) → cl f [] H K = true
theorem rc_mk (a b c d : Int) : [AS.int .i64 a, AS.int .i64 b, AS.int .i64 c, AS.int .i64 d] = rcC ⟨a, b, c, d⟩ := rfl
theorem B_geom_tidy_ {lf : Nat} {cl : Cl} (hE : CRcB i_geom_Empty REmpty cl) {r : Rc} {H : AH} {K : AV → AH → Bool} (hk : ∀ H', Le H H' → K (.agg (rcC (tidy r))) H' = true) : B_geom_tidy lf cl (rcC r) H K = true := by
 unfold B_geom_tidy
 simp only [newK_, rowK_R, get_new, get_new1, rowR_row, ldG_all (fr4 r) (by decide)]
 refine hE _ _ _ fun H1 h1 => arB_w ?_
 have hr : H1.get H.nx = some (.row (rcC r)) := by rw [h1.get _ (has_new (has_new_self _ _)), get_new1]
 have hz : H1.get (H.new (.row (rcC r))).nx = some (.row (rcC ⟨0, 0, 0, 0⟩)) := by rw [h1.get _ (has_new_self _ _), get_new]; rfl
 have hL : Le H H1 := ((Le.new H _).newr _).trans h1
 have hn : ¬ H.has (H.new (.row (rcC r))).nx := (Le.new H _).nx
 unfold tidy at hk
 refine ifA_w (fun e => ?_) (fun e => ?_)
 ·rw [if_pos e] at hk
  exact stoN_we (ds := rcC ⟨0, 0, 0, 0⟩) hz rfl (by simp [rcC]) rfl (rowR_w (get_put _ _ _) (ldG_we (by simp [rcC]) (by decide) rfl (hk _ (hL.put hn _))))
 ·rw [if_neg (by simp [e])] at hk
  rw [hr, rowR_row, ldG_all (fr4 r) (by decide)]
  exact stoN_we (ds := rcC r) hz rfl (by simp [rcC]) (by simp [rcC]) (rowR_w (get_put _ _ _) (ldG_we (by simp [rcC]) (by decide) rfl (hk _ (hL.put hn _))))
theorem B_geom_Meet_ {lf : Nat} {cl : Cl} (hT : CRc1 i_geom_tidy tidy cl) {r s : Rc} {H : AH} {K : AV → AH → Bool} (hk : ∀ H', Le H H' → K (.agg (rcC (RMeet r s))) H' = true) : B_geom_Meet lf cl (rcC r) (rcC s) H K = true := by
 unfold B_geom_Meet
 have e1 : ∀ b c d : AB, (((H.new b).new c).new d).get H.nx = some b := fun b c d => by rw [get_new_has (has_new (has_new_self _ _)), get_new1]
 simp only [newK_, rowK_R, get_new, get_new1, e1, rowR_row, ldI_R, rc0, rc1, rc2, rc3, ldIR_int, fI_eq, mxA_, mnA_, rc_mk]
 refine hT _ _ _ fun H1 h1 => ?_
 rw [asG_]
 have hz := h1.get _ (has_new_self ((H.new (.row (rcC r))).new (.row (rcC s))) (.row (rcC ⟨Int.ofNat 0, Int.ofNat 0, Int.ofNat 0, Int.ofNat 0⟩)))
 rw [get_new] at hz
 exact stoN_we (ds := rcC (RMeet r s)) hz rfl (by simp [rcC]) (by simp [rcC, RMeet]) (rowR_w (get_put _ _ _) (ldG_we (by simp [rcC]) (by decide) rfl (hk _ ((((((Le.new H _).newr _).newr _).trans h1)).put ((Le.new H _).newr _).nx _))))
end Go.Proofs
end
