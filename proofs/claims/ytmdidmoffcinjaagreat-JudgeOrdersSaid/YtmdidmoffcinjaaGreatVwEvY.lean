/- What acts on the evaluator's heap. -/
import Derived.Test.YtmdidmoffcinjaaGreatVwEvX
namespace Go.Vw.Ev
open Go Go.Vw
theorem sucK_eq : ∀ (p : Pn) (K : Pn → Bool), sucK p K = K p.succ
 | .o, _ => rfl
 | .z _, _ => rfl
 | .i p, K => sucK_eq p fun r => K (.z r)
theorem newK_eq (H : AH) (b : AB) (K : Pn → AH → Bool) : newK H b K = K H.nx ⟨H.t.set H.nx (some b), H.nx.succ⟩ := by
 cases H with
 | mk t nx => exact (Tr.setK_eq _ _ _ _).trans (sucK_eq nx _)
theorem wrK_eq (H : AH) (a : Pn) (b : Option AB) (K : AH → Bool) : wrK H a b K = K ⟨H.t.set a b, H.nx⟩ := by
 cases H with
 | mk t nx => exact Tr.setK_eq _ _ _ _
noncomputable def Phi.put (φ : Phi) (a : Pn) (r : Rec) : Phi := fun x => match x.beq a with | true => some r | false => φ x
theorem Phi.put_same (φ : Phi) (a : Pn) (r : Rec) : φ.put a r a = some r := by
 simp only [Phi.put, Pn.beq_iff.2 rfl]
theorem Phi.put_other (φ : Phi) {a x : Pn} (r : Rec) (h : x ≠ a) : φ.put a r x = φ x := by
 have : x.beq a = false := by
  cases hx : x.beq a
  ·rfl
  ·exact absurd (Pn.beq_iff.1 hx) h
 simp only [Phi.put, this]
section
variable {φ : Phi} {P : Program} {w0 : World}
theorem RH.ext {H : AH} {hF h : Hp} (hh : RH φ H hF h) (r : Rec) : PExt φ (φ.put H.nx r) := by
 intro a r' h1
 have : a ≠ H.nx := fun e => by
  rw [e, hh.fresh _ (Nat.le_refl _)] at h1
  cases h1
 rw [Phi.put_other _ _ this]
 exact h1
theorem RH.put {H : AH} {hF h : Hp} (hh : RH φ H hF h) {r : Rec} {ab : AB} {k : Blk} (hb : ∀ a r', H.t.get a ≠ none → φ a = some r' → r'.b ≠ r.b) (hf : hF r.b = none)
  (hr : RB (φ.put H.nx r) r ab k) : RH (φ.put H.nx r) ⟨H.t.set H.nx (some ab), H.nx.succ⟩ hF (h.set r.b k) := by
 have hx := hh.ext r
 have hnx := hh.nxfree
 have old : ∀ a, a ≠ H.nx → (H.t.set H.nx (some ab)).get a = H.t.get a := fun a ha => Tr.get_set_other _ _ _ _ ha
 refine ⟨?_, ?_, ?_, ?_, ?_⟩
 ·intro a b hg
  by_cases ha : a = H.nx
  ·subst ha
   rw [show (H.t.set H.nx (some ab)).get H.nx = _ from Tr.get_set_same _ _ _] at hg
   cases hg
   exact ⟨r, Phi.put_same _ _ _, k, Hp.set_same _ _ _, hr⟩
  ·rw [show (AH.mk (H.t.set H.nx (some ab)) H.nx.succ).t.get a = _ from old a ha] at hg
   obtain ⟨r', h1, k', h2, h3⟩ := hh.blk a b hg
   refine ⟨r', hx _ _ h1, k', ?_, h3.mono hx⟩
   rw [Hp.set_other _ _ (hb a r' (by rw [hg]; simp) h1)]
   exact h2
 ·intro a a' r1 r2 hg hg' h1 h2 he
  by_cases ha : a = H.nx
  ·by_cases ha' : a' = H.nx
   ·left; rw [ha, ha']
   ·exfalso
    rw [ha, Phi.put_same] at h1
    cases h1
    rw [show (AH.mk (H.t.set H.nx (some ab)) H.nx.succ).t.get a' = _ from old a' ha'] at hg'
    rw [Phi.put_other _ _ ha'] at h2
    exact hb a' r2 hg' h2 he.symm
  ·rw [show (AH.mk (H.t.set H.nx (some ab)) H.nx.succ).t.get a = _ from old a ha] at hg
   rw [Phi.put_other _ _ ha] at h1
   by_cases ha' : a' = H.nx
   ·exfalso
    rw [ha', Phi.put_same] at h2
    cases h2
    exact hb a r1 hg h1 he
   ·rw [show (AH.mk (H.t.set H.nx (some ab)) H.nx.succ).t.get a' = _ from old a' ha'] at hg'
    rw [Phi.put_other _ _ ha'] at h2
    rcases hh.inj a a' r1 r2 hg hg' h1 h2 he with e | ⟨c, e⟩
    ·exact .inl e
    ·exact .inr ⟨c, by rw [Hp.set_other _ _ (hb a r1 hg h1)]; exact e⟩
 ·intro a hle
  have hle : H.nx.succ.val ≤ a.val := hle
  rw [Pn.succ_val] at hle
  have : a ≠ H.nx := fun e => by rw [e] at hle; omega
  rw [Phi.put_other _ _ this]
  exact hh.fresh a (by omega)
 ·intro b k' hk
  have : b ≠ r.b := fun e => by rw [e, hf] at hk; cases hk
  rw [Hp.set_other _ _ this]
  exact hh.frame b k' hk
 ·intro a r' hg h1
  by_cases ha : a = H.nx
  ·rw [ha, Phi.put_same] at h1
   cases h1
   exact hf
  ·rw [show (AH.mk (H.t.set H.nx (some ab)) H.nx.succ).t.get a = _ from old a ha] at hg
   rw [Phi.put_other _ _ ha] at h1
   exact hh.off a r' hg h1
theorem RH.new {H : AH} {hF h : Hp} (hh : RH φ H hF h) {r : Rec} {ab : AB} {k : Blk} (hb : h r.b = none)
  (hr : RB (φ.put H.nx r) r ab k) : RH (φ.put H.nx r) ⟨H.t.set H.nx (some ab), H.nx.succ⟩ hF (h.set r.b k) := by
 refine hh.put ?_ ?_ hr
 ·intro a r' hg h1 he
  cases hga : H.t.get a with
  | none => exact hg hga
  | some b =>
   obtain ⟨r'', h1', k', h2, _⟩ := hh.blk a b hga
   rw [h1] at h1'
   cases h1'
   rw [he, hb] at h2
   cases h2
 ·cases hf : hF r.b with
  | none => rfl
  | some k' =>
   rw [hh.frame _ _ hf] at hb
   cases hb
theorem RH.wr {H : AH} {hF h : Hp} (hh : RH φ H hF h) {a : Pn} {r : Rec} (ha : φ a = some r) (hg : H.t.get a ≠ none) (hno : ∀ c, h r.b ≠ some (.old c)) {ab : AB} {k : Blk}
  (hr : RB φ r ab k) : RH φ ⟨H.t.set a (some ab), H.nx⟩ hF (h.set r.b k) := by
 have old : ∀ x, x ≠ a → (H.t.set a (some ab)).get x = H.t.get x := fun x hx => Tr.get_set_other _ _ _ _ hx
 have live : ∀ x, (H.t.set a (some ab)).get x ≠ none → H.t.get x ≠ none := by
  intro x hx
  by_cases he : x = a
  ·rw [he]; exact hg
  ·rw [old x he] at hx; exact hx
 refine ⟨?_, ?_, hh.fresh, ?_, ?_⟩
 ·intro x b hx
  by_cases he : x = a
  ·subst he
   rw [show (AH.mk (H.t.set x (some ab)) H.nx).t.get x = _ from Tr.get_set_same _ _ _] at hx
   cases hx
   exact ⟨r, ha, k, Hp.set_same _ _ _, hr⟩
  ·rw [show (AH.mk (H.t.set a (some ab)) H.nx).t.get x = _ from old x he] at hx
   obtain ⟨r', h1, k', h2, h3⟩ := hh.blk x b hx
   refine ⟨r', h1, k', ?_, h3⟩
   rw [Hp.set_other _ _ (fun e => he (hh.one hg (by rw [hx]; simp) ha h1 e.symm hno).symm)]
   exact h2
 ·intro x y r1 r2 hx hy h1 h2 he
  rcases hh.inj x y r1 r2 (live x hx) (live y hy) h1 h2 he with e | ⟨c, e⟩
  ·exact .inl e
  ·exact .inr ⟨c, by rw [Hp.set_other _ _ (fun e2 => by rw [e2] at e; exact hno c e)]; exact e⟩
 ·intro b k' hk
  have : b ≠ r.b := fun e => by rw [e, hh.off a r hg ha] at hk; cases hk
  rw [Hp.set_other _ _ this]
  exact hh.frame b k' hk
 ·intro x r' hx h1
  exact hh.off x r' (live x hx) h1
theorem RH.drop {H : AH} {hF h : Hp} (hh : RH φ H hF h) (a : Pn) : RH φ ⟨H.t.set a none, H.nx⟩ hF h := by
 have old : ∀ x, x ≠ a → (H.t.set a none).get x = H.t.get x := fun x hx => Tr.get_set_other _ _ _ _ hx
 have live : ∀ x, (H.t.set a none).get x ≠ none → H.t.get x ≠ none ∧ x ≠ a := by
  intro x hx
  by_cases he : x = a
  ·rw [he, Tr.get_set_same] at hx; exact absurd rfl hx
  ·rw [old x he] at hx; exact ⟨hx, he⟩
 refine ⟨?_, ?_, hh.fresh, hh.frame, ?_⟩
 ·intro x b hx
  have hl := live x (by rw [show (H.t.set a none).get x = _ from hx]; simp)
  rw [show (AH.mk (H.t.set a none) H.nx).t.get x = _ from old x hl.2] at hx
  exact hh.blk x b hx
 ·intro x y r1 r2 hx hy h1 h2 he
  exact hh.inj x y r1 r2 (live x hx).1 (live y hy).1 h1 h2 he
 ·intro x r' hx h1
  exact hh.off x r' (live x hx).1 h1
theorem RH.del {H : AH} {hF h : Hp} (hh : RH φ H hF h) {a : Pn} {r : Rec} (ha : φ a = some r) (hg : H.t.get a ≠ none) (hno : ∀ c, h r.b ≠ some (.old c)) : RH φ ⟨H.t.set a none, H.nx⟩ hF (h.del r.b) := by
 have hd := hh.drop a
 refine ⟨?_, ?_, hd.fresh, ?_, hd.off⟩
 rotate_left
 ·intro x y r1 r2 hx hy h1 h2 he
  rcases hd.inj x y r1 r2 hx hy h1 h2 he with e | ⟨c, e⟩
  ·exact .inl e
  ·refine .inr ⟨c, ?_⟩
   have : r1.b ≠ r.b := fun e2 => by rw [e2] at e; exact hno c e
   simp only [Hp.del, if_neg this]
   exact e
 rotate_right
 ·intro x b hx
  obtain ⟨r', h1, k', h2, h3⟩ := hd.blk x b hx
  refine ⟨r', h1, k', ?_, h3⟩
  have hne : x ≠ a := fun e => by
   rw [e, show (AH.mk (H.t.set a none) H.nx).t.get a = _ from Tr.get_set_same _ _ _] at hx
   cases hx
  have hgx : H.t.get x ≠ none := by
   rw [show (AH.mk (H.t.set a none) H.nx).t.get x = _ from Tr.get_set_other _ _ _ _ hne] at hx
   rw [hx]; simp
  have : r'.b ≠ r.b := fun e => hne (hh.one hg hgx ha h1 e.symm hno).symm
  simp only [Hp.del, if_neg this]
  exact h2
 ·intro b k hk
  have : b ≠ r.b := fun e => by rw [e, hh.off a r hg ha] at hk; cases hk
  simp only [Hp.del, if_neg this]
  exact hh.frame b k hk
theorem elK_ex {H : AH} {hF h : Hp} (hh : RH φ H hF h) {p : AP} {n z c size : Nat} {a : Option Addr} (hs : RSl φ p n z c a) {K : List AS → Bool} (hk : elK H p n size K = true) :
  ∃ ys l, K ys = true ∧ RSL φ ys l ∧ slCells h a n size l ∧ l.length = n * size := by
 rw [elK_eq0] at hk
 unfold elK0 at hk
 split at hk
 ·obtain ⟨h1, hk⟩ := okK_ex hk
  have h1 := Nat.eq_of_beq_eq_true h1
  obtain ⟨rfl, _, _⟩ := hs
  exact ⟨[], [], hk, by simp [RSL], rfl, by simp [h1]⟩
 ·obtain ⟨r, hx, rfl, _⟩ := hs
  obtain ⟨cs, l, hk, hb, hl⟩ := rowK_ex hh hx hk
  obtain ⟨ys, hk, hys, hle⟩ := ldN_ex hl hk
  refine ⟨ys, _, hk, hys, ?_, by simp; omega⟩
  exact lds_of hle h r.b r.pre hb
 ·obtain ⟨h1, hk⟩ := okK_ex hk
  have h1 := Nat.eq_of_beq_eq_true h1
  subst h1
  obtain ⟨_, r, o', hx, rfl, hle', _⟩ := hs
  obtain ⟨cs, l, hk, hb, hl⟩ := rowK_ex hh hx hk
  obtain ⟨h2, hk⟩ := okK_ex hk
  have h2 := Nat.le_of_ble_eq_true h2
  rw [ln_eq] at h2
  have := hl.length
  refine ⟨[], [], hk, by simp [RSL], ?_, by simp⟩
  obtain ⟨s, hb⟩ := hb
  refine ⟨r.pre ++ (l ++ s), hb, ?_, by simp⟩
  rw [List.length_append, List.length_append]
  omega
theorem app_fin {H : AH} {hF h : Hp} (hh : RH φ H hF h) {r : Rec} {cs : List AS} {l : List Value} (hb : ∀ a r', H.t.get a ≠ none → φ a = some r' → r'.b ≠ r.b) (hf : hF r.b = none) (hl : RSL φ cs l) (hsz : r.pre.length + l.length ≤ r.sz)
  {nm size : Nat} (hn : nm ≤ r.cap) (hc : r.pre.length + r.cap * size ≤ r.sz) :
  PExt φ (φ.put H.nx r) ∧ RV (φ.put H.nx r) (.s (.slice (.at H.nx 0) nm (.of H.nx 0) size)) (.slice (some ⟨r.b, r.pre.length, none⟩) nm r.cap) ∧
   RH (φ.put H.nx r) ⟨H.t.set H.nx (some (.row cs)), H.nx.succ⟩ hF (h.set r.b (.row r.e (r.pre ++ l) r.sz)) := by
 refine ⟨hh.ext r, ?_, hh.put hb hf ⟨l, rfl, hl.mono (hh.ext r), hsz⟩⟩
 simp only [RV, RS]
 exact ⟨_, r.cap, rfl, ⟨r, Phi.put_same _ _ _, rfl⟩, hn, r, Phi.put_same _ _ _, rfl, by simpa using hc⟩
theorem appA_ex {H : AH} {hF h : Hp} (hh : RH φ H hF h) {p : AP} {n z size bytes m : Nat} {c : ACap} {c' : Nat} {a : Option Addr} (e : TypeId) (hc : RC φ c c') (hn : n ≤ c') (hs : RSl φ p n z c' a)
  {ys : List AS} {l : List Value} (hl : RSL φ ys l) (hlen : l.length = m * size) {K : AP → Nat → ACap → Nat → AH → Bool} (hk : appA H p n z size bytes ys m c K = true) :
  ∀ K' : Value → Hp → Prop, (∀ φ' p1 n1 c1 z1 V H' h', PExt φ φ' → RV φ' (.s (.slice p1 n1 c1 z1)) V → RH φ' H' hF h' → K p1 n1 c1 z1 H' = true → K' V h') → appOp h a n c' e size bytes l m K' := by
 intro K' hK'
 rw [appA_eq0] at hk
 unfold appA0 at hk
 rw [fN_eq] at hk
 obtain ⟨hb, hk⟩ := okK_ex hk
 simp only [Bool.and_eq_true] at hb
 have hb1 : (n + m) * bytes ≤ 140737488355328 := by simpa using hb.1
 have hb2 : n + m ≤ 140737488355328 := by simpa using hb.2
 have hnone : a = none → n = 0 ∧ c' = 0 := by
  intro ha
  cases p with
  | nil => exact ⟨hs.2.1, hs.2.2⟩
  | «at» x o => obtain ⟨r, _, h2, _⟩ := hs; rw [h2] at ha; cases ha
  | edge x o => obtain ⟨_, r, o', _, h2, _⟩ := hs; rw [h2] at ha; cases ha
 split at hk
 ·rename_i hm
  have hm := Nat.eq_of_beq_eq_true hm
  refine ⟨⟨hnone, hn, hb1, hb2, hlen, hl.allOne, fun h0 => absurd hm h0⟩, ?_⟩
  rintro a' c'' h' (⟨_, rfl, rfl, rfl⟩ | ⟨h0, _⟩ | ⟨h0, _⟩)
  ·refine hK' φ _ _ _ _ _ H h' (PExt.refl φ) ?_ hh hk
   simp only [RV, RS]
   exact ⟨a', c'', rfl, hc, by rw [hm]; exact hn, by rw [hm]; exact hs⟩
  ·exact absurd hm h0
  ·exact absurd hm h0
 ·rename_i hm0
  have hm : m ≠ 0 := fun e => by rw [e] at hm0; exact absurd hm0 (by decide)
  cases p with
  | nil =>
   obtain ⟨rfl, rfl, rfl⟩ := hs
   rw [newK_eq] at hk
   refine ⟨⟨hnone, hn, hb1, hb2, hlen, hl.allOne, fun _ ad had => by cases had⟩, ?_⟩
   rintro a' c'' h' (⟨h0, _⟩ | ⟨_, _, b', hb', hmc, rfl, rfl⟩ | ⟨_, b, o, c0, e0, sz, hab, _⟩)
   ·exact absurd h0 hm
   ·obtain ⟨f1, f2, f3⟩ := app_fin hh (r := ⟨b', [], e, c'' * size, c'', []⟩) (cs := ys) (l := l) (nm := 0 + m) (size := size)
     (fun x r' hg h1 he => by
      cases hga : H.t.get x with
      | none => exact hg hga
      | some b =>
       obtain ⟨r'', h1', k', h2, _⟩ := hh.blk x b hga
       rw [h1] at h1'
       cases h1'
       rw [show r'.b = b' from he, hb'] at h2
       cases h2)
     (by
      cases hf : hF b' with
      | none => rfl
      | some k' => rw [hh.frame _ _ hf] at hb'; cases hb')
     hl (by simp only [List.length_nil, Nat.zero_add, hlen]; exact Nat.mul_le_mul_right _ hmc) (by simpa using hmc) (by simp)
    exact hK' _ _ _ _ _ _ _ _ f1 f2 f3 hk
   ·cases hab
  | «at» x o =>
   obtain ⟨r, hx, rfl, hsz⟩ := hs
   obtain ⟨hz, hk⟩ := okK_ex hk
   have hz := Nat.eq_of_beq_eq_true hz
   subst hz
   obtain ⟨cs, l0, hk, hg, hb, hl0, hrs⟩ := rowW_ex hh hx hk
   have hno : ∀ c, h r.b ≠ some (.old c) := fun c hc => by rw [hb] at hc; cases hc
   obtain ⟨xs, hk, hxs, hle⟩ := ldN_ex hl0 hk
   rw [fL_eq, ap_eq, wrK_eq, newK_eq] at hk
   have hmul : (n + m) * z = n * z + m * z := Nat.add_mul _ _ _
   refine ⟨⟨hnone, hn, hb1, hb2, hlen, hl.allOne, fun _ ad had => ?_⟩, ?_⟩
   ·cases had
    exact ⟨r.b, _, _, _, _, rfl, hb, by rw [List.length_append]; omega, by omega⟩
   ·rintro a' c'' h' (⟨h0, _⟩ | ⟨_, h0, _⟩ | ⟨_, b, o', c0, e0, sz, hab, hrow, hcase⟩)
    ·exact absurd h0 hm
    ·cases h0
    ·simp only [Option.some.injEq, Addr.mk.injEq] at hab
     obtain ⟨rfl, rfl, _⟩ := hab
     rw [hb] at hrow
     simp only [Option.some.injEq, Blk.row.injEq] at hrow
     obtain ⟨rfl, rfl, rfl⟩ := hrow
     rcases hcase with ⟨hfit, rfl, rfl, rfl⟩ | ⟨hnofit, b', hb', hmc, rfl, rfl⟩
     ·have hcz : (n + m) * z ≤ c'' * z := Nat.mul_le_mul_right _ hfit
      have hpl : (r.pre ++ l0.take o).length = r.pre.length + o := by rw [List.length_append, List.length_take]; omega
      obtain ⟨f1, f2, f3⟩ := app_fin (hh.drop x) (r := ⟨r.b, r.pre ++ l0.take o, r.e, r.sz, c'', []⟩) (cs := xs ++ ys) (l := (l0.drop o).take (n * z) ++ l) (nm := n + m) (size := z)
       (fun y r' hgy h1 he => by
        by_cases hyx : y = x
        ·subst hyx
         exact hgy (Tr.get_set_same _ _ _)
        ·rw [show (AH.mk (H.t.set x none) H.nx).t.get y = _ from Tr.get_set_other _ _ _ _ hyx] at hgy
         exact hyx (hh.one (by rw [hg]; simp) hgy hx h1 he.symm hno).symm)
       (hh.off x r (by rw [hg]; simp) hx)
       (hxs.append hl) (by simp only [hpl, List.length_append, List.length_take, List.length_drop, hlen]; omega) hfit (by simp only [hpl]; omega)
      simp only [hpl] at f2
      refine hK' _ _ _ _ _ _ _ _ f1 f2 ?_ hk
      have : (r.pre ++ l0).take (r.pre.length + o + n * z) ++ l = r.pre ++ l0.take o ++ ((l0.drop o).take (n * z) ++ l) := by
       rw [List.take_append, List.take_of_length_le (l := r.pre) (by omega), show r.pre.length + o + n * z - r.pre.length = o + n * z by omega, List.take_add]
       simp only [List.append_assoc]
      rw [this]
      exact f3
     ·have hb'' : b' ≠ r.b := fun e => by rw [e, hb] at hb'; cases hb'
      obtain ⟨f1, f2, f3⟩ := app_fin (hh.del hx (by rw [hg]; simp) hno) (r := ⟨b', [], e, c'' * z, c'', []⟩) (cs := xs ++ ys) (l := (l0.drop o).take (n * z) ++ l) (nm := n + m) (size := z)
       (fun y r' hgy h1 he => by
        have hgy' : H.t.get y ≠ none := by
         by_cases hyx : y = x
         ·rw [hyx, hg]; simp
         ·rw [show (AH.mk (H.t.set x none) H.nx).t.get y = _ from Tr.get_set_other _ _ _ _ hyx] at hgy
          exact hgy
        cases hga : H.t.get y with
        | none => exact hgy' hga
        | some b =>
         obtain ⟨r'', h1', k', h2, _⟩ := hh.blk y b hga
         rw [h1] at h1'
         cases h1'
         rw [show r'.b = b' from he, hb'] at h2
         cases h2)
       (by
        cases hf : hF b' with
        | none => rfl
        | some k' => rw [hh.frame _ _ hf] at hb'; cases hb')
       (hxs.append hl)
       (by
        simp only [List.length_nil, Nat.zero_add, List.length_append, List.length_take, List.length_drop, hlen]
        have := Nat.mul_le_mul_right z hmc
        omega)
       hmc (by simp)
      refine hK' _ _ _ _ _ _ _ _ f1 f2 ?_ hk
      have : ((r.pre ++ l0).drop (r.pre.length + o)).take (n * z) = (l0.drop o).take (n * z) := by
       rw [List.drop_append, List.drop_eq_nil_of_le (as := r.pre) (by omega)]
       simp
      rw [this]
      exact f3
  | edge x o =>
   obtain ⟨hn0, r, o', hx, rfl, ho', hsz⟩ := hs
   subst hn0
   obtain ⟨hz, hk⟩ := okK_ex hk
   have hz := Nat.eq_of_beq_eq_true hz
   subst hz
   obtain ⟨cs, l0, hk, hg, hb, hl0, hrs⟩ := rowW_ex hh hx hk
   have hno : ∀ c, h r.b ≠ some (.old c) := fun c hc => by rw [hb] at hc; cases hc
   obtain ⟨hle, hk⟩ := okK_ex hk
   have hle : o ≤ ln cs := by simpa using hle
   rw [ln_eq, ← hl0.length] at hle
   rw [wrK_eq, newK_eq] at hk
   refine ⟨⟨hnone, hn, hb1, hb2, hlen, hl.allOne, fun _ ad had => ?_⟩, ?_⟩
   ·cases had
    refine ⟨r.b, _, _, _, _, rfl, hb, by rw [List.length_append]; omega, ?_⟩
    by_cases hc0 : c' = 0
    ·rw [hc0]; omega
    ·have := hsz hc0
     omega
   ·rintro a' c'' h' (⟨h0, _⟩ | ⟨_, h0, _⟩ | ⟨_, b, o2, c0, e0, sz, hab, hrow, hcase⟩)
    ·exact absurd h0 hm
    ·cases h0
    ·simp only [Option.some.injEq, Addr.mk.injEq] at hab
     obtain ⟨rfl, rfl, _⟩ := hab
     rw [hb] at hrow
     simp only [Option.some.injEq, Blk.row.injEq] at hrow
     obtain ⟨rfl, rfl, rfl⟩ := hrow
     rcases hcase with ⟨hfit, rfl, rfl, rfl⟩ | ⟨hnofit, b', hb', hmc, rfl, rfl⟩
     ·have hcz : (0 + m) * z ≤ c'' * z := Nat.mul_le_mul_right _ hfit
      obtain ⟨rfl, hsz'⟩ := hsz (by omega)
      have hpl : (r.pre ++ l0.take o).length = r.pre.length + o := by rw [List.length_append, List.length_take]; omega
      rw [Nat.zero_add] at hcz
      obtain ⟨f1, f2, f3⟩ := app_fin (hh.drop x) (r := ⟨r.b, r.pre ++ l0.take o, r.e, r.sz, c'', []⟩) (cs := ys) (l := l) (nm := 0 + m) (size := z)
       (fun y r' hgy h1 he => by
        by_cases hyx : y = x
        ·subst hyx
         exact hgy (Tr.get_set_same _ _ _)
        ·rw [show (AH.mk (H.t.set x none) H.nx).t.get y = _ from Tr.get_set_other _ _ _ _ hyx] at hgy
         exact hyx (hh.one (by rw [hg]; simp) hgy hx h1 he.symm hno).symm)
       (hh.off x r (by rw [hg]; simp) hx)
       hl (by simp only [hpl, hlen]; omega) hfit (by simp only [hpl]; omega)
      simp only [hpl] at f2
      refine hK' _ _ _ _ _ _ _ _ f1 f2 ?_ hk
      have : (r.pre ++ l0).take (r.pre.length + o + 0 * z) ++ l = r.pre ++ l0.take o ++ l := by
       rw [List.take_append, List.take_of_length_le (l := r.pre) (by omega), show r.pre.length + o + 0 * z - r.pre.length = o by omega]
      rw [this]
      exact f3
     ·obtain ⟨f1, f2, f3⟩ := app_fin (hh.del hx (by rw [hg]; simp) hno) (r := ⟨b', [], e, c'' * z, c'', []⟩) (cs := ys) (l := l) (nm := 0 + m) (size := z)
       (fun y r' hgy h1 he => by
        have hgy' : H.t.get y ≠ none := by
         by_cases hyx : y = x
         ·rw [hyx, hg]; simp
         ·rw [show (AH.mk (H.t.set x none) H.nx).t.get y = _ from Tr.get_set_other _ _ _ _ hyx] at hgy
          exact hgy
        cases hga : H.t.get y with
        | none => exact hgy' hga
        | some b =>
         obtain ⟨r'', h1', k', h2, _⟩ := hh.blk y b hga
         rw [h1] at h1'
         cases h1'
         rw [show r'.b = b' from he, hb'] at h2
         cases h2)
       (by
        cases hf : hF b' with
        | none => rfl
        | some k' => rw [hh.frame _ _ hf] at hb'; cases hb')
       hl
       (by
        simp only [List.length_nil, Nat.zero_add, hlen]
        have := Nat.mul_le_mul_right z hmc
        rw [Nat.zero_add] at this
        omega)
       hmc (by simp)
      refine hK' _ _ _ _ _ _ _ _ f1 f2 ?_ hk
      simpa using f3
end
end Go.Vw.Ev
