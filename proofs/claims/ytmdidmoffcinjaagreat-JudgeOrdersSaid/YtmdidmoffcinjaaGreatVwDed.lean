/- The evaluator's words, to reason by: each as an equation; loops by a rule; heaps. -/
import Derived.Test.YtmdidmoffcinjaaGreatVwRead
namespace Go.Vw.Ev
open Go Go.Vw
noncomputable def AH.get (H : AH) (a : Pn) : Option AB := H.t.get a
noncomputable def AH.new (H : AH) (b : AB) : AH := ⟨H.t.set H.nx (some b), H.nx.succ⟩
noncomputable def AH.put (H : AH) (a : Pn) (b : AB) : AH := ⟨H.t.set a (some b), H.nx⟩
noncomputable def AH.del (H : AH) (a : Pn) : AH := ⟨H.t.set a none, H.nx⟩
def AH.has (H : AH) (a : Pn) : Prop := a.val < H.nx.val
theorem newK_ (H : AH) (b : AB) (K : Pn → AH → Bool) : newK H b K = K H.nx (H.new b) := newK_eq H b K
theorem wrK_ (H : AH) (a : Pn) (b : AB) (K : AH → Bool) : wrK H a (some b) K = K (H.put a b) := wrK_eq H a _ K
theorem wrK_none (H : AH) (a : Pn) (K : AH → Bool) : wrK H a none K = K (H.del a) := wrK_eq H a _ K
theorem get_new (H : AH) (b : AB) : (H.new b).get H.nx = some b := Tr.get_set_same _ _ _
theorem get_new_ne {H : AH} {b : AB} {a : Pn} (h : a ≠ H.nx) : (H.new b).get a = H.get a := Tr.get_set_other _ _ _ _ h
theorem get_put (H : AH) (a : Pn) (b : AB) : (H.put a b).get a = some b := Tr.get_set_same _ _ _
theorem get_put_ne {H : AH} {b : AB} {a x : Pn} (h : x ≠ a) : (H.put a b).get x = H.get x := Tr.get_set_other _ _ _ _ h
theorem get_del_ne {H : AH} {a x : Pn} (h : x ≠ a) : (H.del a).get x = H.get x := Tr.get_set_other _ _ _ _ h
theorem has_ne {H : AH} {a : Pn} (h : H.has a) : a ≠ H.nx := fun e => by subst e; exact absurd h (Nat.lt_irrefl _)
theorem get_new_has {H : AH} {b : AB} {a : Pn} (h : H.has a) : (H.new b).get a = H.get a := get_new_ne (has_ne h)
theorem has_new_self (H : AH) (b : AB) : (H.new b).has H.nx := by
 show H.nx.val < (Pn.succ H.nx).val
 rw [Pn.succ_val]; omega
theorem has_new {H : AH} {b : AB} {a : Pn} (h : H.has a) : (H.new b).has a := by
 show a.val < (Pn.succ H.nx).val
 rw [Pn.succ_val]; exact Nat.lt_succ_of_lt h
theorem has_put {H : AH} {a x : Pn} {b : AB} (h : H.has x) : (H.put a b).has x := h
theorem has_del {H : AH} {a x : Pn} (h : H.has x) : (H.del a).has x := h
structure Le (H H' : AH) : Prop where
 has : ∀ a, H.has a → H'.has a
 get : ∀ a, H.has a → H'.get a = H.get a
theorem Le.refl (H : AH) : Le H H := ⟨fun _ h => h, fun _ _ => rfl⟩
theorem Le.trans {A B C : AH} (h : Le A B) (k : Le B C) : Le A C := ⟨fun a ha => k.has a (h.has a ha), fun a ha => (k.get a (h.has a ha)).trans (h.get a ha)⟩
theorem Le.new (H : AH) (b : AB) : Le H (H.new b) := ⟨fun _ h => has_new h, fun _ h => get_new_has h⟩
theorem Le.put {H H' : AH} (h : Le H H') {a : Pn} (ha : ¬ H.has a) (b : AB) : Le H (H'.put a b) :=
 ⟨fun x hx => h.has x hx, fun x hx => (get_put_ne (fun e => ha (by rw [← e]; exact hx))).trans (h.get x hx)⟩
theorem Le.del {H H' : AH} (h : Le H H') {a : Pn} (ha : ¬ H.has a) : Le H (H'.del a) :=
 ⟨fun x hx => h.has x hx, fun x hx => (get_del_ne (fun e => ha (by rw [← e]; exact hx))).trans (h.get x hx)⟩
theorem not_has_nx (H : AH) : ¬ H.has H.nx := Nat.lt_irrefl _
theorem Le.nx {H H' : AH} (h : Le H H') : ¬ H.has H'.nx := fun hx => not_has_nx H' (h.has _ hx)
theorem Le.newr {H H' : AH} (h : Le H H') (b : AB) : Le H (H'.new b) := h.trans (Le.new _ _)
theorem ifA_ {b x y : Bool} (h1 : b = true → x = true) (h2 : b = false → y = true) : ifA b x y = true := by
 cases b
 ·exact h2 rfl
 ·exact h1 rfl
theorem pR_ {A B : Type} (a : A) (b : B) (f : A → B → Bool) : pR (a, b) f = f a b := rfl
theorem nilK_at (g : Pn) (o : Nat) (K : Pn → Nat → Bool) : nilK (.at g o) K = K g o := rfl
theorem natK_ {j : Int} (h : 0 ≤ j) (K : Nat → Bool) : natK j K = K j.toNat := by
 cases j with
 | ofNat m => rfl
 | negSucc m => exact absurd h (by simp)
theorem idxK_ {j : Int} {n : Nat} (h : 0 ≤ j) (h2 : j < n) (K : Nat → Bool) : idxK j n K = K j.toNat := by
 cases j with
 | ofNat m =>
  show okK (Nat.ble (Nat.succ m) n) (K m) = _
  rw [Nat.ble_eq_true_of_le (show m.succ ≤ n by simp only [Int.ofNat_eq_natCast] at h2; omega)]
  rfl
 | negSucc m => exact absurd h (by simp)
theorem rowK_row {H : AH} {a : Pn} {cs : List AS} (h : H.get a = some (.row cs)) (K : List AS → Bool) : rowK H a K = K cs := by
 unfold rowK; rw [show H.t.get a = some (.row cs) from h]
theorem rowK_fix {H : AH} {a : Pn} {cs : List AS} (h : H.get a = some (.fix cs)) (K : List AS → Bool) : rowK H a K = K cs := by
 unfold rowK; rw [show H.t.get a = some (.fix cs) from h]
theorem rowW_row {H : AH} {a : Pn} {cs : List AS} (h : H.get a = some (.row cs)) (K : List AS → Bool) : rowW H a K = K cs := by
 unfold rowW; rw [show H.t.get a = some (.row cs) from h]
theorem getK_ {H : AH} {a : Pn} {b : AB} (h : H.get a = some b) (K : AB → Bool) : getK H a K = K b := by
 unfold getK; rw [show H.t.get a = some b from h]
theorem ikEq_self (k : IntKind) : ikEq k k = true := ikEq_iff.2 rfl
theorem ldI_ {cs : List AS} {o : Nat} {k : IntKind} {n : Int} (h : cs[o]? = some (.int k n)) (K : Int → Bool) : ldI cs o k K = K n := by
 unfold ldI; rw [nth_eq, h]; show okK (ikEq k k) (K n) = _; rw [ikEq_self]; rfl
theorem ldB_ {cs : List AS} {o : Nat} {b : Bool} (h : cs[o]? = some (.bool b)) (K : Bool → Bool) : ldB cs o K = K b := by
 unfold ldB; rw [nth_eq, h]; exact fB_eq b K
theorem ldP_ {cs : List AS} {o : Nat} {p : AP} (h : cs[o]? = some (.ptr p)) (K : AP → Bool) : ldP cs o K = K p := by
 unfold ldP; rw [nth_eq, h]
theorem ldM_ {cs : List AS} {o : Nat} {p : Option Pn} (h : cs[o]? = some (.map p)) (K : Option Pn → Bool) : ldM cs o K = K p := by
 unfold ldM; rw [nth_eq, h]
theorem ldStr_ {cs : List AS} {o : Nat} {s : List Nat} (h : cs[o]? = some (.str s)) (K : List Nat → Bool) : ldStr cs o K = K s := by
 unfold ldStr; rw [nth_eq, h]
theorem ldSl_ {cs : List AS} {o : Nat} {p : AP} {n : Nat} {c : ACap} {z : Nat} (h : cs[o]? = some (.slice p n c z)) (K : AP → Nat → ACap → Nat → Bool) : ldSl cs o K = K p n c z := by
 unfold ldSl; rw [nth_eq, h]
theorem ldG_ {cs : List AS} {o m : Nat} (h : o + m ≤ cs.length) (hm : 0 < m) (K : List AS → Bool) : ldG cs o m K = K ((cs.drop o).take m) := by
 unfold ldG
 rw [fL_eq, tk_eq, dr_eq, ln_eq]
 have : Nat.beq ((cs.drop o).take m).length m = true := by
  rw [show ((cs.drop o).take m).length = m by simp; omega]; exact Nat.beq_refl m
 rw [this, show Nat.blt 0 m = true by simpa using hm]
 rfl
theorem updK_ {u : AS} : ∀ {cs : List AS} {o : Nat}, o < cs.length → ∀ K : List AS → Bool, updK cs o u K = K (cs.set o u)
 | a :: t, 0, _, K => rfl
 | a :: t, o + 1, h, K => updK_ (cs := t) (o := o) (by simpa using h) fun t => K (a :: t)
theorem sto1_ {H : AH} {a : Pn} {cs : List AS} (h : H.get a = some (.row cs)) {o : Nat} (ho : o < cs.length) (u : AS) (K : AH → Bool) : sto1 H a o u K = K (H.put a (.row (cs.set o u))) := by
 unfold sto1; rw [rowW_row h, updK_ ho, wrK_]
theorem stoN_ {H : AH} {a : Pn} {cs : List AS} (h : H.get a = some (.row cs)) {o m : Nat} {us : List AS} (hm : us.length = m) (ho : o + m ≤ cs.length) (K : AH → Bool) :
  stoN H a o m us K = K (H.put a (.row (cs.take o ++ (us ++ cs.drop (o + m))))) := by
 unfold stoN
 rw [rowW_row h, ln_eq, ln_eq, hm, Nat.beq_refl, Nat.ble_eq_true_of_le ho, fL_eq, ap_eq, ap_eq, tk_eq, dr_eq, wrK_]
 rfl
theorem w64_ {n : Int} (h1 : -9223372036854775808 ≤ n) (h2 : n ≤ 9223372036854775807) (K : Int → Bool) : w64 n K = K n := by
 rw [w64_eq, inR_wrap]
 cases n with
 | ofNat m => simp [inR, IntKind.top]; simp only [Int.ofNat_eq_natCast] at h2; omega
 | negSucc m => simp [inR, IntKind.top, IntKind.signed]; omega
theorem arI_ (k : IntKind) (n : Int) (K : Int → Bool) : arI (.s (.int k n)) k K = K n := by
 unfold arI; show okK (ikEq k k) (K n) = _; rw [ikEq_self]; rfl
theorem arB_ (b : Bool) (K : Bool → Bool) : arB (.s (.bool b)) K = K b := fB_eq b K
theorem asP_ (p : AP) (K : AP → Bool) : asP (.s (.ptr p)) K = K p := rfl
theorem asG_ (cs : List AS) (K : List AS → Bool) : asG (.agg cs) K = K cs := rfl
theorem asSl_ (p : AP) (n : Nat) (c : ACap) (z : Nat) (K : AP → Nat → ACap → Nat → Bool) : asSl (.s (.slice p n c z)) K = K p n c z := rfl
theorem tup2_ (x y : AV) (K : AV → AV → Bool) : tup2 (.tup [x, y]) K = K x y := rfl
theorem tup3_ (x y z : AV) (K : AV → AV → AV → Bool) : tup3 (.tup [x, y, z]) K = K x y z := rfl
theorem tup0_ (K : Bool) : tup0 (.tup []) K = K := rfl
theorem joinX_ {X : Type} (F : X → AH → Bool) (b : (X → AH → Bool) → Bool) : joinX F b = b F := rfl
theorem nilK_w {g : Pn} {o : Nat} {K : Pn → Nat → Bool} (hk : K g o = true) : nilK (.at g o) K = true := hk
theorem fN_w {n : Nat} {K : Nat → Bool} (hk : K n = true) : fN n K = true := by rw [fN_eq]; exact hk
theorem fI_w {n : Int} {K : Int → Bool} (hk : K n = true) : fI n K = true := by rw [fI_eq]; exact hk
theorem fL_w {α : Type} {l : List α} {K : List α → Bool} (hk : K l = true) : fL l K = true := by rw [fL_eq]; exact hk
theorem newK_w {H : AH} {b : AB} {K : Pn → AH → Bool} (hk : K H.nx (H.new b) = true) : newK H b K = true := by rw [newK_]; exact hk
theorem idxK_w {j : Int} {n : Nat} {K : Nat → Bool} (h : 0 ≤ j) (h2 : j < n) (hk : K j.toNat = true) : idxK j n K = true := by rw [idxK_ h h2]; exact hk
theorem natK_w {j : Int} {K : Nat → Bool} (h : 0 ≤ j) (hk : K j.toNat = true) : natK j K = true := by rw [natK_ h]; exact hk
theorem rowK_w {H : AH} {a : Pn} {cs : List AS} {K : List AS → Bool} (h : H.get a = some (.row cs)) (hk : K cs = true) : rowK H a K = true := by rw [rowK_row h]; exact hk
theorem rowK_wf {H : AH} {a : Pn} {cs : List AS} {K : List AS → Bool} (h : H.get a = some (.fix cs)) (hk : K cs = true) : rowK H a K = true := by rw [rowK_fix h]; exact hk
theorem getK_w {H : AH} {a : Pn} {b : AB} {K : AB → Bool} (h : H.get a = some b) (hk : K b = true) : getK H a K = true := by rw [getK_ h]; exact hk
theorem ldI_w {cs : List AS} {o : Nat} {k : IntKind} {n : Int} {K : Int → Bool} (h : cs[o]? = some (.int k n)) (hk : K n = true) : ldI cs o k K = true := by rw [ldI_ h]; exact hk
theorem ldB_w {cs : List AS} {o : Nat} {b : Bool} {K : Bool → Bool} (h : cs[o]? = some (.bool b)) (hk : K b = true) : ldB cs o K = true := by rw [ldB_ h]; exact hk
theorem ldP_w {cs : List AS} {o : Nat} {p : AP} {K : AP → Bool} (h : cs[o]? = some (.ptr p)) (hk : K p = true) : ldP cs o K = true := by rw [ldP_ h]; exact hk
theorem ldM_w {cs : List AS} {o : Nat} {p : Option Pn} {K : Option Pn → Bool} (h : cs[o]? = some (.map p)) (hk : K p = true) : ldM cs o K = true := by rw [ldM_ h]; exact hk
theorem ldStr_w {cs : List AS} {o : Nat} {p : List Nat} {K : List Nat → Bool} (h : cs[o]? = some (.str p)) (hk : K p = true) : ldStr cs o K = true := by rw [ldStr_ h]; exact hk
theorem ldSl_w {cs : List AS} {o : Nat} {p : AP} {n : Nat} {c : ACap} {z : Nat} {K : AP → Nat → ACap → Nat → Bool} (h : cs[o]? = some (.slice p n c z)) (hk : K p n c z = true) : ldSl cs o K = true := by rw [ldSl_ h]; exact hk
theorem ldG_we {cs : List AS} {o m : Nat} {K : List AS → Bool} {ys : List AS} (h : o + m ≤ cs.length) (hm : 0 < m) (he : (cs.drop o).take m = ys) (hk : K ys = true) : ldG cs o m K = true := by rw [ldG_ h hm, he]; exact hk
theorem sto1_w {H : AH} {a : Pn} {cs : List AS} {o : Nat} {u : AS} {K : AH → Bool} (h : H.get a = some (.row cs)) (ho : o < cs.length) (hk : K (H.put a (.row (cs.set o u))) = true) : sto1 H a o u K = true := by rw [sto1_ h ho]; exact hk
theorem stoN_w {H : AH} {a : Pn} {cs : List AS} {o m : Nat} {us : List AS} {K : AH → Bool} (h : H.get a = some (.row cs)) (hm : us.length = m) (ho : o + m ≤ cs.length)
  (hk : K (H.put a (.row (cs.take o ++ (us ++ cs.drop (o + m))))) = true) : stoN H a o m us K = true := by rw [stoN_ h hm ho]; exact hk
theorem stoN_we {H : AH} {a : Pn} {cs ds : List AS} {o m : Nat} {us : List AS} {K : AH → Bool} (h : H.get a = some (.row cs)) (hm : us.length = m) (ho : o + m ≤ cs.length) (he : cs.take o ++ (us ++ cs.drop (o + m)) = ds)
  (hk : K (H.put a (.row ds)) = true) : stoN H a o m us K = true := by rw [stoN_ h hm ho, he]; exact hk
theorem w64_w {n : Int} {K : Int → Bool} (h1 : -9223372036854775808 ≤ n) (h2 : n ≤ 9223372036854775807) (hk : K n = true) : w64 n K = true := by rw [w64_ h1 h2]; exact hk
theorem arI_w {k : IntKind} {n : Int} {K : Int → Bool} (hk : K n = true) : arI (.s (.int k n)) k K = true := by rw [arI_]; exact hk
theorem arB_w {b : Bool} {K : Bool → Bool} (hk : K b = true) : arB (.s (.bool b)) K = true := by rw [arB_]; exact hk
theorem okK_w {b K : Bool} (h : b = true) (hk : K = true) : okK b K = true := by rw [h]; exact hk
theorem ifA_w {b x y : Bool} (h1 : b = true → x = true) (h2 : b = false → y = true) : ifA b x y = true := ifA_ h1 h2
theorem loopX_w {X : Type} {F : (X → AH → Bool) → X → AH → Bool} {n : Nat} {x : X} {H : AH} (I : X → AH → Prop) (μ : X → Nat) (hI : I x H) (hn : μ x < n)
  (h : ∀ self x H, I x H → (∀ x' H', I x' H' → μ x' < μ x → self x' H' = true) → F self x H = true) : loopX n F x H = true := by
 induction n generalizing x H with
 | zero => omega
 | succ n ih => exact h _ x H hI fun x' H' hI' hlt => ih hI' (by omega)
def BT.find : BT → Nat → Option Body
 | .leaf f b, g => if f = g then some b else none
 | .node k l r, g => if g < k then l.find g else r.find g
theorem BT.run_find {cl : Cl} {g : Nat} {b : Body} {args : List AV} {H : AH} {K : AV → AH → Bool} : ∀ {t : BT}, t.find g = some b → t.run cl g args H K = b cl args H K
 | .leaf f b', h => by
  simp only [BT.find] at h
  split at h
  ·rename_i e
   cases h
   subst e
   show okK (Nat.beq f f) _ = _
   rw [Nat.beq_refl]; rfl
  ·cases h
 | .node k l r, h => by
  simp only [BT.find] at h
  have hr : (BT.node k l r).run cl g args H K = (Bool.casesOn (motive := fun _ => Bool) (Nat.blt g k) (r.run cl g args H K) (l.run cl g args H K)) := rfl
  rw [hr]
  split at h
  ·rename_i e
   rw [show Nat.blt g k = true by simpa using e]
   exact BT.run_find h
  ·rename_i e
   rw [show Nat.blt g k = false from by
    cases hb : Nat.blt g k
    ·rfl
    ·exact absurd (by simpa using hb) e]
   exact BT.run_find h
theorem BT.call_find {t : BT} {n g : Nat} {b : Body} {args : List AV} {H : AH} {K : AV → AH → Bool} (h : t.find g = some b) : t.call (n + 1) g args H K = b (t.call n) args H K := BT.run_find h
theorem mnA_ (x y : Int) : mnA x y = min x y := by
 unfold mnA
 rw [iLe_dec]
 by_cases h : x ≤ y
 ·simp [h, Int.min_def]
 ·simp [h, Int.min_def]
theorem mxA_ (x y : Int) : mxA x y = max x y := by
 unfold mxA
 rw [iLe_dec]
 by_cases h : y ≤ x
 ·simp [h, Int.max_def]
  intro h2; omega
 ·simp [h, Int.max_def]
  intro h2; omega
theorem ldN_w {cs ys : List AS} {o m : Nat} {K : List AS → Bool} (h : o + m ≤ cs.length) (he : (cs.drop o).take m = ys) (hk : K ys = true) : ldN cs o m K = true := by
 rw [ldN_eq0]
 unfold ldN0
 cases hm : Nat.beq m 0 with
 | true =>
  have := Nat.eq_of_beq_eq_true hm
  subst this
  have he : ys = [] := by rw [← he]; simp
  subst he
  dsimp only
  rw [ln_eq, Nat.ble_eq_true_of_le (by omega : o ≤ cs.length)]
  exact hk
 | false =>
  have : 0 < m := by
   rcases Nat.eq_zero_or_pos m with h | h
   ·rw [h] at hm; exact absurd hm (by decide)
   ·exact h
  exact ldG_we h this he hk
theorem elK_w {H : AH} {a : Pn} {o n size : Nat} {cs ys : List AS} {K : List AS → Bool} (h : H.get a = some (.row cs)) (hl : o + n * size ≤ cs.length) (he : (cs.drop o).take (n * size) = ys) (hk : K ys = true) : elK H (.at a o) n size K = true := by
 show rowK H a _ = true
 exact rowK_w h (ldN_w hl he hk)
structure Sl (H0 H : AH) (p : AP) (n z : Nat) (cs : List AS) (sz : Nat) : Prop where
 len : cs.length = n * sz
 rep : (n = 0 ∧ p = .nil) ∨ ∃ g, p = .at g 0 ∧ z = sz ∧ H.get g = some (.row cs) ∧ H.has g ∧ ¬ H0.has g
theorem Sl.nil {H0 H : AH} {z sz : Nat} : Sl H0 H .nil 0 z [] sz := ⟨by simp, .inl ⟨rfl, rfl⟩⟩
theorem Sl.mono {H0 H H' : AH} {p : AP} {n z : Nat} {cs : List AS} {sz : Nat} (h : Sl H0 H p n z cs sz) (hk : ∀ a, H.has a → ¬ H0.has a → H'.has a ∧ H'.get a = H.get a) : Sl H0 H' p n z cs sz :=
 ⟨h.len, h.rep.imp id fun ⟨g, h1, h2, h3, h4, h5⟩ => ⟨g, h1, h2, (hk g h4 h5).2.trans h3, (hk g h4 h5).1, h5⟩⟩
theorem Sl.le {H0 H H' : AH} {p : AP} {n z : Nat} {cs : List AS} {sz : Nat} (h : Sl H0 H p n z cs sz) (hk : Le H H') : Sl H0 H' p n z cs sz := h.mono fun a ha _ => ⟨hk.has a ha, hk.get a ha⟩
theorem app_w {H0 H : AH} {p : AP} {n z sz bytes m : Nat} {cs ys : List AS} {c : ACap} {K : AP → Nat → ACap → Nat → AH → Bool} (hs : Sl H0 H p n z cs sz) (hle : Le H0 H) (hy : ys.length = m * sz) (hm : 0 < m)
  (hb : (n + m) * bytes ≤ 140737488355328) (hb2 : n + m ≤ 140737488355328)
  (hk : ∀ p' c' z' H', Le H0 H' → Sl H0 H' p' (n + m) z' (cs ++ ys) sz → (∀ a, H.has a → p ≠ .at a 0 → H'.has a ∧ H'.get a = H.get a) → K p' (n + m) c' z' H' = true) : appA H p n z sz bytes ys m c K = true := by
 rw [appA_eq0]
 unfold appA0
 refine fN_w (okK_w (by rw [Nat.ble_eq_true_of_le hb, Nat.ble_eq_true_of_le hb2]; rfl) ?_)
 have hm0 : Nat.beq m 0 = false := by
  cases h : Nat.beq m 0
  ·rfl
  ·have := Nat.eq_of_beq_eq_true h; omega
 rw [hm0]
 dsimp only
 rcases hs.rep with ⟨hn, rfl⟩ | ⟨g, rfl, rfl, hg, hh, hn⟩
 ·subst hn
  have hc : cs = [] := List.length_eq_zero_iff.1 (by rw [hs.len]; simp)
  subst hc
  refine newK_w (hk _ _ _ _ (hle.newr _) ⟨by simp [hy], .inr ⟨H.nx, rfl, rfl, by rw [get_new]; rfl, has_new_self _ _, hle.nx⟩⟩ fun a ha _ => ⟨has_new ha, get_new_has ha⟩)
 ·dsimp only
  refine okK_w (Nat.beq_refl _) ?_
  rw [rowW_row hg]
  refine ldN_w (ys := cs) (by rw [hs.len]; omega) (by rw [List.drop_zero, List.take_of_length_le (by rw [hs.len]; exact Nat.le_refl _)]) ?_
  refine fL_w ?_
  rw [ap_eq, wrK_none]
  refine newK_w ?_
  have hle2 : Le H0 (H.del g) := hle.del hn
  refine hk _ _ _ _ (hle2.newr _) ⟨by rw [List.length_append, hs.len, hy, Nat.add_mul], .inr ⟨_, rfl, rfl, get_new _ _, has_new_self _ _, hle2.nx⟩⟩ fun a ha hp => ?_
  have hag : a ≠ g := fun e => hp (by rw [e])
  exact ⟨has_new (has_del ha), (get_new_has (has_del ha)).trans (get_del_ne hag)⟩
def leafy : AS → Bool
 | .int _ _ => true
 | .bool _ => true
 | .str _ => true
 | _ => false
theorem asEq_refl : ∀ {x : AS}, leafy x = true → asEq x x = true := by
 intro x h
 cases x <;> simp only [leafy, Bool.false_eq_true] at h <;> simp only [asEq]
 ·rw [ikEq_self, iEq_iff.2 rfl]; rfl
 ·simp
 ·exact sEq_iff.2 rfl
theorem aslEq_refl : ∀ {cs : List AS}, cs.all leafy = true → aslEq cs cs = true
 | [], _ => rfl
 | x :: r, h => by
  simp only [List.all_cons, Bool.and_eq_true] at h
  simp only [aslEq, asEq_refl h.1, aslEq_refl h.2]; rfl
theorem kSame_nil (H : AH) : kSame [] H = true := rfl
theorem kSame_row {S : Kept} {H : AH} {a : Pn} {cs : List AS} (hg : H.get a = some (.row cs)) (hl : cs.all leafy = true) (hs : kSame S H = true) : kSame ((a, .row cs) :: S) H = true := by
 simp only [kSame, show H.t.get a = some (.row cs) from hg, abEq, aslEq_refl hl, hs]; rfl
section
variable (cl : Cl) (H : AH) (K : AV → AH → Bool)
theorem run_p (b : Cl → AP → AH → (AV → AH → Bool) → Bool) (p) : PK.run [.ptr] b cl [.s (.ptr p)] H K = b cl p H K := rfl
theorem run_i (b : Cl → Int → AH → (AV → AH → Bool) → Bool) (n) : PK.run [.int .i64] b cl [.s (.int .i64 n)] H K = b cl n H K := rfl
theorem run_pi (b : Cl → AP → Int → AH → (AV → AH → Bool) → Bool) (p n) : PK.run [.ptr, .int .i64] b cl [.s (.ptr p), .s (.int .i64 n)] H K = b cl p n H K := rfl
end
end Go.Vw.Ev
