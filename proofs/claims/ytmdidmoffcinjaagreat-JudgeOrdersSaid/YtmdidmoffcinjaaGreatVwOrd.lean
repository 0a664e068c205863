import Derived.Orders
import Derived.Below
namespace Go.Vw
open Go
inductive Cls where
 | P | R | X
 deriving DecidableEq
def sX (P : Program) (o : Oper) (a : Act) (w : World) (G : World → Prop) (K : Act → World → Prop) : Prop :=
 match (execOp a.eval o).run P w with
 | .ok (.value v) w' => G w' ∧ K (a.put o.dst v) w'
 | .ok .skip w' => G w' ∧ K (a.put o.dst undef) w'
 | .ok (.enter f args) w' => Calls P f args w' (fun e w'' => ∃ v, e = .returned v ∧ G w'' ∧ K (a.put o.dst v) w'')
 | _ => False
section
variable (P : Program) (ops : Array Oper) (cl : Nat → Cls) (kp : Nat → Bool) (Keep : World → World → Prop) (Q : Exit → Act → World → Prop)
def sOp (j : Nat) (K : Act → World → Prop) (a : Act) (w : World) : Prop :=
 match ops[j]? with
 | none => False
 | some o =>
  if Region.wanted o (yielded ops a.tmps) then
   match cl j with
   | .P => ∃ v, (∀ w', (execOp a.eval o).run P w' = .ok (.value v) w') ∧ K (a.put o.dst v) w
   | .R => ∃ v, (execOp a.eval o).run P w = .ok (.value v) w ∧ K (a.put o.dst v) w
   | .X => sX P o a w (fun w' => kp j = true → Keep w w') K
  else K (a.put o.dst undef) w
def stepRel (j : Nat) (w w' : World) : Prop := (cl j ≠ .X → w' = w) ∧ (kp j = true → w' = w ∨ Keep w w')
variable {P ops cl kp Keep Q}
theorem sX_mono {o : Oper} {a : Act} {w : World} {G : World → Prop} {K K' : Act → World → Prop} (h : ∀ a' w', G w' → K a' w' → K' a' w')
  (hh : sX P o a w G K) : sX P o a w G K' := by
 unfold sX at *
 split at hh
 ·exact ⟨hh.1, h _ _ hh.1 hh.2⟩
 ·exact ⟨hh.1, h _ _ hh.1 hh.2⟩
 ·exact Calls.mono hh (fun e w'' ⟨v, he, hg, hk⟩ => ⟨v, he, hg, h _ _ hg hk⟩)
 ·exact hh.elim
theorem sOp_mono {j : Nat} {K K' : Act → World → Prop} {a : Act} {w : World} (h : ∀ a' w', K a' w' → K' a' w')
  (hh : sOp P ops cl kp Keep j K a w) : sOp P ops cl kp Keep j K' a w := by
 unfold sOp at *
 split at hh
 ·exact hh.elim
 ·split at hh
  ·rename_i hw
   rw [if_pos hw]
   cases hc : cl j <;> simp only [hc] at hh ⊢
   ·obtain ⟨v, h1, h2⟩ := hh; exact ⟨v, h1, h _ _ h2⟩
   ·obtain ⟨v, h1, h2⟩ := hh; exact ⟨v, h1, h _ _ h2⟩
   ·exact sX_mono (fun _ _ _ k => h _ _ k) hh
  ·rename_i hw
   rw [if_neg hw]
   exact h _ _ hh
theorem sOp_wp {j : Nat} {K : Act → World → Prop} {a : Act} {w : World} (h : sOp P ops cl kp Keep j K a w) : wpOp P ops Q j K a w := by
 unfold sOp at h
 unfold wpOp
 split at h
 ·exact h.elim
 ·rename_i o ho
  simp only [ho]
  split at h
  ·rename_i hw
   rw [if_pos hw]
   refine .inl ?_
   unfold Oper.wp
   split at h
   ·obtain ⟨v, h1, h2⟩ := h; rw [h1 w]; exact h2
   ·obtain ⟨v, h1, h2⟩ := h; rw [h1]; exact h2
   ·unfold sX at h
    split at h
    ·rename_i e; rw [e]; exact h.2
    ·rename_i e; rw [e]; exact h.2
    ·rename_i e; rw [e]
     refine Calls.mono h ?_
     rintro e w'' ⟨v, rfl, _, hk⟩
     exact hk
    ·exact h.elim
  ·rename_i hw; rw [if_neg hw]; exact h
variable (P ops cl kp Keep Q)
def anyS : Nat → Array Bool → Act → World → Prop
 | 0, listed, a, w => Region.ready .any ops listed = [] ∧ Q .normal a w
 | fuel + 1, listed, a, w =>
  (Region.ready .any ops listed = [] → Q .normal a w) ∧
  ∀ i ∈ Region.ready .any ops listed, sOp P ops cl kp Keep i (anyS fuel (listed.setIfInBounds i true)) a w
variable {P ops cl kp Keep Q}
theorem anyS_wpAny : ∀ (fuel : Nat) (listed : Array Bool) (a : Act) (w : World), anyS P ops cl kp Keep Q fuel listed a w → wpAny P .any ops Q fuel listed a w := by
 intro fuel
 induction fuel with
 | zero => exact fun listed a w h => h
 | succ fuel ih => exact fun listed a w h => ⟨h.1, fun i hi => sOp_wp (sOp_mono (fun a' w' => ih _ a' w') (h.2 i hi))⟩
def Yd (P : Program) (ops : Array Oper) (oi : Oper) (v : Value) (KK : World → World → Prop) (a : Act) (w : World) : Prop :=
 (Region.wanted oi (yielded ops a.tmps) = true ∧ ∀ w', KK w w' → (execOp a.eval oi).run P w' = .ok (.value v) w') ∨
 (Region.wanted oi (yielded ops a.tmps) = false ∧ v = undef)
theorem sOp_put {j : Nat} {oi oj : Oper} {v : Value} (hj : ops[j]? = some oj) (hap : oi.apart ops oj = true)
  (hsi : ∀ cs b, oi.op ≠ .select cs b) (hsj : ∀ cs b, oj.op ≠ .select cs b) {K : Act → World → Prop} {a : Act} {w : World} {KK : World → World → Prop}
  (hy : Yd P ops oi v KK a w) (h : sOp P ops cl kp Keep j K (a.put oi.dst v) w)
  (hKK : ∀ w', stepRel cl kp Keep j w w' → ∀ w'', KK w' w'' → KK w w'') :
  sOp P ops cl kp Keep j (fun a' w' => Yd P ops oi v KK a' w' ∧ stepRel cl kp Keep j w w' ∧ K (a'.put oi.dst v) w') a w := by
 obtain ⟨h1, h2, h3⟩ := Oper.apart_spec hap
 have keep : ∀ u w', stepRel cl kp Keep j w w' → Yd P ops oi v KK (a.put oj.dst u) w' := by
  intro u w' hs
  unfold Yd at *
  rw [execOp_put oi hsi a oj.dst u h3, wanted_put oi a oj.dst u h3]
  rcases hy with ⟨hw, hr⟩ | hn
  ·exact .inl ⟨hw, fun w'' hk => hr w'' (hKK w' hs w'' hk)⟩
  ·exact .inr hn
 have sr : ∀ u : Value, ∀ w', stepRel cl kp Keep j w w' → K ((a.put oi.dst v).put oj.dst u) w' →
   Yd P ops oi v KK (a.put oj.dst u) w' ∧ stepRel cl kp Keep j w w' ∧ K ((a.put oj.dst u).put oi.dst v) w' :=
  fun u w' hs hk => ⟨keep u w' hs, hs, by rw [← Act.put_comm a v u h2]; exact hk⟩
 have same : stepRel cl kp Keep j w w := ⟨fun _ => rfl, fun _ => .inl rfl⟩
 unfold sOp at *
 simp only [hj] at *
 rw [wanted_put oj a oi.dst v h1, execOp_put oj hsj a oi.dst v h1] at h
 split at h
 ·rename_i hw
  rw [if_pos hw]
  cases hc : cl j with
  | P =>
   simp only [hc] at h ⊢
   obtain ⟨u, hu, hk⟩ := h
   exact ⟨u, hu, sr u w same hk⟩
  | R =>
   simp only [hc] at h ⊢
   obtain ⟨u, hu, hk⟩ := h
   exact ⟨u, hu, sr u w same hk⟩
  | X =>
   simp only [hc] at h ⊢
   unfold sX at *
   rw [execOp_put oj hsj a oi.dst v h1] at h
   split at h
   ·rename_i u w' _
    exact ⟨h.1, sr u w' ⟨fun hx => absurd hc hx, fun hk => .inr (h.1 hk)⟩ h.2⟩
   ·rename_i w' _
    exact ⟨h.1, sr undef w' ⟨fun hx => absurd hc hx, fun hk => .inr (h.1 hk)⟩ h.2⟩
   ·refine Calls.mono h ?_
    rintro e w'' ⟨u, he, hg, hk⟩
    exact ⟨u, he, hg, sr u w'' ⟨fun hx => absurd hc hx, fun hk => .inr (hg hk)⟩ hk⟩
   ·exact h.elim
 ·rename_i hw
  rw [if_neg hw]
  exact sr undef w same h
def befOk (ops : Array Oper) (bf : Array Nat) : Prop :=
 ∀ (j : Nat) (oj : Oper), ops[j]? = some oj → ∀ i, (bf.getD j 0).testBit i = true → ∃ e ∈ oj.after, Region.binds .any e = true ∧ (e.on = i ∨ (bf.getD e.on 0).testBit i = true)
def closed (bf : Array Nat) (listed : Array Bool) : Prop := ∀ j, listed.getD j false = true → ∀ i, (bf.getD j 0).testBit i = true → listed.getD i false = true
theorem closed_ready {bf : Array Nat} {listed : Array Bool} (hb : befOk ops bf) (hc : closed bf listed) {j : Nat} (hj : j ∈ Region.ready .any ops listed) :
  ∀ i, (bf.getD j 0).testBit i = true → listed.getD i false = true := by
 obtain ⟨_, oj, hoj, hall⟩ := mem_ready.1 hj
 intro i hi
 obtain ⟨e, he, hbd, h⟩ := hb j oj hoj i hi
 rcases h with rfl | h
 ·exact hall e he hbd
 ·exact hc e.on (hall e he hbd) i h
theorem closed_set {bf : Array Nat} {listed : Array Bool} (hb : befOk ops bf) (hc : closed bf listed) {j : Nat} (hj : j ∈ Region.ready .any ops listed) :
  closed bf (listed.setIfInBounds j true) := by
 intro k hk i hi
 refine getD_set_true ?_
 by_cases hjk : j = k
 ·subst hjk; exact closed_ready hb hc hj i hi
 ·rw [getD_set_ne false hjk] at hk
  exact hc k hk i hi
theorem anyS_first {bf : Array Nat} (hb : befOk ops bf) {i : Nat} {oi : Oper} {v : Value} {KK : World → World → Prop} (hi : ops[i]? = some oi)
  (hsel : ∀ (j : Nat) (o : Oper) cs b, ops[j]? = some o → o.op ≠ .select cs b)
  (hcl : (cl i = .P ∧ KK = fun _ _ => True) ∨ cl i = .R) (hrefl : ∀ w, KK w w) :
  ∀ (fuel : Nat) (listed : Array Bool) (a : Act) (w : World), closed bf listed →
   (∀ j oj, ops[j]? = some oj → j ≠ i → listed.getD j true = false → (bf.getD j 0).testBit i = false → oi.apart ops oj = true ∧ ∀ w w', stepRel cl kp Keep j w w' → ∀ w'', KK w' w'' → KK w w'') →
   i ∈ Region.ready .any ops listed → Yd P ops oi v KK a w →
   anyS P ops cl kp Keep Q fuel (listed.setIfInBounds i true) (a.put oi.dst v) w → anyS P ops cl kp Keep Q (fuel + 1) listed a w := by
 have here : ∀ {K : Act → World → Prop} {a : Act} {w : World}, Yd P ops oi v KK a w → K (a.put oi.dst v) w → sOp P ops cl kp Keep i K a w := by
  intro K a w hy hk
  unfold sOp
  simp only [hi]
  rcases hy with ⟨hw, hr⟩ | ⟨hw, rfl⟩
  ·rw [if_pos hw]
   rcases hcl with ⟨hp, hKK⟩ | hp
   ·simp only [hp]; exact ⟨v, fun w' => hr w' (by rw [hKK]; trivial), hk⟩
   ·simp only [hp]; exact ⟨v, hr w (hrefl w), hk⟩
  ·rw [if_neg (by simp [hw])]; exact hk
 intro fuel
 induction fuel with
 | zero =>
  intro listed a w _ _ hr hy H
  refine ⟨fun h => (by rw [h] at hr; cases hr), fun j hj => ?_⟩
  by_cases hji : j = i
  ·subst hji; exact here hy H
  ·have := ready_mono hj hji
   rw [H.1] at this
   cases this
 | succ fuel ih =>
  intro listed a w hcl' hfree hr hy H
  refine ⟨fun h => (by rw [h] at hr; cases hr), fun j hj => ?_⟩
  by_cases hji : j = i
  ·subst hji; exact here hy H
  ·have h1 := H.2 j (ready_mono hj hji)
   obtain ⟨hjun, oj, hoj, hall⟩ := mem_ready.1 hj
   have hi0 : listed.getD i true = false := (mem_ready.1 hr).1
   have hi1 : listed.getD i false = false := by
    rcases Nat.lt_or_ge i listed.size with h' | h'
    ·simp [h'] at hi0 ⊢; exact hi0
    ·simp [Array.getElem?_eq_none h'] at hi0
   have hnb : (bf.getD j 0).testBit i = false := by
    cases hx : (bf.getD j 0).testBit i
    ·rfl
    ·have := closed_ready hb hcl' hj i hx
     rw [hi1] at this; cases this
   obtain ⟨hap, hstep⟩ := hfree j oj hoj hji hjun hnb
   have h2 := sOp_put hoj hap (fun cs b => hsel i oi cs b hi) (fun cs b => hsel j oj cs b hoj) hy h1 (fun w' hs => hstep w w' hs)
   have hfree' : ∀ k ok, ops[k]? = some ok → k ≠ i → (listed.setIfInBounds j true).getD k true = false → (bf.getD k 0).testBit i = false →
     oi.apart ops ok = true ∧ ∀ w w', stepRel cl kp Keep k w w' → ∀ w'', KK w' w'' → KK w w'' := fun k ok hk hki hun hno => by
    refine hfree k ok hk hki ?_ hno
    by_cases hjk : j = k
    ·subst hjk; exact hjun
    ·rw [getD_set_ne true hjk] at hun; exact hun
   refine sOp_mono (fun a' w' h3 => ih (listed.setIfInBounds j true) a' w' (closed_set hb hcl' hj) hfree' (ready_mono hr (Ne.symm hji)) h3.1 ?_) h2
   rw [Array.setIfInBounds_comm _ _ hji]
   exact h3.2.2
theorem anyS_only {i fuel : Nat} {listed : Array Bool} {a : Act} {w : World} (hr : ∀ j ∈ Region.ready .any ops listed, j = i) (hi : i ∈ Region.ready .any ops listed)
  (h : sOp P ops cl kp Keep i (anyS P ops cl kp Keep Q fuel (listed.setIfInBounds i true)) a w) : anyS P ops cl kp Keep Q (fuel + 1) listed a w :=
 ⟨fun h0 => (by rw [h0] at hi; cases hi), fun j hj => by rw [hr j hj]; exact h⟩
end
end Go.Vw
