import Derived.Test.YtmdidmoffcinjaaGreatVwXop2
import Derived.Scope
namespace Go.Vw
open Go Go.RowKit
structure Rep (n : Nat) (ρ : Env) (a : Act) : Prop where
 size : a.tmps.size = n
 val : ∀ i, a.tmps.getD i undef = ρ i
 defers : a.defers = []
theorem Rep.eval {n : Nat} {ρ : Env} {a : Act} (h : Rep n ρ a) : a.eval = evalO ρ := by
 funext x
 cases x with
 | tmp t => exact h.val t
 | const v => rfl
 | global g => rfl
 | func f => rfl
theorem put_ex {n : Nat} {ρ : Env} {a : Act} (hr : Rep n ρ a) {d : Option Tmp} {v : Value} {K : Env → Prop} (h : put n ρ d v K) : ∃ ρ', K ρ' ∧ Rep n ρ' (a.put d v) := by
 unfold put at h
 split at h
 ·exact ⟨ρ, h, hr⟩
 ·rename_i d
  split at h
  ·rename_i hlt
   have hlt' : d < n := by simpa using hlt
   refine ⟨_, h, by simp [Act.put, hr.size], fun i => ?_, hr.defers⟩
   have hs := hr.size
   by_cases hi : i = d
   ·subst hi
    simp [Act.put, Env.put, hs, hlt']
   ·have : Nat.beq i d = false := by
     cases hx : Nat.beq i d
     ·rfl
     ·exact absurd (Nat.eq_of_beq_eq_true hx) hi
    simp only [Act.put, Env.put, this]
    rw [← hr.val i]
    simp [Array.getElem?_setIfInBounds_ne (Ne.symm hi)]
  ·exact h.elim
theorem splitV_ex {s : Bool} {v : Value} {K : Value → Prop} (h : splitV s v K) : K v := by
 unfold splitV at h
 split at h
 ·exact h
 ·split at h
  ·rename_i b
   have := bcase_if h
   cases b <;> simpa using this
  ·exact h
section
variable {P : Program} {w0 : World}
theorem guarded_cases {n : Nat} {ρ : Env} {a : Act} (hr : Rep n ρ a) {ops : Array Oper} {o : Oper} {skip go : Prop} (h : guarded ops.toList ρ o skip go) :
  (Region.wanted o (yielded ops a.tmps) = true ∧ go) ∨ (Region.wanted o (yielded ops a.tmps) = false ∧ skip) := by
 unfold guarded at h
 unfold Region.wanted
 split at h
 ·rename_i hg; exact .inl ⟨by rw [hg], h⟩
 ·rename_i j want hg
  rw [hg]
  dsimp only
  rw [Array.getElem?_toList] at h
  split at h
  ·rename_i hn
   refine .inr ⟨?_, h⟩
   simp [yielded, hn]
  ·rename_i t ht
   have hy : yielded ops a.tmps j = match ρ t with | .bool b => some b | _ => none := by
    unfold yielded
    rw [ht, ← hr.val t]
    simp only [Option.bind_some]
    cases hx : a.tmps[t]? with
    | none => simp [hx, undef]
    | some v => simp [hx]; cases v <;> rfl
   rw [hy]
   split at h
   ·rename_i b hb
    rw [hb]
    dsimp only
    have := bcase_if h
    cases hw : b == want with
    | true => rw [hw] at this; simp at this; refine .inl ⟨?_, this⟩; simpa using hw
    | false => rw [hw] at this; simp at this; refine .inr ⟨?_, this⟩; simpa using hw
   ·rename_i hb
    refine .inr ⟨?_, h⟩
    cases hv : ρ t <;> first | rfl | exact absurd hv (hb _)
theorem vStep_cases {n : Nat} {ρ : Env} {a : Act} (hr : Rep n ρ a) {ops : Array Oper} {st sx : Option Hp} {o : Oper} {K : Env → Hp → Prop} {h : Hp} {w : World} (hv : View w0 h w)
  (hs : vStep P w0 n ops.toList st sx o K ρ h) :
  (Region.wanted o (yielded ops a.tmps) = false ∧ ∃ ρ', K ρ' h ∧ Rep n ρ' (a.put o.dst undef)) ∨
  (Region.wanted o (yielded ops a.tmps) = true ∧
   ((cls P o.op = .P ∧ ∃ v, (∀ w', (execOp a.eval o).run P w' = .ok (.value v) w') ∧ ∃ ρ', K ρ' h ∧ Rep n ρ' (a.put o.dst v)) ∨
    (cls P o.op = .R ∧ ∃ v, (∀ w', KKof w0 st w w' → (execOp a.eval o).run P w' = .ok (.value v) w') ∧ ∃ ρ', K ρ' h ∧ Rep n ρ' (a.put o.dst v)) ∨
    (cls P o.op = .X ∧ sX P o a w (fun w' => ∀ h0, sx = some h0 → KeepH w0 h0 w w') (fun a' w' => ∃ ρ' h', K ρ' h' ∧ Rep n ρ' a' ∧ View w0 h' w')))) := by
 unfold vStep at hs
 rcases guarded_cases hr hs with ⟨hw, hs⟩ | ⟨hw, hs⟩
 ·refine .inr ⟨hw, ?_⟩
  cases hc : cls P o.op with
  | P =>
   rw [hc] at hs
   obtain ⟨v, hv', hk⟩ := pOp_sound hs
   exact .inl ⟨rfl, v, fun w' => by rw [hr.eval]; exact hv' w', put_ex hr (splitV_ex hk)⟩
  | R =>
   rw [hc] at hs
   obtain ⟨v, hv', hk⟩ := rOp_sound hv hs
   exact .inr (.inl ⟨rfl, v, fun w' hw' => by rw [hr.eval]; exact hv' w' hw', put_ex hr (splitV_ex hk)⟩)
  | X =>
   rw [hc] at hs
   refine .inr (.inr ⟨rfl, ?_⟩)
   refine sX_mono ?_ (xOp_sound (a := a) hv hr.eval hs)
   rintro a' w' _ ⟨v, h', rfl, hk, hv'⟩
   obtain ⟨ρ', hk', hr'⟩ := put_ex hr (splitV_ex hk)
   exact ⟨ρ', h', hk', hr', hv'⟩
 ·obtain ⟨ρ', hk, hr'⟩ := put_ex hr hs
  exact .inl ⟨hw, ρ', hk, hr'⟩
def clOf (P : Program) (xm : Nat) (ops : Array Oper) (j : Nat) : Cls := match ops[j]? with | some o => clsM P xm j o.op | none => .X
theorem vStep_sOp {xm n : Nat} {ρ : Env} {a : Act} (hr : Rep n ρ a) {ops : Array Oper} {st sx : Option Hp} {o : Oper} {K : Env → Hp → Prop} {h : Hp} {w : World} (hv : View w0 h w) {j : Nat} (hj : ops[j]? = some o)
  {kp : Nat → Bool} {Keep : World → World → Prop} (hkp : kp j = true → ∃ h0, sx = some h0 ∧ ∀ w', KeepH w0 h0 w w' → Keep w w')
  (hs : vStep P w0 n ops.toList st sx o K ρ h) : sOp P ops (clOf P xm ops) kp Keep j (fun a' w' => ∃ ρ' h', K ρ' h' ∧ Rep n ρ' a' ∧ View w0 h' w') a w := by
 have hcl : clOf P xm ops j = clsM P xm j o.op := by simp [clOf, hj]
 have self : kp j = true → Keep w w := fun hk => by
  obtain ⟨h0, _, hh⟩ := hkp hk
  exact hh w (KeepH.refl h0 w)
 have asX : ∀ {v : Value} {G : World → Prop} {K : Act → World → Prop}, (execOp a.eval o).run P w = .ok (.value v) w → G w → K (a.put o.dst v) w → sX P o a w G K := by
  intro v G K he hg hk
  unfold sX
  rw [he]
  exact ⟨hg, hk⟩
 unfold sOp
 simp only [hj]
 rcases vStep_cases hr hv hs with ⟨hw, ρ', hk, hr'⟩ | ⟨hw, h1 | h1 | h1⟩
 ·rw [if_neg (by simp [hw])]
  exact ⟨ρ', h, hk, hr', hv⟩
 ·rw [if_pos hw]
  obtain ⟨hc, v, hv', ρ', hk, hr'⟩ := h1
  rw [hcl]
  unfold clsM
  cases xm.testBit j with
  | false => dsimp only; rw [hc]; exact ⟨v, hv', ρ', h, hk, hr', hv⟩
  | true => exact asX (hv' w) self ⟨ρ', h, hk, hr', hv⟩
 ·rw [if_pos hw]
  obtain ⟨hc, v, hv', ρ', hk, hr'⟩ := h1
  rw [hcl]
  unfold clsM
  cases xm.testBit j with
  | false => dsimp only; rw [hc]; exact ⟨v, hv' w (KKof.refl _ _), ρ', h, hk, hr', hv⟩
  | true => exact asX (hv' w (KKof.refl _ _)) self ⟨ρ', h, hk, hr', hv⟩
 ·rw [if_pos hw]
  obtain ⟨hc, h1⟩ := h1
  have hm : clsM P xm j o.op = .X := by
   unfold clsM
   cases xm.testBit j <;> simp [hc]
  rw [hcl, hm]
  dsimp only
  have : ∀ {G G' : World → Prop} {K : Act → World → Prop}, (∀ w', G w' → G' w') → sX P o a w G K → sX P o a w G' K := by
   intro G G' K hG hx
   unfold sX at *
   split at hx
   ·exact ⟨hG _ hx.1, hx.2⟩
   ·exact ⟨hG _ hx.1, hx.2⟩
   ·exact Calls.mono hx (fun e w'' ⟨v, he, hg, hk⟩ => ⟨v, he, hG _ hg, hk⟩)
   ·exact hx.elim
  refine this ?_ h1
  intro w' hw' hk
  obtain ⟨h0, hsx, hh⟩ := hkp hk
  exact hh w' (hw' h0 hsx)
theorem vOps_wpOps {n : Nat} {ops : Array Oper} {Q : Exit → Env → Hp → Prop} : ∀ (l : List Oper) (k : Nat), (∀ j, l[j]? = ops[k + j]?) → ∀ (ρ : Env) (h : Hp) (a : Act) (w : World), Rep n ρ a → View w0 h w →
  vOps P w0 n ops.toList (Q .normal) l ρ h → wpOps P ops (fun e a' w' => ∃ ρ' h', Q e ρ' h' ∧ Rep n ρ' a' ∧ View w0 h' w') (List.range' k l.length) a w
 | [], k, _, ρ, h, a, w, hr, hv, hq => ⟨ρ, h, hq, hr, hv⟩
 | o :: l, k, hl, ρ, h, a, w, hr, hv, hq => by
  have h0 : ops[k]? = some o := by simpa using (hl 0).symm
  simp only [List.length_cons, List.range'_succ, wpOps_cons]
  have := vStep_sOp (xm := 0) (kp := fun _ => false) (Keep := fun _ _ => True) hr hv h0 (by simp) hq
  refine wpOp_mono ?_ (sOp_wp this)
  rintro a' w' ⟨ρ', h', hk, hr', hv'⟩
  exact vOps_wpOps l (k + 1) (fun j => by have := hl (j + 1); simpa [Nat.add_assoc, Nat.add_comm 1 j] using this) ρ' h' a' w' hr' hv' hk
theorem testBit_fold (g : Nat → Nat) : ∀ (l : List Nat) (s : Nat) (i : Nat), (l.foldl (fun s e => s ||| 2 ^ e ||| g e) s).testBit i = true → s.testBit i = true ∨ ∃ e ∈ l, e = i ∨ (g e).testBit i = true
 | [], s, i, h => .inl h
 | e :: l, s, i, h => by
  rcases testBit_fold g l _ i h with h | ⟨x, hx, h⟩
  ·simp only [Nat.testBit_or, Bool.or_eq_true] at h
   rcases h with (h | h) | h
   ·exact .inl h
   ·refine .inr ⟨e, by simp, .inl ?_⟩
    rw [Nat.testBit_two_pow] at h
    simpa using h
   ·exact .inr ⟨e, by simp, .inr h⟩
  ·exact .inr ⟨x, by simp [hx], h⟩
theorem befChk_ok (bf : List Nat) : ∀ (l : List Oper) (k : Nat), befChk bf k l = true → ∀ (j : Nat) (o : Oper), l[j]? = some o → bf.getD (k + j) 0 = (directs o).foldl (fun s e => s ||| 2 ^ e ||| bf.getD e 0) 0
 | [], k, _, j, o, h => by simp at h
 | x :: l, k, hc, 0, o, h => by
  simp at h; subst h
  simp only [befChk, Bool.and_eq_true] at hc
  exact Nat.eq_of_beq_eq_true hc.1
 | x :: l, k, hc, j + 1, o, h => by
  simp only [befChk, Bool.and_eq_true] at hc
  have := befChk_ok bf l (k + 1) hc.2 j o (by simpa using h)
  rw [← this]
  congr 1
  omega
theorem mem_directs {o : Oper} {i : Nat} : i ∈ directs o ↔ ∃ e ∈ o.after, Region.binds .any e = true ∧ e.on = i := by
 unfold directs
 rw [List.mem_filterMap]
 constructor
 ·rintro ⟨e, he, h⟩
  split at h
  ·rename_i hb; simp at h; exact ⟨e, by simpa using he, hb, h⟩
  ·cases h
 ·rintro ⟨e, he, hb, rfl⟩
  exact ⟨e, by simpa using he, by simp [hb]⟩
theorem befOk_of {ops : Array Oper} {bf : List Nat} (h : befChk bf 0 ops.toList = true) : befOk ops bf.toArray := by
 intro j oj hj i hi
 have hb := befChk_ok bf ops.toList 0 h j oj (by simpa using hj)
 simp only [Nat.zero_add] at hb
 have hg : ∀ k, bf.toArray.getD k 0 = bf.getD k 0 := fun k => by simp
 rw [hg, hb] at hi
 rcases testBit_fold _ _ _ _ hi with h | ⟨e, he, h⟩
 ·simp at h
 ·obtain ⟨x, hx, hbd, rfl⟩ := mem_directs.1 he
  exact ⟨x, hx, hbd, h.imp (fun e => e) (fun e => by rw [hg]; exact e)⟩
structure Done (ops : Array Oper) (listed : Array Bool) (done : List Nat) : Prop where
 size : listed.size = ops.size
 lt : ∀ j ∈ done, j < ops.size
 is : ∀ j, j < ops.size → listed.getD j true = done.contains j
theorem Done.listed {ops : Array Oper} {listed : Array Bool} {done : List Nat} (h : Done ops listed done) {j : Nat} (hj : j ∈ done) : listed.getD j false = true := by
 have hl := h.lt j hj
 have h1 := h.is j hl
 have h2 : listed.getD j false = listed.getD j true := by simp [h.size, hl]
 rw [h2, h1]
 simpa using hj
theorem Done.un {ops : Array Oper} {listed : Array Bool} {done : List Nat} (h : Done ops listed done) {j : Nat} (hj : listed.getD j true = false) : j < ops.size ∧ j ∉ done := by
 have hl : j < ops.size := by
  rcases Nat.lt_or_ge j ops.size with h' | h'
  ·exact h'
  ·have : listed.size ≤ j := by rw [h.size]; exact h'
   simp [Array.getElem?_eq_none this] at hj
 refine ⟨hl, fun hm => ?_⟩
 have := h.is j hl
 rw [hj] at this
 simp [hm] at this
theorem Done.step {ops : Array Oper} {listed : Array Bool} {done : List Nat} (h : Done ops listed done) {i : Nat} (hi : i < ops.size) : Done ops (listed.setIfInBounds i true) (i :: done) := by
 refine ⟨by simp [h.size], ?_, fun j hj => ?_⟩
 ·intro j hj
  rcases List.mem_cons.1 hj with rfl | hj
  ·exact hi
  ·exact h.lt j hj
 ·by_cases hij : j = i
  ·subst hij; simp [h.size, hi]
  ·rw [getD_set_ne true (Ne.symm hij), h.is j hj]
   simp [hij]
theorem ready_un {ops : Array Oper} {listed : Array Bool} {done : List Nat} (hd : Done ops listed done) {j : Nat} (hj : j ∈ Region.ready .any ops listed) {oj : Oper} (hoj : ops[j]? = some oj) (hne : (directs oj).any (fun e => !done.contains e) = true) : False := by
 obtain ⟨hun, oj', hoj', hal⟩ := mem_ready.1 hj
 rw [hoj] at hoj'
 cases hoj'
 obtain ⟨e, he, hne⟩ := List.any_eq_true.1 hne
 obtain ⟨x, hx, hbd, rfl⟩ := mem_directs.1 he
 have h3 := hal x hx hbd
 have hlt : x.on < listed.size := by
  rcases Nat.lt_or_ge x.on listed.size with h' | h'
  ·exact h'
  ·simp [Array.getElem?_eq_none h'] at h3
 have h4 := hd.is x.on (by rw [← hd.size]; exact hlt)
 have h5 : listed.getD x.on true = listed.getD x.on false := by simp [hlt]
 rw [h5, h3] at h4
 rw [← h4] at hne
 simp at hne
theorem isX_pos {P : Program} {xm : Nat} {ops : Array Oper} : ∀ {t : Ordr}, isX P xm ops t = true → 0 < t.elems.length ∧ ∃ i, i ∈ t.heads
 | .op i r, _ => ⟨by simp [Ordr.elems], i, by simp [Ordr.heads]⟩
 | .both x y, h => by
  simp only [isX, Bool.and_eq_true] at h
  obtain ⟨h1, i, hi⟩ := isX_pos h.1
  exact ⟨h1, i, by simp [Ordr.heads, hi]⟩
theorem vDraw_anyS {xm n : Nat} {ops : Array Oper} {Q : Exit → Env → Hp → Prop} {h0 : Hp} {bf : List Nat} {kp st : Nat} (hb : befOk ops bf.toArray) (hsel : Region.noSelect ops = true) :
  ∀ (t : Ordr) (sib done : List Nat) (listed : Array Bool) (ρ : Env) (h : Hp) (a : Act) (w : World), ordChk P xm ops bf kp st sib done t = true → Done ops listed done → closed bf.toArray listed →
   (∀ j, j < ops.size → j ∈ done ∨ j ∈ t.elems) → Rep n ρ a → View w0 h w → vDraw P w0 n ops.toList kp st h0 (Q .normal) t ρ h →
   (sib = [] → anyS P ops (clOf P xm ops) kp.testBit (KeepH w0 h0) (fun e a' w' => ∃ ρ' h', Q e ρ' h' ∧ Rep n ρ' a' ∧ View w0 h' w') t.elems.length listed a w) ∧
   (isX P xm ops t = true → (∀ i ∈ t.heads, i ∈ Region.ready .any ops listed ∧ sOp P ops (clOf P xm ops) kp.testBit (KeepH w0 h0) i (anyS P ops (clOf P xm ops) kp.testBit (KeepH w0 h0) (fun e a' w' => ∃ ρ' h', Q e ρ' h' ∧ Rep n ρ' a' ∧ View w0 h' w') (t.elems.length - 1) (listed.setIfInBounds i true)) a w) ∧
    ∀ j ∈ Region.ready .any ops listed, j ∈ t.heads ∨ j ∈ sib)
 | .nil, sib, done, listed, ρ, h, a, w, _, hd, _, hall, hr, hv, hq => by
  refine ⟨fun _ => ⟨?_, ρ, h, hq, hr, hv⟩, fun hx => Bool.noConfusion hx⟩
  apply List.eq_nil_iff_forall_not_mem.2
  intro j hj
  obtain ⟨hun, _⟩ := mem_ready.1 hj
  obtain ⟨hl, hnd⟩ := hd.un hun
  rcases hall j hl with hx | hx
  ·exact hnd hx
  ·cases hx
 | .both x y, sib, done, listed, ρ, h, a, w, hc, hd, hcl, hall, hr, hv, hq => by
  unfold ordChk at hc
  simp only [Bool.and_eq_true, List.all_eq_true] at hc
  obtain ⟨⟨⟨⟨⟨hx, hy⟩, hsub⟩, hlen⟩, c1⟩, c2⟩ := hc
  have hlen := Nat.eq_of_beq_eq_true hlen
  unfold vDraw at hq
  obtain ⟨x1, x2⟩ := (vDraw_anyS (xm := xm) (n := n) (Q := Q) (h0 := h0) hb hsel x _ done listed ρ h a w c1 hd hcl hall hr hv hq.1).2 hx
  obtain ⟨y1, y2⟩ := (vDraw_anyS (xm := xm) (n := n) (Q := Q) (h0 := h0) hb hsel y _ done listed ρ h a w c2 hd hcl (fun j hj => (hall j hj).imp id fun hm => by simpa using hsub j hm) hr hv hq.2).2 hy
  have heads : ∀ i ∈ x.heads ++ y.heads, i ∈ Region.ready .any ops listed ∧ sOp P ops (clOf P xm ops) kp.testBit (KeepH w0 h0) i (anyS P ops (clOf P xm ops) kp.testBit (KeepH w0 h0) (fun e a' w' => ∃ ρ' h', Q e ρ' h' ∧ Rep n ρ' a' ∧ View w0 h' w') (x.elems.length - 1) (listed.setIfInBounds i true)) a w := by
   intro i hi
   rcases List.mem_append.1 hi with hi | hi
   ·exact x1 i hi
   ·rw [hlen]; exact y1 i hi
  have cover : ∀ j ∈ Region.ready .any ops listed, j ∈ x.heads ++ y.heads ∨ j ∈ sib := by
   intro j hj
   rcases x2 j hj with h1 | h1
   ·exact .inl (List.mem_append.2 (.inl h1))
   ·rcases List.mem_append.1 h1 with h1 | h1
    ·exact .inr h1
    ·exact .inl (List.mem_append.2 (.inr h1))
  refine ⟨fun hs => ?_, fun _ => ⟨heads, cover⟩⟩
  obtain ⟨hpos, i0, hi0⟩ := isX_pos hx
  show anyS P ops (clOf P xm ops) kp.testBit (KeepH w0 h0) _ x.elems.length listed a w
  rw [show x.elems.length = (x.elems.length - 1) + 1 by omega]
  refine ⟨fun h1 => ?_, fun i hi => ?_⟩
  ·have := (x1 i0 hi0).1
   rw [h1] at this
   cases this
  ·rcases cover i hi with h1 | h1
   ·exact (heads i h1).2
   ·rw [hs] at h1; cases h1
 | .op i rest, sib, done, listed, ρ, h, a, w, hc, hd, hcl, hall, hr, hv, hq => by
  unfold ordChk at hc
  unfold vDraw at hq
  rw [Array.getElem?_toList] at hq
  split at hc
  ·cases hc
  ·rename_i oi hoi
   simp only [hoi] at hq
   simp only [Bool.and_eq_true, Bool.not_eq_true', List.all_eq_true] at hc
   obtain ⟨⟨⟨hnd, hdir⟩, hcls⟩, hrest⟩ := hc
   have hil : i < ops.size := (Array.getElem?_eq_some_iff.1 hoi).1
   have hready : i ∈ Region.ready .any ops listed := by
    refine mem_ready.2 ⟨by rw [hd.is i hil]; exact hnd, oi, hoi, fun e he hbd => ?_⟩
    have := hdir e.on (mem_directs.2 ⟨e, he, hbd, rfl⟩)
    exact hd.listed (by simpa using this)
   have hall' : ∀ j, j < ops.size → j ∈ i :: done ∨ j ∈ rest.elems := by
    intro j hj
    rcases hall j hj with hx | hx
    ·exact .inl (by simp [hx])
    ·rcases List.mem_cons.1 hx with rfl | hx
     ·exact .inl (by simp)
     ·exact .inr hx
   have inrest : ∀ j, j ≠ i → listed.getD j true = false → j ∈ rest.elems := by
    intro j hji hun
    obtain ⟨hl, hnd'⟩ := hd.un hun
    rcases hall j hl with hx | hx
    ·exact absurd hx hnd'
    ·rcases List.mem_cons.1 hx with hx | hx
     ·exact absurd hx hji
     ·exact hx
   have hd' := hd.step hil
   have hcl' := closed_set hb hcl hready
   have ih := fun ρ h a w c d e f g k l => (vDraw_anyS (xm := xm) (n := n) (Q := Q) (h0 := h0) (kp := kp) (st := st) hb hsel rest [] (i :: done) (listed.setIfInBounds i true) ρ h a w c d e f g k l).1 rfl
   have hsel' := fun j o cs b hj => Region.noSelect_spec hsel j o cs b hj
   have hclo : clOf P xm ops i = clsM P xm i oi.op := by simp [clOf, hoi]
   have hg : ∀ k, bf.toArray.getD k 0 = bf.getD k 0 := fun k => by simp
   have first : ∀ (v : Value) (KK : World → World → Prop), ((clsM P xm i oi.op = .P ∧ KK = fun _ _ => True) ∨ clsM P xm i oi.op = .R) → (∀ w, KK w w) →
     (∀ j ∈ rest.elems, ∀ oj, ops[j]? = some oj → (bf.getD j 0).testBit i = false → oi.apart ops oj = true ∧ ∀ w w', stepRel (clOf P xm ops) kp.testBit (KeepH w0 h0) j w w' → ∀ w'', KK w' w'' → KK w w'') →
     Yd P ops oi v KK a w → (∃ ρ', vDraw P w0 n ops.toList kp st h0 (Q .normal) rest ρ' h ∧ Rep n ρ' (a.put oi.dst v)) →
     anyS P ops (clOf P xm ops) kp.testBit (KeepH w0 h0) (fun e a' w' => ∃ ρ' h', Q e ρ' h' ∧ Rep n ρ' a' ∧ View w0 h' w') (rest.elems.length + 1) listed a w := by
    intro v KK hcc hrefl hfree hy ⟨ρ', hk, hr'⟩
    refine anyS_first hb hoi hsel' (by rw [hclo]; exact hcc) hrefl rest.elems.length listed a w hcl ?_ hready hy (ih ρ' h _ w hrest hd' hcl' hall' hr' hv hk)
    intro j oj hoj hji hun hnb
    exact hfree j (inrest j hji hun) oj hoj (by rw [← hg]; exact hnb)
   have acts : clsM P xm i oi.op = .X → (∀ j ∈ Region.ready .any ops listed, j = i ∨ j ∈ sib) ∧ sOp P ops (clOf P xm ops) kp.testBit (KeepH w0 h0) i (anyS P ops (clOf P xm ops) kp.testBit (KeepH w0 h0) (fun e a' w' => ∃ ρ' h', Q e ρ' h' ∧ Rep n ρ' a' ∧ View w0 h' w') rest.elems.length (listed.setIfInBounds i true)) a w := by
    intro hcc
    rw [hcc] at hcls
    refine ⟨fun j hj => ?_, ?_⟩
    ·obtain ⟨hun, oj, hoj, _⟩ := mem_ready.1 hj
     refine Decidable.byContradiction fun hji => ?_
     have hji1 : j ≠ i := fun e => hji (.inl e)
     have := (List.all_eq_true.1 hcls) j (inrest j hji1 hun)
     rw [hoj] at this
     rcases Bool.or_eq_true _ _ ▸ this with h1 | h1
     ·exact hji (.inr (by simpa using h1))
     ·exact ready_un hd hj hoj h1
    ·refine sOp_mono ?_ (vStep_sOp (kp := kp.testBit) (Keep := KeepH w0 h0) hr hv hoi ?_ hq)
     ·rintro a' w' ⟨ρ', h', hk, hr', hv'⟩
      exact ih ρ' h' a' w' hrest hd' hcl' hall' hr' hv' hk
     ·intro hk
      exact ⟨h0, by rw [hk], fun _ hh => hh⟩
   refine ⟨fun hs => ?_, fun hx => ?_⟩
   case refine_2 =>
    have hcc : clsM P xm i oi.op = .X := by
     simp only [isX, hoi] at hx
     split at hx
     ·assumption
     ·exact Bool.noConfusion hx
    obtain ⟨g1, g2⟩ := acts hcc
    refine ⟨fun j hj => ?_, fun j hj => ?_⟩
    ·simp only [Ordr.heads, List.mem_singleton] at hj
     subst hj
     exact ⟨hready, by simpa [Ordr.elems] using g2⟩
    ·simpa [Ordr.heads] using g1 j hj
   subst hs
   have only : clsM P xm i oi.op = .X → anyS P ops (clOf P xm ops) kp.testBit (KeepH w0 h0) (fun e a' w' => ∃ ρ' h', Q e ρ' h' ∧ Rep n ρ' a' ∧ View w0 h' w') (rest.elems.length + 1) listed a w := by
    intro hcc
    obtain ⟨g1, g2⟩ := acts hcc
    exact anyS_only (fun j hj => by simpa using g1 j hj) hready g2
   show anyS P ops (clOf P xm ops) kp.testBit (KeepH w0 h0) _ (rest.elems.length + 1) listed a w
   rcases vStep_cases hr hv hq with ⟨hw, ρ', hk, hr'⟩ | ⟨hw, h1 | h1 | h1⟩
   ·-- passed over
    cases hcc : clsM P xm i oi.op with
    | P =>
     rw [hcc] at hcls
     refine first undef (fun _ _ => True) (.inl ⟨hcc, rfl⟩) (fun _ => trivial) ?_ (.inr ⟨hw, rfl⟩) ⟨ρ', hk, hr'⟩
     intro j hj oj hoj hnb
     have := (List.all_eq_true.1 hcls) j hj
     rw [hnb, hoj] at this
     exact ⟨by simpa using this, fun _ _ _ _ _ => trivial⟩
    | R =>
     rw [hcc] at hcls
     refine first undef (KKof w0 (match st.testBit i with | true => some h0 | false => none)) (.inr hcc) (fun _ => KKof.refl _ _) ?_ (.inr ⟨hw, rfl⟩) ⟨ρ', hk, hr'⟩
     intro j hj oj hoj hnb
     have := (List.all_eq_true.1 hcls) j hj
     rw [hnb, hoj] at this
     simp only [Bool.false_or, Bool.and_eq_true] at this
     refine ⟨this.1, fun w w' hs w'' hk => ?_⟩
     have hcj : clOf P xm ops j = clsM P xm j oj.op := by simp [clOf, hoj]
     cases hcx : clsM P xm j oj.op with
     | X =>
      have h2 := this.2
      rw [hcx] at h2
      simp only [Bool.and_eq_true] at h2
      rw [h2.2] at hk ⊢
      rcases hs.2 h2.1 with rfl | hkk
      ·exact hk
      ·exact KeepH.trans hkk hk
     | P => rw [hs.1 (by rw [hcj, hcx]; simp)] at hk; exact hk
     | R => rw [hs.1 (by rw [hcj, hcx]; simp)] at hk; exact hk
    | X => exact only hcc
   ·obtain ⟨hcc0, v, hv', hk⟩ := h1
    cases hxm : xm.testBit i with
    | true => exact only (by unfold clsM; rw [hxm])
    | false =>
    have hcc : clsM P xm i oi.op = .P := by unfold clsM; rw [hxm]; exact hcc0
    rw [hcc] at hcls
    refine first v (fun _ _ => True) (.inl ⟨hcc, rfl⟩) (fun _ => trivial) ?_ (.inl ⟨hw, fun w' _ => hv' w'⟩) hk
    intro j hj oj hoj hnb
    have := (List.all_eq_true.1 hcls) j hj
    rw [hnb, hoj] at this
    exact ⟨by simpa using this, fun _ _ _ _ _ => trivial⟩
   ·obtain ⟨hcc0, v, hv', hk⟩ := h1
    cases hxm : xm.testBit i with
    | true => exact only (by unfold clsM; rw [hxm])
    | false =>
    have hcc : clsM P xm i oi.op = .R := by unfold clsM; rw [hxm]; exact hcc0
    rw [hcc] at hcls
    refine first v (KKof w0 (match st.testBit i with | true => some h0 | false => none)) (.inr hcc) (fun _ => KKof.refl _ _) ?_ (.inl ⟨hw, fun w' hw' => hv' w' hw'⟩) hk
    intro j hj oj hoj hnb
    have := (List.all_eq_true.1 hcls) j hj
    rw [hnb, hoj] at this
    simp only [Bool.false_or, Bool.and_eq_true] at this
    refine ⟨this.1, fun w w' hs w'' hk => ?_⟩
    have hcj : clOf P xm ops j = clsM P xm j oj.op := by simp [clOf, hoj]
    cases hcx : clsM P xm j oj.op with
    | X =>
     have h2 := this.2
     rw [hcx] at h2
     simp only [Bool.and_eq_true] at h2
     rw [h2.2] at hk ⊢
     rcases hs.2 h2.1 with rfl | hkk
     ·exact hk
     ·exact KeepH.trans hkk hk
    | P => rw [hs.1 (by rw [hcj, hcx]; simp)] at hk; exact hk
    | R => rw [hs.1 (by rw [hcj, hcx]; simp)] at hk; exact hk
   ·exact only (by unfold clsM; cases xm.testBit i <;> simp [h1.1])
end
end Go.Vw
