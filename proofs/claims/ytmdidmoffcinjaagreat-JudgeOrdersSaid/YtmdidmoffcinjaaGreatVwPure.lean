import Derived.Test.YtmdidmoffcinjaaGreatVwVc
import Derived.Laws.StructEq
import Derived.Laws.Slices
import Derived.Laws.Small
import Derived.Laws.Tables
import Derived.Laws.IdiomArrays
namespace Go.Vw
open Go Go.RowKit
theorem anyOf_ex {d : Option TypeDesc} {p K : Value → Prop} (h : anyOf d p K) : ∃ v, p v ∧ K v := by
 unfold anyOf at h
 split at h
 all_goals first
  | (obtain ⟨x, h1, h2⟩ := h; exact ⟨_, h1, h2⟩)
  | (obtain ⟨x, n, c, h1, h2⟩ := h; exact ⟨_, h1, h2⟩)
theorem bcase_if {b : Bool} {A B : Prop} (h : bcase b A B) : if b = true then A else B := by
 cases b <;> simpa [bcase] using h
theorem nilCk_ex {a : Option Addr} {K : Nat → Nat → Prop} (h : nilCk a K) : ∃ b o, a = some ⟨b, o, none⟩ ∧ K b o := by
 unfold nilCk at h
 split at h
 ·exact ⟨_, _, rfl, h⟩
 ·exact h.elim
theorem intOfV_ex {v : Value} {K : Int → Prop} (h : intOfV v K) : ∃ k n, v = .int k n ∧ K n := by
 unfold intOfV at h
 split at h
 ·exact ⟨_, _, rfl, h⟩
 ·exact h.elim
section
variable {P : Program}
theorem run_underlying_of {t : TypeId} {d : TypeDesc} (h : P.underlying t = some d) (w : World) : (underlying t).run P w = .ok d w := by
 simp [underlying, h]
theorem run_typeInfo_of {t : TypeId} {i : TypeInfo} (h : P.info? t = some i) (w : World) : (typeInfo t).run P w = .ok i w := by
 simp [typeInfo, h]
theorem run_sizeOf_of {t : TypeId} {i : TypeInfo} (h : P.info? t = some i) (w : World) : (sizeOf t).run P w = .ok i.size w := by
 simp [sizeOf, run_typeInfo_of h]
theorem run_zeroValue_of {t : TypeId} {v : Value} (h : (P.info? t).bind (·.zero) = some v) (w : World) : (zeroValue t).run P w = .ok v w := by
 cases hi : P.info? t with
 | none => simp [hi] at h
 | some i => simp [hi] at h; simp [zeroValue, run_typeInfo_of hi, h]
theorem addr_add (b o n : Nat) : (⟨b, o, none⟩ : Addr).add n = ⟨b, o + n, none⟩ := by
 unfold Addr.add
 split
 ·rename_i h; subst h; rfl
 ·rfl
theorem isAgg_run {t : TypeId} {d : TypeDesc} (h : P.underlying t = some d) (w : World) : (isAgg t).run P w = .ok (isAggD (some d)) w := by
 cases d <;> simp [isAgg, run_underlying_of h, isAggD]
theorem part_run {t : TypeId} {d : TypeDesc} {i : TypeInfo} (h : P.underlying t = some d) (hi : P.info? t = some i) {cs : Array Value} {off : Nat} {v : Value}
  (hv : ldv (isAggD (P.underlying t)) (fun _ => some (.old cs.toList)) 0 off i.size v) (w : World) : (part t cs off).run P w = .ok v w := by
 rw [h] at hv
 unfold part
 simp only [Sem.run_bind, isAgg_run h, Result.andThen_ok]
 cases hd : isAggD (some d) with
 | true =>
  simp only [hd, ldv] at hv
  split at hv
  ·rename_i xs
   obtain ⟨c, hc, hl, he⟩ := hv
   simp [Hp.row?] at hc
   subst hc
   simp only [if_true, Sem.run_bind, run_sizeOf_of hi, Result.andThen_ok, Sem.run_pure, Result.ok.injEq, Value.agg.injEq, and_true]
   apply Array.ext'
   rw [he]
   simp [List.take_drop]
  ·exact hv.elim
 | false =>
  simp only [hd, ldv] at hv
  obtain ⟨c, hc, he⟩ := hv
  simp [Hp.row?] at hc
  subst hc
  simp at he
  simp [he]
theorem eqGuard_none (op : BinOp) (t : TypeId) (x y : Operand) (a b : Value) (h1 : a ≠ .nilIface) (h2 : ∀ cs, a ≠ .agg cs) (w : World) : (eqGuard op t x y a b).run P w = .ok () w := by
 cases op <;> cases a <;> simp_all [eqGuard]
theorem eqGuard_agg (op : BinOp) (t : TypeId) (x y : Operand) (a b : Array Value) (h : P.eqGuardType P.depth t = false) (w : World) : (eqGuard op t x y (.agg a) (.agg b)).run P w = .ok () w := by
 cases op <;> simp_all [eqGuard]
theorem cellsEq_append : ∀ (a c b d : List Value), a.length = c.length → cellsEq (a ++ b) (c ++ d) = (cellsEq a c && cellsEq b d)
 | [], [], _, _, _ => by simp [cellsEq]
 | x :: a, y :: c, b, d, h => by simp [cellsEq, cellsEq_append a c b d (by simpa using h), Bool.and_assoc]
theorem leavesOk_len : ∀ (ls : List Leaf) (vs : List Value), leavesOk ls vs = true → vs.length = ls.length
 | [], [], _ => rfl
 | l :: ls, v :: vs, h => by simp [leavesOk] at h; simp [leavesOk_len ls vs h.2]
 | [], _ :: _, h => by simp [leavesOk] at h
 | _ :: _, [], h => by simp [leavesOk] at h
theorem leavesOk_append : ∀ (a b : List Leaf) (vs : List Value), leavesOk (a ++ b) vs = true → leavesOk a (vs.take a.length) = true ∧ leavesOk b (vs.drop a.length) = true
 | [], b, vs, h => by simpa [leavesOk] using h
 | l :: a, b, [], h => by simp [leavesOk] at h
 | l :: a, b, v :: vs, h => by
  simp [leavesOk] at h
  have := leavesOk_append a b vs h.2
  simp [leavesOk, h.1, this]
def mkV (d : Option TypeDesc) (xs : List Value) : Value := if isAggD d then .agg xs.toArray else xs.headD undef
theorem part_mkV {t : TypeId} {d : TypeDesc} {i : TypeInfo} (h : P.underlying t = some d) (hi : P.info? t = some i) {xs : List Value} {off : Nat} (hl : off + i.size ≤ xs.length)
  (h1 : isAggD (some d) = false → i.size = 1) (w : World) : (part t xs.toArray off).run P w = .ok (mkV (P.underlying t) ((xs.drop off).take i.size)) w := by
 refine part_run h hi ?_ w
 rw [h]
 unfold mkV
 cases hd : isAggD (some d) with
 | true => exact ⟨xs, rfl, hl, by simp⟩
 | false =>
  have := h1 hd
  refine ⟨xs, rfl, ?_⟩
  rw [this]
  have hlt : off < xs.length := by omega
  simp [List.take_one, hlt]
theorem eqFields_leaves {D : Nat} {lv : TypeId → Option (List Leaf)}
  (ih : ∀ t ls, lv t = some ls → ∀ xs ys, leavesOk ls xs = true → leavesOk ls ys = true → ∀ w, (Op.equalIn D t (mkV (P.underlying t) xs) (mkV (P.underlying t) ys)).run P w = .ok (cellsEq xs ys) w)
  (hd : ∀ t ls, lv t = some ls → ∃ d, P.underlying t = some d ∧ (isAggD (some d) = false → ls.length = 1)) :
  ∀ (fs : List Field) (off : Nat) (ls : List Leaf) (xs ys : List Value), fieldLeaves P lv off fs = some ls → leavesOk ls (xs.drop off) = true → leavesOk ls (ys.drop off) = true → ∀ w,
   (Op.eqFields D xs.toArray ys.toArray fs).run P w = .ok (cellsEq (xs.drop off) (ys.drop off)) w
 | [], off, ls, xs, ys, h, hx, hy, w => by
  simp [fieldLeaves] at h
  subst h
  have h1 := leavesOk_len _ _ hx
  have h2 := leavesOk_len _ _ hy
  rw [List.eq_nil_of_length_eq_zero h1, List.eq_nil_of_length_eq_zero h2]
  simp [Op.eqFields, cellsEq]
 | f :: fs, off, ls, xs, ys, h, hx, hy, w => by
  unfold fieldLeaves at h
  split at h
  ·rename_i r i hr hi
   split at h
   ·rename_i hc
    simp only [Bool.and_eq_true, bne_iff_ne] at hc
    obtain ⟨⟨hname, hoff⟩, hsz⟩ := hc
    replace hsz := Nat.eq_of_beq_eq_true hsz
    replace hoff := Nat.eq_of_beq_eq_true hoff
    split at h
    ·rename_i l hl
     simp only [Option.some.injEq] at h
     subst h
     obtain ⟨ux, vx⟩ := leavesOk_append r l _ hx
     obtain ⟨uy, vy⟩ := leavesOk_append r l _ hy
     have lx := leavesOk_len _ _ hx
     have ly := leavesOk_len _ _ hy
     simp only [List.length_drop, List.length_append] at lx ly
     obtain ⟨d, hdd, hd1⟩ := hd _ _ hr
     have hrl : r.length ≥ 0 := Nat.zero_le _
     have e1 := ih _ _ hr _ _ ux uy
     simp only [Op.eqFields, if_pos hname, Sem.run_bind, hoff]
     by_cases hz : r.length = 0 ∧ xs.length ≤ off
     ·have hne : isAggD (some d) = true := by
       cases hx' : isAggD (some d) with
       | true => rfl
       | false => have := hd1 hx'; omega
      have px : (part f.type xs.toArray off).run P w = .ok (mkV (P.underlying f.type) ((xs.drop off).take r.length)) w := by
       simp [part, isAgg_run hdd, hne, run_sizeOf_of hi, hsz, mkV, hdd, hz.1]
      have py : (part f.type ys.toArray off).run P w = .ok (mkV (P.underlying f.type) ((ys.drop off).take r.length)) w := by
       simp [part, isAgg_run hdd, hne, run_sizeOf_of hi, hsz, mkV, hdd, hz.1]
      rw [px]
      simp only [Result.andThen_ok, py, e1]
      have e2 := eqFields_leaves ih hd fs (off + r.length) l xs ys hl (by rw [← List.drop_drop]; exact vx) (by rw [← List.drop_drop]; exact vy)
      have e3 : cellsEq (xs.drop off) (ys.drop off) = (cellsEq ((xs.drop off).take r.length) ((ys.drop off).take r.length) && cellsEq (xs.drop (off + r.length)) (ys.drop (off + r.length))) := by
       rw [← List.drop_drop, ← List.drop_drop, ← cellsEq_append _ _ _ _ (by simp; omega), List.take_append_drop, List.take_append_drop]
      rw [e3]
      cases cellsEq ((xs.drop off).take r.length) ((ys.drop off).take r.length) <;> simp [e2]
     ·have px := part_mkV hdd hi (xs := xs) (off := off) (by omega) (fun hh => by rw [hsz]; exact hd1 hh) w
      have py := part_mkV hdd hi (xs := ys) (off := off) (by omega) (fun hh => by rw [hsz]; exact hd1 hh) w
      rw [hsz] at px py
      rw [px]
      simp only [Result.andThen_ok, py, e1]
      have e2 := eqFields_leaves ih hd fs (off + r.length) l xs ys hl (by rw [← List.drop_drop]; exact vx) (by rw [← List.drop_drop]; exact vy)
      have e3 : cellsEq (xs.drop off) (ys.drop off) = (cellsEq ((xs.drop off).take r.length) ((ys.drop off).take r.length) && cellsEq (xs.drop (off + r.length)) (ys.drop (off + r.length))) := by
       rw [← List.drop_drop, ← List.drop_drop, ← cellsEq_append _ _ _ _ (by simp; omega), List.take_append_drop, List.take_append_drop]
      rw [e3]
      cases cellsEq ((xs.drop off).take r.length) ((ys.drop off).take r.length) <;> simp [e2]
    ·cases h
   ·cases h
  ·cases h
def arrEq (D : Nat) (e : TypeId) (size : Nat) (xs ys : Array Value) : List Nat → Sem Bool
 | [] => pure true
 | i :: r => do
  let a ← part e xs (i * size)
  let b ← part e ys (i * size)
  let q ← Op.equalIn D e a b
  if (!q) = true then pure false else arrEq D e size xs ys r
theorem run_equalIn_array (D : Nat) (t e : TypeId) (n : Nat) (i : TypeInfo) (xs ys : Array Value) (ht : P.underlying t = some (.array n e)) (hi : P.info? e = some i) (w : World) :
  (Op.equalIn (D + 1) t (.agg xs) (.agg ys)).run P w = (arrEq D e i.size xs ys (List.range' 0 n)).run P w := by
 simp only [Op.equalIn, Sem.run_bind, run_underlying_of ht, Result.andThen_ok, run_sizeOf_of hi]
 rw [Std.Legacy.Range.forIn_eq_forIn_range']
 simp only [Std.Legacy.Range.size]
 have hn : (n - 0 + 1 - 1) / 1 = n := by omega
 rw [hn]
 generalize List.range' 0 n = l
 clear ht hn
 induction l generalizing w with
 | nil => simp [arrEq]
 | cons j l ih =>
  simp only [List.forIn_cons, arrEq, Sem.run_bind, Sem.run_ite]
  generalize (part e xs (j * i.size)).run P w = r1
  cases r1 with
  | ok a w1 =>
   simp only [Result.andThen_ok]
   generalize (part e ys (j * i.size)).run P w1 = r2
   cases r2 with
   | ok b w2 =>
    simp only [Result.andThen_ok]
    generalize (Op.equalIn D e a b).run P w2 = r3
    cases r3 with
    | ok r w3 =>
     cases r
     ·simp only [Result.andThen_ok, Bool.not_false, if_true, Sem.run_pure]
     ·simp only [Result.andThen_ok, Bool.not_true, Bool.false_eq_true, if_false, Sem.run_pure]
      exact ih w3
    | halt x w3 => simp [Result.andThen]
   | halt x w2 => simp [Result.andThen]
  | halt x w1 => simp [Result.andThen]
theorem arrEq_leaves {D : Nat} {e : TypeId} {l : List Leaf} {d : TypeDesc} {i : TypeInfo} (hdd : P.underlying e = some d) (hi : P.info? e = some i) (hsz : i.size = l.length) (hd1 : isAggD (some d) = false → l.length = 1)
  (ih : ∀ xs ys, leavesOk l xs = true → leavesOk l ys = true → ∀ w, (Op.equalIn D e (mkV (P.underlying e) xs) (mkV (P.underlying e) ys)).run P w = .ok (cellsEq xs ys) w) :
  ∀ (n k : Nat) (xs ys : List Value), leavesOk (List.replicate n l).flatten (xs.drop (k * l.length)) = true → leavesOk (List.replicate n l).flatten (ys.drop (k * l.length)) = true → ∀ w,
   (arrEq D e i.size xs.toArray ys.toArray (List.range' k n)).run P w = .ok (cellsEq (xs.drop (k * l.length)) (ys.drop (k * l.length))) w
 | 0, k, xs, ys, hx, hy, w => by
  have h1 := leavesOk_len _ _ hx
  have h2 := leavesOk_len _ _ hy
  rw [List.eq_nil_of_length_eq_zero h1, List.eq_nil_of_length_eq_zero h2]
  simp [arrEq, cellsEq]
 | n + 1, k, xs, ys, hx, hy, w => by
  simp only [List.replicate_succ, List.flatten_cons] at hx hy
  obtain ⟨ux, vx⟩ := leavesOk_append l _ _ hx
  obtain ⟨uy, vy⟩ := leavesOk_append l _ _ hy
  have lx := leavesOk_len _ _ ux
  have ly := leavesOk_len _ _ uy
  simp only [List.length_take, List.length_drop] at lx ly
  have e1 := ih _ _ ux uy
  have hk : (k + 1) * l.length = k * l.length + l.length := by rw [Nat.add_mul, Nat.one_mul]
  have e2 := arrEq_leaves hdd hi hsz hd1 ih n (k + 1) xs ys (by rw [hk, ← List.drop_drop]; exact vx) (by rw [hk, ← List.drop_drop]; exact vy)
  have e3 : cellsEq (xs.drop (k * l.length)) (ys.drop (k * l.length)) = (cellsEq ((xs.drop (k * l.length)).take l.length) ((ys.drop (k * l.length)).take l.length) && cellsEq (xs.drop ((k + 1) * l.length)) (ys.drop ((k + 1) * l.length))) := by
   rw [hk, ← List.drop_drop, ← List.drop_drop, ← cellsEq_append _ _ _ _ (by simp; omega), List.take_append_drop, List.take_append_drop]
  have px : (part e xs.toArray (k * i.size)).run P w = .ok (mkV (P.underlying e) ((xs.drop (k * l.length)).take l.length)) w := by
   rw [hsz]
   by_cases hz : l.length = 0
   ·have hne : isAggD (some d) = true := by
     cases hx' : isAggD (some d) with
     | true => rfl
     | false => have := hd1 hx'; omega
    simp [part, isAgg_run hdd, hne, run_sizeOf_of hi, hsz, mkV, hdd, hz]
   ·have := part_mkV hdd hi (xs := xs) (off := k * l.length) (by omega) (fun hh => by rw [hsz]; exact hd1 hh) w
    rwa [hsz] at this
  have py : (part e ys.toArray (k * i.size)).run P w = .ok (mkV (P.underlying e) ((ys.drop (k * l.length)).take l.length)) w := by
   rw [hsz]
   by_cases hz : l.length = 0
   ·have hne : isAggD (some d) = true := by
     cases hx' : isAggD (some d) with
     | true => rfl
     | false => have := hd1 hx'; omega
    simp [part, isAgg_run hdd, hne, run_sizeOf_of hi, hsz, mkV, hdd, hz]
   ·have := part_mkV hdd hi (xs := ys) (off := k * l.length) (by omega) (fun hh => by rw [hsz]; exact hd1 hh) w
    rwa [hsz] at this
  simp only [List.range'_succ, arrEq, Sem.run_bind, px, Result.andThen_ok, py, e1, e3]
  cases cellsEq ((xs.drop (k * l.length)).take l.length) ((ys.drop (k * l.length)).take l.length) <;> simp [e2]
theorem leaves_desc : ∀ (d : Nat) (t : TypeId) (ls : List Leaf), leaves P d t = some ls → ∃ D, P.underlying t = some D ∧ (isAggD (some D) = false → ls.length = 1)
 | 0, t, ls, h => by simp [leaves] at h
 | d + 1, t, ls, h => by
  unfold leaves at h
  split at h
  all_goals first
   | (rename_i e; simp at h; exact ⟨_, e, fun _ => by rw [← h]; rfl⟩)
   | (rename_i e; exact ⟨_, e, fun hh => by simp [isAggD] at hh⟩)
   | cases h
theorem equalIn_leaves : ∀ (d D : Nat), d ≤ D → ∀ (t : TypeId) (ls : List Leaf), leaves P d t = some ls → ∀ xs ys, leavesOk ls xs = true → leavesOk ls ys = true → ∀ w,
  (Op.equalIn D t (mkV (P.underlying t) xs) (mkV (P.underlying t) ys)).run P w = .ok (cellsEq xs ys) w
 | 0, D, _, t, ls, h, _, _, _, _, _ => by simp [leaves] at h
 | d + 1, 0, hD, _, _, _, _, _, _, _, _ => absurd hD (by omega)
 | d + 1, D + 1, hD, t, ls, h, xs, ys, hx, hy, w => by
  have ih := equalIn_leaves d D (by omega)
  unfold leaves at h
  split at h
  ·rename_i k e
   simp at h
   subst h
   match xs, ys, hx, hy with
   | [x], [y], hx, hy =>
    simp [leavesOk] at hx hy
    cases x <;> simp [Leaf.is] at hx
    cases y <;> simp [Leaf.is] at hy
    subst hx; subst hy
    simp [mkV, e, isAggD, run_equalIn_int w D t _ k _ _ e, cellsEq, cellEq]
   | [], _, hx, _ => simp [leavesOk] at hx
   | _ :: _ :: _, _, hx, _ => simp [leavesOk] at hx
   | [_], [], _, hy => simp [leavesOk] at hy
   | [_], _ :: _ :: _, _, hy => simp [leavesOk] at hy
  ·rename_i e
   simp at h
   subst h
   match xs, ys, hx, hy with
   | [x], [y], hx, hy =>
    simp [leavesOk] at hx hy
    cases x <;> simp [Leaf.is] at hx
    cases y <;> simp [Leaf.is] at hy
    simp [mkV, e, isAggD, run_equalIn_string w D t _ _ e, cellsEq, cellEq]
   | [], _, hx, _ => simp [leavesOk] at hx
   | _ :: _ :: _, _, hx, _ => simp [leavesOk] at hx
   | [_], [], _, hy => simp [leavesOk] at hy
   | [_], _ :: _ :: _, _, hy => simp [leavesOk] at hy
  ·rename_i e
   simp at h
   subst h
   match xs, ys, hx, hy with
   | [x], [y], hx, hy =>
    simp [leavesOk] at hx hy
    cases x <;> simp [Leaf.is] at hx
    cases y <;> simp [Leaf.is] at hy
    simp [mkV, e, isAggD, run_equalIn_bool' w D t _ _ e, cellsEq, cellEq]
   | [], _, hx, _ => simp [leavesOk] at hx
   | _ :: _ :: _, _, hx, _ => simp [leavesOk] at hx
   | [_], [], _, hy => simp [leavesOk] at hy
   | [_], _ :: _ :: _, _, hy => simp [leavesOk] at hy
  ·rename_i n e ht
   split at h
   ·rename_i l i hl hi
    split at h
    ·rename_i hsz
     replace hsz := Nat.eq_of_beq_eq_true hsz
     simp at h
     subst h
     obtain ⟨dd, hdd, hd1⟩ := leaves_desc _ _ _ hl
     simp only [mkV, ht, isAggD, if_true, run_equalIn_array D t e n i _ _ ht hi]
     have := arrEq_leaves hdd hi hsz hd1 (ih e l hl) n 0 xs ys (by simpa using hx) (by simpa using hy) w
     simpa using this
    ·cases h
   ·cases h
  ·rename_i fs ht
   split at h
   ·cases h
   ·rename_i hst
    have hf : P.fieldsOf t = fs := by simp [Program.fieldsOf, ht]
    simp only [mkV, ht, isAggD, if_true]
    rw [run_equalIn_struct w D t _ _ (by rw [hf]; exact ht) hst, hf]
    have := eqFields_leaves ih (leaves_desc d) fs.toList 0 ls xs ys h (by simpa using hx) (by simpa using hy) w
    simpa using this
  ·cases h
theorem equal_leaves {t : TypeId} {ls : List Leaf} (h : leaves P 20 t = some ls) {xs ys : List Value} (hx : leavesOk ls xs = true) (hy : leavesOk ls ys = true)
  (hd : isAggD (P.underlying t) = true) (w : World) : (Op.equal t (.agg xs.toArray) (.agg ys.toArray)).run P w = .ok (cellsEq xs ys) w := by
 have := equalIn_leaves 20 Op.maxDepth (by decide) t ls h xs ys hx hy w
 simpa [mkV, hd, Op.equal] using this
end
end Go.Vw
