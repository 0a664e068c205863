import Derived.Test.YtmdidmoffcinjaaGreatVwRop
namespace Go.Vw
open Go Go.RowKit
section
variable {P : Program} {w0 : World}
theorem Hp.set_same (h : Hp) (b : Nat) (k : Blk) : h.set b k b = some k := by simp [Hp.set]
theorem Hp.set_other (h : Hp) {b b' : Nat} (k : Blk) (hne : b' ≠ b) : h.set b k b' = h b' := by simp [Hp.set, hne]
theorem view_set {h : Hp} {w w' : World} (hv : View w0 h w) {b : Nat} {k : Blk} (hb : Below w0.heap.size w0 w') (hk : BlkAt w0 w' b k)
  (ho : ∀ b', b' ≠ b → b' < w.heap.size → w'.heap[b']? = w.heap[b']?) : View w0 (h.set b k) w' := by
 refine ⟨hb, fun b' k' hk' => ?_⟩
 by_cases e : b' = b
 ·subst e; rw [Hp.set_same] at hk'; simp at hk'; subst hk'; exact hk
 ·rw [Hp.set_other h k e] at hk'
  exact blkAt_kept (hv.blk b' k' hk') (ho b' e (view_lt hv hk'))
theorem view_sub {h h' : Hp} {w : World} (hv : View w0 h w) (hs : ∀ b k, h' b = some k → h b = some k) : View w0 h' w :=
 ⟨hv.below, fun b k hk => hv.blk b k (hs b k hk)⟩
theorem view_drew {h : Hp} {w : World} (hv : View w0 h w) : View w0 h w.drew := ⟨hv.below.drew, fun b k hk => blkAt_kept (hv.blk b k hk) rfl⟩
theorem view_alloc {h : Hp} {w : World} (hv : View w0 h w) (o : Obj) {k : Blk} (hk : BlkAt w0 (w.alloc o) w.heap.size k) : View w0 (h.set w.heap.size k) (w.alloc o) :=
 view_set hv (hv.below.alloc hv.below.size o) hk (fun b' _ hl => heap_alloc_old w o b' hl)
theorem view_row_new {h : Hp} {w : World} (hv : View w0 h w) (e : TypeId) (c : List Value) (c' : Array Value) (sz : Nat) (hs : c'.size = sz) (ht : c'.toList.take c.length = c) :
  View w0 (h.set w.heap.size (.row e c sz)) (w.alloc (.cells c' e)) :=
 view_alloc hv _ ⟨hv.below.size, c', heap_alloc_new w _, hs, ht⟩
theorem below_at {h : Hp} {w w' : World} (hv : View w0 h w) {b : Nat} (hb : w0.heap.size ≤ b) (h1 : w'.os = w.os) (h2 : w'.tape = w.tape) (h3 : w'.output = w.output)
  (h4 : w.heap.size ≤ w'.heap.size) (ho : ∀ b', b' ≠ b → b' < w.heap.size → w'.heap[b']? = w.heap[b']?) : Below w0.heap.size w0 w' :=
 hv.below.trans ⟨h1, h2, h3, h4, fun k hk => ho k (by omega) (by have := hv.below.size; omega)⟩
theorem view_setRow {h : Hp} {w : World} (hv : View w0 h w) {b : Nat} {e : TypeId} {c : List Value} {sz : Nat} (hb : h b = some (.row e c sz)) {cur cs : Array Value} {c2 : List Value}
  (hc : w.heap[b]? = some (.cells cur e (0, 0))) (hs : cs.size = sz) (ht : cs.toList.take c2.length = c2) : View w0 (h.set b (.row e c2 sz)) (w.setRow b cs) := by
 have hlow := (hv.blk b _ hb).1
 refine view_set hv ?_ ⟨hlow, cs, setRow_heap w b cur cs e _ hc, hs, ht⟩ (fun b' hne _ => setRow_other w b b' cs hne)
 exact below_at hv hlow rfl rfl rfl (by simp) (fun b' hne _ => setRow_other w b b' cs hne)
theorem heap_setObj (w : World) (r : Nat) (o : Obj) (b' : Nat) (hne : b' ≠ r) : (w.heap.setIfInBounds r o)[b']? = w.heap[b']? := by
 simp [Array.getElem?_setIfInBounds_ne (Ne.symm hne)]
theorem view_setObj {h : Hp} {w : World} (hv : View w0 h w) {b : Nat} {k : Blk} {o : Obj} (hlow : w0.heap.size ≤ b)
  (hk : BlkAt w0 { w with heap := w.heap.setIfInBounds b o } b k) : View w0 (h.set b k) { w with heap := w.heap.setIfInBounds b o } := by
 refine view_set hv ?_ hk (fun b' hne _ => heap_setObj w b o b' hne)
 exact below_at hv hlow rfl rfl rfl (by simp) (fun b' hne _ => heap_setObj w b o b' hne)
theorem store_cells {h : Hp} {w : World} (hv : View w0 h w) {b o : Nat} {e : TypeId} {c vs : List Value} {sz : Nat} (hb : h b = some (.row e c sz)) (hl : o + vs.length ≤ c.length) (h1 : allOne vs = true) :
  ∃ w', (storeCells ⟨b, o, none⟩ vs).run P w = .ok () w' ∧ View w0 (h.set b (.row e (c.take o ++ vs ++ c.drop (o + vs.length)) sz)) w' ∧ ∀ b', b' ≠ b → b' < w.heap.size → w'.heap[b']? = w.heap[b']? := by
 obtain ⟨_, cur, hc, hs, ht⟩ := hv.blk b _ hb
 have hlen : c.length ≤ cur.size := by
  have := congrArg List.length ht
  simp at this; omega
 have hst := run_storeCells_at P b o e vs 0 cur w hc (by omega) (fun v hv => List.all_eq_true.1 h1 v hv)
 simp only [Nat.add_zero] at hst
 refine ⟨_, hst, view_setRow hv hb hc (by simp; omega) ?_, fun b' hne _ => setRow_other w b b' _ hne⟩
 have hm : ∀ n, n ≤ c.length → cur.toList.take n = c.take n := by
  intro n hn
  rw [← ht, List.take_take, Nat.min_eq_left hn]
 have hd : ∀ n, n ≤ c.length → (cur.toList.drop n).take (c.length - n) = c.drop n := by
  intro n hn
  conv => rhs; rw [← ht]
  rw [List.drop_take]
 have hL : (c.take o ++ vs ++ c.drop (o + vs.length)).length = c.length := by simp; omega
 rw [hL]
 simp only [List.append_assoc]
 rw [hm o (by omega), List.take_append, List.take_append, ← hd (o + vs.length) (by omega)]
 have e1 : (c.take o).length = o := by simp; omega
 rw [e1]
 have e2 : (c.take o).take c.length = c.take o := by rw [List.take_take]; congr 1; omega
 have e3 : vs.take (c.length - o) = vs := List.take_of_length_le (by omega)
 rw [e2, e3]
 congr 3
 omega
theorem run_storeVar {t : TypeId} {i : TypeInfo} (hi : P.info? t = some i) {v : Value} {a : Addr} (hs : v.cells.size = i.size) (w : World) :
  (storeVar t a v).run P w = (storeCells a v.cells.toList).run P w := by
 simp [storeVar, run_sizeOf_of hi, hs]
theorem zcells_run {t : TypeId} {z : List Value} (h : zcells P t = some z) : ∃ v, (∀ w, (zeroValue t).run P w = .ok v w) ∧ v.cells.toList = z := by
 unfold zcells at h
 cases hx : (P.info? t).bind (·.zero) with
 | none => rw [hx] at h; simp at h
 | some zv => rw [hx] at h; simp at h; exact ⟨zv, fun w => run_zeroValue_of hx w, h⟩
theorem vcells_cells (v : Value) : v.cells.toList = vcells v := by cases v <;> rfl
theorem shaped_ex {ts : List TypeId} {r : Value} {K : Value → Prop} (h : shaped P ts r K) : K r := by
 unfold shaped at h
 split at h
 ·obtain ⟨rfl, hk⟩ := h; exact hk
 ·obtain ⟨v, rfl, hk⟩ := anyOf_ex h; exact hk
 ·obtain ⟨v, _, h⟩ := anyOf_ex h
  obtain ⟨x, rfl, hk⟩ := anyOf_ex h; exact hk
 ·obtain ⟨v, _, h⟩ := anyOf_ex h
  obtain ⟨x, _, h⟩ := anyOf_ex h
  obtain ⟨y, rfl, hk⟩ := anyOf_ex h; exact hk
 ·exact h.elim
theorem callable_run {k : FuncId} {ts : List TypeId} (h : callable P k = some ts) (args : Array Value) (w : World) : (callFunc k args).run P w = .ok (.enter k args) w := by
 unfold callable at h
 split at h
 ·cases h
 ·rename_i fn hf
  split at h
  ·cases h
  ·rename_i hn
   split at h
   ·rename_i hb
    have hn' : (fn.name == "runtime.NumGoroutine") = false := hn
    have hb' : fn.body.isNone = false := by cases hx : fn.body <;> simp_all
    simp only [callFunc, Sem.run_bind, run_program, Result.andThen_ok, hf, hn', hb', Bool.false_eq_true, if_false, Sem.run_pure]
   ·cases h
theorem call_sound {st : Option Hp} {ρ : Env} {o : Oper} {a : Act} {h : Hp} {K : Value → Hp → Prop} {w : World} (hv : View w0 h w) (he : a.eval = evalO ρ) {c : Call} {f : Operand} {k : FuncId}
  {first cap : Array Value} {ts : List TypeId} (ho : o.op = .call c) (hc : c.callee = .value f) (hf : evalO ρ f = .func (.func k) first cap) (hcal : callable P k = some ts)
  (ht : Tri P w0 k (first.toList ++ c.args.toList.map (evalO ρ) ++ cap.toList).toArray h fun r h' =>
   match st with
   | none => shaped P ts r fun r' => K r' h'
   | some h0 => Ext h0 h' ∧ shaped P ts r fun r' => K r' h') :
  sX P o a w (fun w' => ∀ h0, st = some h0 → KeepH w0 h0 w w') (fun a' w' => ∃ v h', a' = a.put o.dst v ∧ K v h' ∧ View w0 h' w') := by
 have hargs : first ++ c.args.map (evalO ρ) ++ cap = (first.toList ++ c.args.toList.map (evalO ρ) ++ cap.toList).toArray := by
  rw [arr_map]; apply Array.ext'; simp
 have hrun : (execOp a.eval o).run P w = .ok (.enter k (first.toList ++ c.args.toList.map (evalO ρ) ++ cap.toList).toArray) w := by
  rw [he]
  unfold execOp
  simp only [ho, resolve, hc, hf, Deferred.ofValue, Sem.run_bind, Sem.run_pure, Result.andThen_ok, invoke, callable_run hcal, hargs]
 unfold sX
 rw [hrun]
 refine Calls.mono (ht w hv) ?_
 rintro e w' ⟨r, h', rfl, hq, hv'⟩
 cases st with
 | none => exact ⟨r, rfl, (fun h0 hh => by cases hh), r, h', rfl, shaped_ex hq, hv'⟩
 | some h0 =>
  refine ⟨r, rfl, fun h1 hh => ?_, r, h', rfl, shaped_ex hq.2, hv'⟩
  cases hh
  exact fun b k hk _ => hv'.blk b k (hq.1 b k hk)
end
end Go.Vw
