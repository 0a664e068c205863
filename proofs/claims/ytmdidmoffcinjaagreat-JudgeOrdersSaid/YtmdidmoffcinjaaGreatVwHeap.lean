import Derived.Test.YtmdidmoffcinjaaGreatVwPop2
import Derived.Laws.Append
import Derived.Laws.AppendOwn
import Derived.Laws.CopyRow
namespace Go.Vw
open Go Go.RowKit
section
variable {P : Program} {w0 : World}
def rowAt (w : World) (b : Nat) (c : List Value) : Prop := ∃ (c' : Array Value) (e : TypeId) (fr : Nat × Nat), w.heap[b]? = some (.cells c' e fr) ∧ c'.toList.take c.length = c
theorem view_lt {h : Hp} {w : World} (hv : View w0 h w) {b : Nat} {k : Blk} (hb : h b = some k) : b < w.heap.size := by
 have hx := hv.blk b k hb
 have hs := hv.below.size
 cases k with
 | row e c sz => obtain ⟨_, c', hc, _⟩ := hx; exact (Array.getElem?_eq_some_iff.1 hc).1
 | old c => obtain ⟨hl, _⟩ := hx; omega
 | imap es => obtain ⟨_, es', clk, hc, _⟩ := hx; exact (Array.getElem?_eq_some_iff.1 hc).1
 | pmap es => obtain ⟨_, es', clk, hc, _⟩ := hx; exact (Array.getElem?_eq_some_iff.1 hc).1
 | obj o => obtain ⟨_, hc⟩ := hx; exact (Array.getElem?_eq_some_iff.1 hc).1
theorem view_fresh {h : Hp} {w : World} (hv : View w0 h w) : h w.heap.size = none := by
 cases hb : h w.heap.size with
 | none => rfl
 | some k => exact absurd (view_lt hv hb) (by omega)
theorem view_row {h : Hp} {w : World} (hv : View w0 h w) {b : Nat} {c : List Value} (hc : h.row? b = some c) : rowAt w b c := by
 unfold Hp.row? at hc
 split at hc
 ·rename_i e c0 sz hb
  simp at hc; subst hc
  obtain ⟨_, c', hc', _, ht⟩ := hv.blk b _ hb
  exact ⟨c', e, _, hc', ht⟩
 ·rename_i c0 hb
  simp at hc; subst hc
  obtain ⟨_, c', e, fr, hc', ht⟩ := hv.blk b _ hb
  exact ⟨c', e, fr, hc', ht⟩
 ·cases hc
def KeepH (w0 : World) (h0 : Hp) (w w' : World) : Prop := ∀ b k, h0 b = some k → BlkAt w0 w b k → BlkAt w0 w' b k
theorem KeepH.refl (h0 : Hp) (w : World) : KeepH w0 h0 w w := fun _ _ _ h => h
theorem KeepH.trans {h0 : Hp} {a b c : World} (h : KeepH w0 h0 a b) (k : KeepH w0 h0 b c) : KeepH w0 h0 a c := fun x y hx hy => k x y hx (h x y hx hy)
theorem blkAt_kept {w w' : World} {b : Nat} {k : Blk} (h : BlkAt w0 w b k) (he : w'.heap[b]? = w.heap[b]?) : BlkAt w0 w' b k := by
 cases k <;> simp only [BlkAt, MapAt] at h ⊢ <;> rw [he] <;> exact h
theorem blkAt_lt {w : World} (hs : w0.heap.size ≤ w.heap.size) {b : Nat} {k : Blk} (h : BlkAt w0 w b k) : b < w.heap.size := by
 cases k with
 | row e c sz => obtain ⟨_, c', hc, _⟩ := h; exact (Array.getElem?_eq_some_iff.1 hc).1
 | old c => obtain ⟨hl, _⟩ := h; omega
 | imap es => obtain ⟨_, es', clk, hc, _⟩ := h; exact (Array.getElem?_eq_some_iff.1 hc).1
 | pmap es => obtain ⟨_, es', clk, hc, _⟩ := h; exact (Array.getElem?_eq_some_iff.1 hc).1
 | obj o => obtain ⟨_, hc⟩ := h; exact (Array.getElem?_eq_some_iff.1 hc).1
theorem KeepH.alloc (h0 : Hp) {w : World} (hs : w0.heap.size ≤ w.heap.size) (o : Obj) : KeepH w0 h0 w (w.alloc o) := by
 intro b k _ hb
 exact blkAt_kept hb (heap_alloc_old w o b (blkAt_lt hs hb))
theorem KeepH.write {h0 : Hp} {w w' : World} {b0 : Nat} (hb0 : h0 b0 = none) (hs : w0.heap.size ≤ w.heap.size) (ho : ∀ b, b ≠ b0 → b < w.heap.size → w'.heap[b]? = w.heap[b]?) : KeepH w0 h0 w w' := by
 intro b k hk hb
 refine blkAt_kept hb (ho b (fun e => ?_) (blkAt_lt hs hb))
 rw [e, hb0] at hk; cases hk
theorem blkAt_row {w : World} {b : Nat} {h : Hp} {c : List Value} (hc : h.row? b = some c) {k : Blk} (hk : h b = some k) (hb : BlkAt w0 w b k) : rowAt w b c := by
 unfold Hp.row? at hc
 rw [hk] at hc
 cases k with
 | row e c0 sz => simp at hc; subst hc; obtain ⟨_, c', hc', _, ht⟩ := hb; exact ⟨c', e, _, hc', ht⟩
 | old c0 => simp at hc; subst hc; obtain ⟨_, c', e, fr, hc', ht⟩ := hb; exact ⟨c', e, fr, hc', ht⟩
 | imap es => simp at hc
 | pmap es => simp at hc
 | obj o => simp at hc
theorem rowAt_cell {w : World} {b : Nat} {c : List Value} (h : rowAt w b c) {o : Nat} {v : Value} (hv : c[o]? = some v) : w.cell? ⟨b, o, none⟩ = some v := by
 obtain ⟨c', e, fr, hc, ht⟩ := h
 rw [cell_of_row w b o c' e fr hc]
 have hlt := (List.getElem?_eq_some_iff.1 hv).1
 have : (c'.toList.take c.length)[o]? = some v := by rw [ht]; exact hv
 rw [List.getElem?_take, if_pos hlt] at this
 simpa using this
theorem loadVar_scalar {t : TypeId} {d : TypeDesc} (ht : P.underlying t = some d) (hd : isAggD (some d) = false) {w : World} {b o : Nat} {v : Value} (h : w.cell? ⟨b, o, none⟩ = some v) :
  (loadVar t ⟨b, o, none⟩).run P w = .ok v w := by
 simp [loadVar, isAgg_run ht, hd, h]
theorem loadVar_agg {t : TypeId} {d : TypeDesc} {i : TypeInfo} (ht : P.underlying t = some d) (hi : P.info? t = some i) (hd : isAggD (some d) = true) {w : World} {b o : Nat} {cs : List Value}
  (hl : cs.length = i.size) (h : ∀ j v, cs[j]? = some v → w.cell? ⟨b, o + j, none⟩ = some v) :
  (loadVar t ⟨b, o, none⟩).run P w = .ok (.agg cs.toArray) w := by
 have := run_loadCells_list (P := P) w ⟨b, o, none⟩ cs (fun j v hj => by rw [addr_add]; exact h j v hj)
 simp [loadVar, isAgg_run ht, hd, run_sizeOf_of hi, ← hl, this]
theorem lds_cells {c cs : List Value} {o m : Nat} (hl : o + m ≤ c.length) (he : cs = (c.drop o).take m) : cs.length = m ∧ ∀ j v, cs[j]? = some v → c[o + j]? = some v := by
 subst he
 refine ⟨by simp; omega, fun j v hj => ?_⟩
 rw [List.getElem?_take] at hj
 split at hj
 ·simpa using hj
 ·cases hj
theorem ldv_run {t : TypeId} {d : TypeDesc} {i : TypeInfo} (ht : P.underlying t = some d) (hi : P.info? t = some i) {h : Hp} {b o : Nat} {v : Value} (hv : ldv (isAggD (some d)) h b o i.size v)
  {w : World} (hr : ∀ c, h.row? b = some c → rowAt w b c) : (loadVar t ⟨b, o, none⟩).run P w = .ok v w := by
 cases hd : isAggD (some d) with
 | true =>
  simp only [hd, ldv] at hv
  split at hv
  ·rename_i cs
   obtain ⟨c, hc, hl, he⟩ := hv
   obtain ⟨h1, h2⟩ := lds_cells hl he
   have := loadVar_agg ht hi hd (w := w) (b := b) (o := o) (cs := cs.toList) h1 (fun j v hj => rowAt_cell (hr c hc) (h2 j v hj))
   simpa using this
  ·exact hv.elim
 | false =>
  simp only [hd, ldv] at hv
  obtain ⟨c, hc, he⟩ := hv
  exact loadVar_scalar ht hd (rowAt_cell (hr c hc) he)
def encE (x : Int × Value) : Value × Value := (Value.int .i64 x.1, x.2)
def entE (x : MapEntry) : Value × Value := (x.key, x.val)
def findE (key : Int) : List (Int × Value) → Nat → Option (Nat × Value)
 | [], _ => none
 | x :: r, i => if key == x.1 then some (i, x.2) else findE key r (i + 1)
theorem findNow_ints (key : Int) : ∀ (l : List MapEntry) (es : List (Int × Value)) (i : Nat), l.map entE = es.map encE → Instr.findNow (.int .i64) (.int .i64 key) l i = some (findE key es i)
 | [], [], i, _ => rfl
 | [], _ :: _, _, h => by simp at h
 | _ :: _, [], _, h => by simp at h
 | e :: l, x :: es, i, h => by
  simp only [List.map_cons, List.cons.injEq, entE, encE, Prod.mk.injEq] at h
  obtain ⟨⟨hk, hv⟩, ht⟩ := h
  unfold Instr.findNow
  rw [hk]
  simp only [Instr.sameNow, if_true]
  by_cases hx : key = x.1
  ·subst hx; simp [findE, hv]
  ·have : (key == x.1) = false := by simpa using hx
   simp only [this, findE, Bool.false_eq_true, if_false]
   exact findNow_ints key l es (i + 1) ht
theorem findE_lkup (key : Int) : ∀ (es : List (Int × Value)) (i : Nat), (findE key es i).map (·.2) = lkup es key
 | [], _ => rfl
 | x :: es, i => by
  unfold findE lkup
  by_cases hx : key = x.1
  ·subst hx; simp
  ·have h1 : (key == x.1) = false := by simpa using hx
   have h2 : (x.1 == key) = false := by simpa using (Ne.symm hx)
   simp only [h1, Bool.false_eq_true, if_false, List.find?_cons, h2]
   exact findE_lkup key es (i + 1)
theorem findE_some (key : Int) : ∀ (es : List (Int × Value)) (i j : Nat) (v : Value), findE key es i = some (j, v) → i ≤ j ∧ es[j - i]? = some (key, v) ∧ ∀ m, m < j - i → ∀ x, es[m]? = some x → x.1 ≠ key
 | [], _, _, _, h => by simp [findE] at h
 | x :: es, i, j, v, h => by
  unfold findE at h
  by_cases hx : key = x.1
  ·subst hx
   simp at h
   obtain ⟨rfl, rfl⟩ := h
   refine ⟨Nat.le_refl _, by simp, fun m hm => by omega⟩
  ·have h1 : (key == x.1) = false := by simpa using hx
   simp only [h1, Bool.false_eq_true, if_false] at h
   obtain ⟨h2, h3, h4⟩ := findE_some key es (i + 1) j v h
   refine ⟨by omega, ?_, ?_⟩
   ·obtain ⟨d, hd⟩ : ∃ d, j - i = d + 1 := ⟨j - i - 1, by omega⟩
    have : j - (i + 1) = d := by omega
    rw [this] at h3
    rw [hd]
    simpa using h3
   ·intro m hm y hy
    cases m with
    | zero => simp at hy; subst hy; exact fun e => hx e.symm
    | succ m => exact h4 m (by omega) y (by simpa using hy)
theorem findE_none (key : Int) : ∀ (es : List (Int × Value)) (i : Nat), findE key es i = none → ∀ x ∈ es, x.1 ≠ key
 | [], _, _ => by simp
 | x :: es, i, h => by
  unfold findE at h
  by_cases hx : key = x.1
  ·subst hx; simp at h
  ·have h1 : (key == x.1) = false := by simpa using hx
   simp only [h1, Bool.false_eq_true, if_false] at h
   intro y hy
   rcases List.mem_cons.1 hy with rfl | hy
   ·exact fun e => hx e.symm
   ·exact findE_none key es (i + 1) h y hy
theorem imapSet_none (key : Int) (v : Value) : ∀ (es : List (Int × Value)), (∀ x ∈ es, x.1 ≠ key) → imapSet es key v = es ++ [(key, v)]
 | [], _ => rfl
 | x :: es, h => by
  have h1 : x.1 ≠ key := h x (by simp)
  simp [imapSet, h1, imapSet_none key v es (fun y hy => h y (by simp [hy]))]
theorem imapSet_some (key : Int) (v u : Value) : ∀ (es : List (Int × Value)) (j : Nat), es[j]? = some (key, u) → (∀ m, m < j → ∀ x, es[m]? = some x → x.1 ≠ key) → imapSet es key v = es.set j (key, v)
 | [], j, h, _ => by simp at h
 | x :: es, 0, h, _ => by simp at h; subst h; simp [imapSet]
 | x :: es, j + 1, h, hm => by
  have h1 : x.1 ≠ key := hm 0 (by omega) x (by simp)
  simp only [imapSet, h1, if_false, List.set_cons_succ]
  rw [imapSet_some key v u es j (by simpa using h) (fun m hm' y hy => hm (m + 1) (by omega) y (by simpa using hy))]
theorem filter_erase (key : Int) (u : Value) : ∀ (es : List (Int × Value)) (j : Nat), es[j]? = some (key, u) → (es.map (·.1)).Nodup → es.filter (fun x => !(x.1 == key)) = es.eraseIdx j
 | [], j, h, _ => by simp at h
 | x :: es, 0, h, hn => by
  simp at h; subst h
  simp at hn
  simp only [List.filter_cons, beq_self_eq_true, Bool.not_true, Bool.false_eq_true, if_false, List.eraseIdx_cons_zero]
  refine List.filter_eq_self.2 fun y hy => ?_
  have : y.1 ≠ key := fun e => by
   obtain ⟨a, b⟩ := y
   simp at e; subst e
   exact hn.1 b hy
  simpa using this
 | x :: es, j + 1, h, hn => by
  simp only [List.map_cons, List.nodup_cons] at hn
  have hx : x.1 ≠ key := fun e => hn.1 (by
   rw [e]
   exact List.mem_map.2 ⟨(key, u), List.mem_of_getElem? (by simpa using h), rfl⟩)
  have h2 : (!(x.1 == key)) = true := by simpa using hx
  simp only [List.filter_cons, h2, if_true, List.eraseIdx_cons_succ]
  rw [filter_erase key u es j (by simpa using h) hn.2]
theorem filter_none (key : Int) (es : List (Int × Value)) (h : ∀ x ∈ es, x.1 ≠ key) : es.filter (fun x => !(x.1 == key)) = es :=
 List.filter_eq_self.2 fun y hy => by simpa using h y hy
theorem checkKey_int {kt : TypeId} {k : IntKind} (ht : P.underlying kt = some (.int k)) (e : Bool) (v : Value) (w : World) : (Instr.checkKey e 10000 kt v).run P w = .ok () w := by
 show (Instr.checkKey e (9999 + 1) kt v).run P w = .ok () w
 generalize 9999 = n
 unfold Instr.checkKey
 simp only [Sem.run_bind, run_underlying_of ht, Result.andThen_ok]
 rfl
theorem findKey_int {kt : TypeId} (ht : P.underlying kt = some (.int .i64)) {l : List MapEntry} {es : List (Int × Value)} (h : l.map entE = es.map encE) (key : Int) (w : World) :
  (Instr.findKey kt (.int .i64 key) l).run P w = .ok (findE key es 0) w := by
 simp [Instr.findKey, run_underlying_of ht, findNow_ints key l es 0 h]
theorem pairT_ex {kt : TypeId} (h : pairT P kt = true) : ∃ fs f g, P.underlying kt = some (.struct fs) ∧ fs.toList = [f, g] ∧ f.offset = 0 ∧ g.offset = 1 ∧ intF P f = true ∧ intF P g = true ∧ leaves P 20 kt = some [.int .i64, .int .i64] := by
 unfold pairT at h
 split at h
 ·rename_i fs hfs
  rw [Bool.and_eq_true] at h
  obtain ⟨h1, h2⟩ := h
  unfold twoL at h1
  split at h1
  ·rename_i hl
   unfold twoF at h2
   split at h2
   ·rename_i f g hfg
    simp only [Bool.and_eq_true] at h2
    exact ⟨fs, f, g, hfs, hfg, Nat.eq_of_beq_eq_true h2.1.1.1, Nat.eq_of_beq_eq_true h2.1.1.2, h2.1.2, h2.2, hl⟩
   ·cases h2
  ·cases h1
 ·cases h
theorem intF_ex {f : Field} (h : intF P f = true) : f.name ≠ "_" ∧ ∃ k i, P.underlying f.type = some (.int k) ∧ P.info? f.type = some i ∧ i.size = 1 := by
 unfold intF at h
 rw [Bool.and_eq_true, bne_iff_ne] at h
 obtain ⟨h1, h2⟩ := h
 split at h2
 ·rename_i k i hk hi
  exact ⟨h1, k, i, hk, hi, Nat.eq_of_beq_eq_true h2⟩
 ·cases h2
theorem part_int {f : Field} (h : intF P f = true) {xs : List Value} {off : Nat} (hl : off < xs.length) (w : World) : ∃ v, (part f.type xs.toArray off).run P w = .ok v w := by
 obtain ⟨_, k, i, hk, hi, hs⟩ := intF_ex h
 exact ⟨_, part_mkV hk hi (by rw [hs]; omega) (fun _ => hs) w⟩
theorem checkKey_intn {kt : TypeId} {k : IntKind} (ht : P.underlying kt = some (.int k)) (e : Bool) (n : Nat) (v : Value) (w : World) : (Instr.checkKey e (n + 1) kt v).run P w = .ok () w := by
 unfold Instr.checkKey
 simp only [Sem.run_bind, run_underlying_of ht, Result.andThen_ok]
 rfl
theorem checkKey_pair {kt : TypeId} (h : pairT P kt = true) (e : Bool) (c : Int) (w : World) : (Instr.checkKey e 10000 kt (pairV c)).run P w = .ok () w := by
 obtain ⟨fs, f, g, hfs, hfg, of, og, hf, hg, _⟩ := pairT_ex h
 obtain rfl : fs = #[f, g] := by apply Array.ext'; simpa using hfg
 obtain ⟨nf, kf, _, uf, _⟩ := intF_ex hf
 obtain ⟨ng, kg, _, ug, _⟩ := intF_ex hg
 show (Instr.checkKey e (9998 + 1 + 1) kt (pairV c)).run P w = .ok () w
 generalize 9998 = n
 unfold Instr.checkKey pairV
 simp only [Sem.run_bind, run_underlying_of hfs, Result.andThen_ok]
 obtain ⟨v, hv⟩ := part_int hf (xs := [.int .i64 (c / 18446744073709551616), .int .i64 (c % 18446744073709551616 - 9223372036854775808)]) (off := 0) (by simp) w
 obtain ⟨u, hu⟩ := part_int hg (xs := [.int .i64 (c / 18446744073709551616), .int .i64 (c % 18446744073709551616 - 9223372036854775808)]) (off := 1) (by simp) w
 simp [of, og, nf, ng, hv, hu, checkKey_intn uf, checkKey_intn ug]
theorem equal_pair {kt : TypeId} (h : pairT P kt = true) (a b : Int) (w : World) : (Op.equal kt (pairV a) (pairV b)).run P w = .ok (a == b) w := by
 obtain ⟨fs, f, g, hfs, _, _, _, _, _, hl⟩ := pairT_ex h
 have := equal_leaves hl (xs := [.int .i64 (a / 18446744073709551616), .int .i64 (a % 18446744073709551616 - 9223372036854775808)]) (ys := [.int .i64 (b / 18446744073709551616), .int .i64 (b % 18446744073709551616 - 9223372036854775808)]) (by simp [leavesOk, Leaf.is]) (by simp [leavesOk, Leaf.is]) (by rw [hfs]; rfl) w
 have e : cellsEq [.int .i64 (a / 18446744073709551616), .int .i64 (a % 18446744073709551616 - 9223372036854775808)] [.int .i64 (b / 18446744073709551616), .int .i64 (b % 18446744073709551616 - 9223372036854775808)] = (a == b) := by
  rw [Bool.eq_iff_iff]
  simp only [cellsEq, cellEq, Bool.and_true, Bool.and_eq_true, beq_iff_eq]
  omega
 rw [e] at this
 exact this
theorem findAsking_pair {kt : TypeId} (h : pairT P kt = true) (key : Int) : ∀ (l : List MapEntry) (es : List (Int × Value)) (i : Nat) (w : World), l.map entE = es.map (fun x => (pairV x.1, x.2)) → (Instr.findAsking kt (pairV key) l i).run P w = .ok (findE key es i) w
 | [], [], i, w, _ => rfl
 | [], _ :: _, _, _, hl => by simp at hl
 | _ :: _, [], _, _, hl => by simp at hl
 | x :: l, y :: es, i, w, hl => by
  simp only [List.map_cons, List.cons.injEq, entE, Prod.mk.injEq] at hl
  obtain ⟨⟨h1, h2⟩, h3⟩ := hl
  unfold Instr.findAsking findE
  rw [h1]
  simp only [Sem.run_bind, equal_pair h, Result.andThen_ok]
  by_cases e : key = y.1
  ·subst e
   simp [h2]
  ·have : (key == y.1) = false := by simpa using e
   simp only [this, Bool.false_eq_true, if_false]
   exact findAsking_pair h key l es (i + 1) w h3
theorem findKey_pair {kt : TypeId} (h : pairT P kt = true) {l : List MapEntry} {es : List (Int × Value)} (hl : l.map entE = es.map (fun x => (pairV x.1, x.2))) (key : Int) (w : World) :
  (Instr.findKey kt (pairV key) l).run P w = .ok (findE key es 0) w := by
 obtain ⟨fs, _, _, hfs, _⟩ := pairT_ex h
 unfold Instr.findKey
 simp only [Sem.run_bind, run_underlying_of hfs, Result.andThen_ok]
 cases l with
 | nil =>
  cases es with
  | nil => rfl
  | cons _ _ => simp at hl
 | cons x l =>
  have : Instr.findNow (.struct fs) (pairV key) (x :: l) 0 = none := by
   unfold Instr.findNow Instr.sameNow
   rfl
  rw [this]
  exact findAsking_pair h key _ es 0 w hl
theorem sameBits_pair (key : Int) : Instr.sameBits 10000 (pairV key) (pairV key) = true := by
 show Instr.sameBits (9998 + 1 + 1) (pairV key) (pairV key) = true
 generalize 9998 = n
 unfold pairV
 simp [Instr.sameBits]
end
end Go.Vw
