import Derived.Test.YtmdidmoffcinjaaGreatVwApp
import Derived.Conc.LoneSelectN
import Derived.Conc.SmallLaws
namespace Go.Vw
open Go Go.RowKit
section
variable {P : Program} {w0 : World}
theorem replicate_flatten_get (z : List Value) (hz : 0 < z.length) : ∀ (n j : Nat), j < n * z.length → ((List.replicate n z).flatten)[j]? = z[j % z.length]?
 | 0, j, h => by simp at h
 | n + 1, j, h => by
  simp only [List.replicate_succ, List.flatten_cons]
  by_cases hj : j < z.length
  ·rw [List.getElem?_append_left hj, Nat.mod_eq_of_lt hj]
  ·rw [List.getElem?_append_right (by omega), replicate_flatten_get z hz n (j - z.length) (by rw [Nat.add_mul] at h; omega), Nat.mod_eq_sub_mod (a := j) (by omega)]
theorem range_rows (z : Array Value) (n : Nat) (hz : 0 < z.size) : (Array.range (n * z.size)).map (fun i => z[i % z.size]!) = ((List.replicate n z.toList).flatten).toArray := by
 apply Array.ext'
 apply List.ext_getElem?
 intro j
 by_cases hj : j < n * z.size
 ·rw [replicate_flatten_get z.toList (by simpa using hz) n j (by simpa using hj)]
  have hlt : j % z.size < z.size := Nat.mod_lt _ hz
  simp [hj, hlt, Array.toList_range]
 ·rw [List.getElem?_eq_none (by simp [Array.toList_range]; omega), List.getElem?_eq_none (by simp [List.length_flatten]; omega)]
theorem run_buildSlice {t e : TypeId} {i : TypeInfo} (ht : P.underlying t = some (.slice e)) (hi : P.info? e = some i) {zv : Value} (hz : ∀ w, (zeroValue e).run P w = .ok zv w) (hzs : zv.cells.size = i.size)
  {n : Nat} (hmax : n * i.size ≤ 16777216) {ps : Array (Nat × Value)} {cs : List Value}
  (hcs : fillL (fun j => some (j * i.size, i.size)) (List.replicate n zv.cells.toList).flatten ps.toList = some cs) (w : World) :
  (Instr.buildSlice t n ps).run P w = .ok (.slice (some ⟨w.heap.size, 0, none⟩) n n) (w.alloc (.cells cs.toArray e)) := by
 have hfill := fillL_fill _ _ _ _ hcs
 have hmax' : ¬ n * i.size > 2 ^ 24 := by omega
 unfold Instr.buildSlice
 simp only [Sem.run_bind, run_underlying_of ht, Result.andThen_ok, run_sizeOf_of hi, if_neg hmax']
 by_cases h0 : n * i.size = 0
 ·have hz0 : (List.replicate n zv.cells.toList).flatten = [] := by
   apply List.eq_nil_of_length_eq_zero
   simp [List.length_flatten, hzs, h0]
  rw [hz0] at hfill
  have hr0 : Array.range 0 = #[] := rfl
  simp only [h0, if_true, hr0]
  simp [hfill, newRow]
 ·have hpos : 0 < zv.cells.size := by
   rw [hzs]
   rcases Nat.eq_zero_or_pos i.size with hx | hx
   ·rw [hx] at h0; simp at h0
   ·exact hx
  have hr := range_rows zv.cells n hpos
  rw [hzs] at hr
  simp only [h0, if_false, Sem.run_bind, hz, Result.andThen_ok, Sem.run_pure, hzs, hr]
  simp [hfill, newRow]
theorem entE_modify (l : Array MapEntry) (j : Nat) (f : MapEntry → MapEntry) : (l.modify j f).toList.map entE = (l.toList.map entE).modify j (fun _ => ((l[j]?).map (fun x => entE (f x))).getD (undef, undef)) := by
 apply List.ext_getElem?
 intro i
 simp only [List.getElem?_map, Array.getElem?_toList, Array.getElem?_modify, List.getElem?_modify]
 by_cases h : j = i
 ·subst h
  cases l[j]? <;> simp
 ·simp [h]
theorem run_setObj {w : World} {b : Nat} {o0 o : Obj} (hb : w.heap[b]? = some o0) (hc : ∀ c e f, o0 ≠ .cells c e f) : (setObj b o).run P w = .ok () { w with heap := w.heap.setIfInBounds b o } := by
 cases o0 with
 | cells c e f => exact absurd rfl (hc _ _ _)
 | _ => simp [setObj, Sem.run, hb]
theorem heap_setObj_same {w : World} {b : Nat} {o0 : Obj} (hb : w.heap[b]? = some o0) (o : Obj) : ({ w with heap := w.heap.setIfInBounds b o } : World).heap[b]? = some o := by
 have hlt := (Array.getElem?_eq_some_iff.1 hb).1
 simp [hlt]
theorem imapSet_keys (es : List (Int × Value)) (key : Int) (v : Value) (h : (es.map (·.1)).Nodup) : ((imapSet es key v).map (·.1)).Nodup := by
 have hsub : ∀ es : List (Int × Value), ∀ x ∈ (imapSet es key v).map (·.1), x = key ∨ x ∈ es.map (·.1) := by
  intro es
  induction es with
  | nil => intro x hx; simp [imapSet] at hx; exact .inl hx
  | cons y r ih =>
   intro x hx
   by_cases hy : y.1 = key
   ·simp only [imapSet, hy, if_true, List.map_cons, List.mem_cons] at hx ⊢
    rcases hx with hx | hx
    ·exact .inl hx
    ·exact .inr (.inr hx)
   ·simp only [imapSet, hy, if_false, List.map_cons, List.mem_cons] at hx ⊢
    rcases hx with hx | hx
    ·exact .inr (.inl hx)
    ·rcases ih x hx with h | h
     ·exact .inl h
     ·exact .inr (.inr h)
 induction es with
 | nil => simp [imapSet]
 | cons y r ih =>
  simp only [List.map_cons, List.nodup_cons] at h
  by_cases hy : y.1 = key
  ·simp only [imapSet, hy, if_true, List.map_cons, List.nodup_cons]
   rw [← hy]; exact h
  ·simp only [imapSet, hy, if_false, List.map_cons, List.nodup_cons]
   refine ⟨fun hm => ?_, ih h.2⟩
   rcases hsub r _ hm with hk | hk
   ·exact hy hk
   ·exact h.1 hk
theorem mapUpdate_gen {h : Hp} {w : World} (hv : View w0 h w) {t kt et : TypeId} (ht : P.underlying t = some (.map kt et)) {kv : Int → Value} {mk : List (Int × Value) → Blk} (hmk : ∀ w b es, BlkAt w0 w b (mk es) ↔ w0.heap.size ≤ b ∧ MapAt kv w b es) {b : Nat} {es : List (Int × Value)}
  (hb : h b = some (mk es)) (key : Int) (hck : ∀ e w, (Instr.checkKey e 10000 kt (kv key)).run P w = .ok () w) (hfk : ∀ {l : List MapEntry} {es : List (Int × Value)}, l.map entE = es.map (fun x => (kv x.1, x.2)) → ∀ w, (Instr.findKey kt (kv key) l).run P w = .ok (findE key es 0) w) (hsb : Instr.sameBits 10000 (kv key) (kv key) = true) (v : Value) :
  ∃ w', (Instr.mapUpdate t (.map (some b)) (kv key) v).run P w = .ok () w' ∧ View w0 (h.set b (mk (imapSet es key v))) w' ∧ ∀ b', b' ≠ b → b' < w.heap.size → w'.heap[b']? = w.heap[b']? := by
 obtain ⟨hlow, es', clk, hw, hes, hborn, hclk, hnd⟩ := (hmk _ _ _).1 (hv.blk b _ hb)
 have hget : (getObj b).run P w = .ok (.map es' clk) w := by simp [getObj, Sem.run, hw]
 have hf := hfk hes w
 have hnc : ∀ c e f, (Obj.map es' clk) ≠ .cells c e f := fun _ _ _ => by simp
 cases hfe : findE key es 0 with
 | none =>
  rw [hfe] at hf
  refine ⟨_, ?_, view_setObj (o := .map (es'.push { key := kv key, val := v, born := clk }) (clk + 1)) hv hlow ?_, fun b' hne _ => heap_setObj w b _ b' hne⟩
  ·simp only [Instr.mapUpdate, Sem.run_bind, run_underlying_of ht, Result.andThen_ok, hget, hck, hf]
   rw [run_setObj hw hnc]
  ·refine (hmk _ _ _).2 ⟨hlow, _, _, heap_setObj_same hw _, ?_, ?_, ?_, imapSet_keys es key v hnd⟩
   ·rw [imapSet_none key v es (findE_none key es 0 hfe)]
    have hes2 : es'.toList.map (fun x => (x.key, x.val)) = es.map (fun x => (kv x.1, x.2)) := hes
    simp [hes2]
   ·simp only [Array.toList_push, List.map_append, List.map_cons, List.map_nil, List.pairwise_append]
    refine ⟨hborn, by simp, fun x hx y hy => ?_⟩
    simp at hy; subst hy
    obtain ⟨z, hz, rfl⟩ := List.mem_map.1 hx
    exact hclk z hz
   ·intro x hx
    simp at hx
    rcases hx with hx | rfl
    ·have := hclk x (by simpa using hx); omega
    ·exact Nat.lt_succ_self _
 | some p =>
  obtain ⟨j, u⟩ := p
  rw [hfe] at hf
  obtain ⟨_, hj, hm⟩ := findE_some key es 0 j u hfe
  simp only [Nat.sub_zero] at hj hm
  have hjl : j < es'.size := by
   have h1 := (List.getElem?_eq_some_iff.1 hj).1
   have h2 := congrArg List.length hes
   simp at h2; omega
  have hej : entE es'[j] = (kv key, u) := by
   have := congrArg (fun l => l[j]?) hes
   simp [hj, hjl] at this
   exact Prod.ext this.1 this.2
  have hkey : es'[j].key = kv key := congrArg Prod.fst hej
  have hsame : (Instr.keyThatStays (((es'[j]?).map (·.key)).getD (kv key)) (kv key)).run P w = .ok (kv key) w := by
   simp only [Array.getElem?_eq_getElem hjl, Option.map_some, Option.getD_some, hkey, Instr.keyThatStays]
   rw [if_pos hsb]
   rfl
  refine ⟨_, ?_, view_setObj (o := .map (es'.modify j fun e => { e with key := kv key, val := v }) clk) hv hlow ?_, fun b' hne _ => heap_setObj w b _ b' hne⟩
  ·simp only [Instr.mapUpdate, Sem.run_bind, run_underlying_of ht, Result.andThen_ok, hget, hck, hf, hsame]
   rw [run_setObj hw hnc]
  ·refine (hmk _ _ _).2 ⟨hlow, _, _, heap_setObj_same hw _, ?_, ?_, ?_, imapSet_keys es key v hnd⟩
   ·rw [imapSet_some key v u es j hj hm]
    have h1 := entE_modify es' j (fun e => { e with key := kv key, val := v })
    have h2 : (es'.modify j fun e => { e with key := kv key, val := v }).toList.map (fun x => (x.key, x.val)) = ((es'.toList.map entE).modify j (fun _ => (kv key, v))) := by
     rw [← show ((es'[j]?).map (fun x => entE { x with key := kv key, val := v })).getD (undef, undef) = (kv key, v) by simp [Array.getElem?_eq_getElem hjl, entE]]
     exact h1
    have hes3 : es'.toList.map entE = es.map (fun x => (kv x.1, x.2)) := hes
    rw [h2, hes3]
    apply List.ext_getElem?
    intro m
    simp only [List.getElem?_modify, List.getElem?_map, List.getElem?_set]
    by_cases hmj : j = m
    ·subst hmj
     simp [(List.getElem?_eq_some_iff.1 hj).1]
    ·simp [hmj]
   ·have : (es'.modify j fun e => { e with key := kv key, val := v }).toList.map (·.born) = es'.toList.map (·.born) := by
     apply List.ext_getElem?
     intro m
     simp only [List.getElem?_map, Array.getElem?_toList, Array.getElem?_modify]
     by_cases hmj : j = m
     ·subst hmj; cases es'[j]? <;> simp
     ·simp [hmj]
    rw [this]; exact hborn
   ·intro x hx
    obtain ⟨m, hm1⟩ := List.getElem?_of_mem hx
    rw [Array.getElem?_toList, Array.getElem?_modify] at hm1
    by_cases hmj : j = m
    ·subst hmj
     simp [Array.getElem?_eq_getElem hjl] at hm1
     rw [← hm1]
     exact hclk es'[j] (by simp)
    ·simp [hmj] at hm1
     exact hclk x (by rw [← Array.getElem?_toList] at hm1; exact List.mem_of_getElem? hm1)
theorem imap_mk (w : World) (b : Nat) (es : List (Int × Value)) : BlkAt w0 w b (.imap es) ↔ w0.heap.size ≤ b ∧ MapAt (Value.int .i64) w b es := Iff.rfl
theorem pmap_mk (w : World) (b : Nat) (es : List (Int × Value)) : BlkAt w0 w b (.pmap es) ↔ w0.heap.size ≤ b ∧ MapAt pairV w b es := Iff.rfl
theorem sameBits_int (key : Int) : Instr.sameBits 10000 (.int .i64 key) (.int .i64 key) = true := by
 show Instr.sameBits (9999 + 1) _ _ = true
 simp [Instr.sameBits]
theorem mapUpdate_sound {h : Hp} {w : World} (hv : View w0 h w) {t kt et : TypeId} (ht : P.underlying t = some (.map kt et)) (hkt : P.underlying kt = some (.int .i64)) {b : Nat} {es : List (Int × Value)}
  (hb : h b = some (.imap es)) (key : Int) (v : Value) :
  ∃ w', (Instr.mapUpdate t (.map (some b)) (.int .i64 key) v).run P w = .ok () w' ∧ View w0 (h.set b (.imap (imapSet es key v))) w' ∧ ∀ b', b' ≠ b → b' < w.heap.size → w'.heap[b']? = w.heap[b']? :=
 mapUpdate_gen hv ht imap_mk hb key (fun e w => checkKey_int hkt e _ w) (fun h w => findKey_int hkt h key w) (sameBits_int key) v
theorem mapUpdate_pair {h : Hp} {w : World} (hv : View w0 h w) {t kt et : TypeId} (ht : P.underlying t = some (.map kt et)) (hkt : pairT P kt = true) {b : Nat} {es : List (Int × Value)}
  (hb : h b = some (.pmap es)) (key : Int) (v : Value) :
  ∃ w', (Instr.mapUpdate t (.map (some b)) (pairV key) v).run P w = .ok () w' ∧ View w0 (h.set b (.pmap (imapSet es key v))) w' ∧ ∀ b', b' ≠ b → b' < w.heap.size → w'.heap[b']? = w.heap[b']? :=
 mapUpdate_gen hv ht pmap_mk hb key (fun e w => checkKey_pair hkt e key w) (fun h w => findKey_pair hkt h key w) (sameBits_pair key) v
theorem map_eraseIdx {α β : Type} (f : α → β) : ∀ (l : List α) (j : Nat), (l.eraseIdx j).map f = (l.map f).eraseIdx j
 | [], _ => by simp
 | x :: l, 0 => by simp
 | x :: l, j + 1 => by simp [map_eraseIdx f l j]
theorem delete_gen {h : Hp} {w : World} (hv : View w0 h w) {t kt et : TypeId} (ht : P.underlying t = some (.map kt et)) {kv : Int → Value} {mk : List (Int × Value) → Blk} (hmk : ∀ w b es, BlkAt w0 w b (mk es) ↔ w0.heap.size ≤ b ∧ MapAt kv w b es) {b : Nat} {es : List (Int × Value)}
  (hb : h b = some (mk es)) (key : Int) (hck : ∀ e w, (Instr.checkKey e 10000 kt (kv key)).run P w = .ok () w) (hfk : ∀ {l : List MapEntry} {es : List (Int × Value)}, l.map entE = es.map (fun x => (kv x.1, x.2)) → ∀ w, (Instr.findKey kt (kv key) l).run P w = .ok (findE key es 0) w) (ats : Array TypeId) (hat : ats[0]? = some t) (ty : TypeId) :
  ∃ w', (Builtin.delete_ ats ty #[.map (some b), kv key]).run P w = .ok (.tuple #[]) w' ∧ View w0 (h.set b (mk (es.filter (fun x => !(x.1 == key))))) w' := by
 obtain ⟨hlow, es', clk, hw, hes, hborn, hclk, hnd⟩ := (hmk _ _ _).1 (hv.blk b _ hb)
 have hget : (getObj b).run P w = .ok (.map es' clk) w := by simp [getObj, Sem.run, hw]
 have hf := hfk hes w
 have hnc : ∀ c e f, (Obj.map es' clk) ≠ .cells c e f := fun _ _ _ => by simp
 have hnd2 : ((es.filter (fun x => !(x.1 == key))).map (·.1)).Nodup := (List.filter_sublist.map _).nodup hnd
 have a0 : (#[Value.map (some b), kv key] : Array Value)[0]? = some (.map (some b)) := rfl
 have a1 : (#[Value.map (some b), kv key] : Array Value)[1]? = some (kv key) := rfl
 cases hfe : findE key es 0 with
 | none =>
  rw [hfe] at hf
  refine ⟨_, ?_, view_setObj (o := .map es' clk) hv hlow ?_⟩
  ·simp only [Builtin.delete_, hat, a0, a1, Sem.run_bind, run_underlying_of ht, Result.andThen_ok, hget, hck, hf]
   rw [run_setObj hw hnc]
   rfl
  ·refine (hmk _ _ _).2 ⟨hlow, _, _, heap_setObj_same hw _, ?_, hborn, hclk, hnd2⟩
   rw [filter_none key es (findE_none key es 0 hfe)]
   exact hes
 | some p =>
  obtain ⟨j, u⟩ := p
  rw [hfe] at hf
  obtain ⟨_, hj, hm⟩ := findE_some key es 0 j u hfe
  simp only [Nat.sub_zero] at hj hm
  have hjl : j < es'.size := by
   have h1 := (List.getElem?_eq_some_iff.1 hj).1
   have h2 := congrArg List.length hes
   simp at h2; omega
  have her : (es'.eraseIdxIfInBounds j).toList = es'.toList.eraseIdx j := by
   simp [Array.eraseIdxIfInBounds, hjl]
  refine ⟨_, ?_, view_setObj (o := .map (es'.eraseIdxIfInBounds j) clk) hv hlow ?_⟩
  ·simp only [Builtin.delete_, hat, a0, a1, Sem.run_bind, run_underlying_of ht, Result.andThen_ok, hget, hck, hf]
   rw [run_setObj hw hnc]
   rfl
  ·refine (hmk _ _ _).2 ⟨hlow, _, _, heap_setObj_same hw _, ?_, ?_, ?_, hnd2⟩
   ·rw [filter_erase key u es j hj hnd, her]
    have hes2 : es'.toList.map (fun x => (x.key, x.val)) = es.map (fun x => (kv x.1, x.2)) := hes
    rw [map_eraseIdx, map_eraseIdx, hes2]
   ·rw [her]
    exact List.Pairwise.sublist (List.Sublist.map _ (List.eraseIdx_sublist _ _)) hborn
   ·intro x hx
    rw [her] at hx
    exact hclk x (List.mem_of_mem_eraseIdx hx)
theorem delete_sound {h : Hp} {w : World} (hv : View w0 h w) {t kt et : TypeId} (ht : P.underlying t = some (.map kt et)) (hkt : P.underlying kt = some (.int .i64)) {b : Nat} {es : List (Int × Value)}
  (hb : h b = some (.imap es)) (key : Int) (ats : Array TypeId) (hat : ats[0]? = some t) (ty : TypeId) :
  ∃ w', (Builtin.delete_ ats ty #[.map (some b), .int .i64 key]).run P w = .ok (.tuple #[]) w' ∧ View w0 (h.set b (.imap (es.filter (fun x => !(x.1 == key))))) w' :=
 delete_gen hv ht imap_mk hb key (fun e w => checkKey_int hkt e _ w) (fun h w => findKey_int hkt h key w) ats hat ty
theorem delete_pair {h : Hp} {w : World} (hv : View w0 h w) {t kt et : TypeId} (ht : P.underlying t = some (.map kt et)) (hkt : pairT P kt = true) {b : Nat} {es : List (Int × Value)}
  (hb : h b = some (.pmap es)) (key : Int) (ats : Array TypeId) (hat : ats[0]? = some t) (ty : TypeId) :
  ∃ w', (Builtin.delete_ ats ty #[.map (some b), pairV key]).run P w = .ok (.tuple #[]) w' ∧ View w0 (h.set b (.pmap (es.filter (fun x => !(x.1 == key))))) w' :=
 delete_gen hv ht pmap_mk hb key (fun e w => checkKey_pair hkt e key w) (fun h w => findKey_pair hkt h key w) ats hat ty
theorem offK_ex {st : Option Hp} {b : Nat} {K : Prop} (hk : offK st b K) : (∀ h0, st = some h0 → h0 b = none) ∧ K := by
 unfold offK at hk
 split at hk
 ·exact ⟨fun _ hh => (by cases hh), hk⟩
 ·exact ⟨fun _ hh => (by cases hh; exact hk.1), hk.2⟩
theorem offA_ex {st : Option Hp} {a : Option Addr} {K : Prop} (hk : offA st a K) : (∀ h0, st = some h0 → ∀ ad, a = some ad → h0 ad.block = none) ∧ K := by
 unfold offA at hk
 split at hk
 ·exact ⟨fun _ hh => (by cases hh), hk⟩
 ·exact ⟨fun _ hh => (by cases hh; exact hk.1), hk.2⟩
theorem zeroCells_list (z : Array Value) (n : Nat) : (Builtin.zeroCells z n).toList = (List.replicate n z.toList).flatten := by
 unfold Builtin.zeroCells
 rw [Array.toList_map, Array.toList_range]
 induction n with
 | zero => simp
 | succ n ih =>
  rw [Nat.succ_mul, List.range_add, List.map_append, ih, List.replicate_succ', List.flatten_append, List.map_map]
  congr 1
  simp only [List.flatten_cons, List.flatten_nil, List.append_nil]
  apply List.ext_getElem
  ·simp
  ·intro i h1 h2
   have hi : i < z.size := by simpa using h1
   have hm : (n * z.size + i) % z.size = i := by rw [Nat.mul_comm, Nat.mul_add_mod, Nat.mod_eq_of_lt hi]
   simp [hm, hi]
theorem xOp_sound {st : Option Hp} {ρ : Env} {o : Oper} {a : Act} {h : Hp} {K : Value → Hp → Prop} {w : World} (hv : View w0 h w) (he : a.eval = evalO ρ) (hx : xOp P w0 st ρ o.op h K) :
  sX P o a w (fun w' => ∀ h0, st = some h0 → KeepH w0 h0 w w') (fun a' w' => ∃ v h', a' = a.put o.dst v ∧ K v h' ∧ View w0 h' w') := by
 have value : ∀ {v w' h'}, (execOp a.eval o).run P w = .ok (.value v) w' → (∀ h0, st = some h0 → KeepH w0 h0 w w') → K v h' → View w0 h' w' →
   sX P o a w (fun w' => ∀ h0, st = some h0 → KeepH w0 h0 w w') (fun a' w' => ∃ v h', a' = a.put o.dst v ∧ K v h' ∧ View w0 h' w') := by
  intro v w' h' hr hk hK hv'
  unfold sX
  rw [hr]
  exact ⟨hk, v, h', rfl, hK, hv'⟩
 have skip : ∀ {w' h'}, (execOp a.eval o).run P w = .ok .skip w' → (∀ h0, st = some h0 → KeepH w0 h0 w w') → K undef h' → View w0 h' w' →
   sX P o a w (fun w' => ∀ h0, st = some h0 → KeepH w0 h0 w w') (fun a' w' => ∃ v h', a' = a.put o.dst v ∧ K v h' ∧ View w0 h' w') := by
  intro w' h' hr hk hK hv'
  unfold sX
  rw [hr]
  exact ⟨hk, undef, h', rfl, hK, hv'⟩
 have ka : ∀ (ob : Obj) h0, st = some h0 → KeepH w0 h0 w (w.alloc ob) := fun ob h0 _ => KeepH.alloc h0 hv.below.size ob
 have take_self : ∀ (l : List Value), l.toArray.toList.take l.length = l := fun l => by simp
 unfold xOp at hx
 split at hx
 ·-- alloc
  rename_i t e
  split at hx
  ·rename_i z hz
   obtain ⟨zv, hzv, hzc⟩ := zcells_run hz
   refine value (v := .pointer (some ⟨w.heap.size, 0, none⟩)) (w' := w.alloc (.cells zv.cells t)) ?_ (ka _) (hx _ (view_fresh hv)) ?_
   ·rw [he]; unfold execOp; rw [e]
    simp [Instr.alloc, hzv, newVar, newRow]
   ·exact view_row_new hv t z _ _ (by rw [← hzc]; simp) (by rw [hzc]; exact List.take_length)
  ·exact hx.elim
 ·-- box
  rename_i t x e
  refine value (v := .pointer (some ⟨w.heap.size, 0, none⟩)) (w' := w.alloc (.cells (evalO ρ x).cells t)) ?_ (ka _) (hx _ (view_fresh hv)) ?_
  ·rw [he]; unfold execOp; rw [e]
   simp [Instr.box, newVar, newRow]
  ·exact view_row_new hv t _ _ _ (by rw [← vcells_cells]; simp) (by rw [vcells_cells]; exact List.take_length)
 ·-- buildSlice
  rename_i t n ps e
  split at hx
  ·rename_i el ht
   split at hx
   ·rename_i i z hi hz
    split at hx
    ·rename_i hok
     simp only [Bool.and_eq_true] at hok
     obtain ⟨⟨hks, hzl⟩, hmax⟩ := hok
     have hzl := Nat.eq_of_beq_eq_true hzl
     have hmax := Nat.le_of_ble_eq_true hmax
     have keys : (parts ρ ps.toList).map (·.1) = ps.toList.map (·.1) := by simp [parts]
     obtain ⟨cs, hcs, hx⟩ := segs_fill (place := fun j => some (j * i.size, i.size)) (szs := List.replicate n i.size)
      (fun j hj => by
       simp at hj
       simp [List.take_replicate, Nat.min_eq_left (Nat.le_of_lt hj), hj, List.sum_replicate_nat]) hx (by rw [keys]; simpa using hks) (by simp [List.length_flatten, List.sum_replicate_nat, hzl])
     obtain ⟨zv, hzv, hzc⟩ := zcells_run hz
     have hzs : zv.cells.size = i.size := by rw [← hzl, ← hzc]; simp
     have hr := run_buildSlice ht hi hzv hzs hmax (ps := ps.map fun (i, x) => (i, evalO ρ x)) (cs := cs) (by rw [parts_map, hzc]; exact hcs) w
     refine value (v := .slice (some ⟨w.heap.size, 0, none⟩) n n) (w' := w.alloc (.cells cs.toArray el)) ?_ (ka _) (hx _ (view_fresh hv)) ?_
     ·rw [he]; unfold execOp; rw [e]
      simp [hr]
     ·exact view_row_new hv el cs _ _ (by simp) (take_self cs)
    ·exact hx.elim
   ·exact hx.elim
  ·exact hx.elim
 ·-- makeMap
  rename_i t e
  split at hx
  ·refine value (v := .map (some w.heap.size)) (w' := w.alloc (.map #[] 0)) ?_ (ka _) (hx _ (view_fresh hv)) ?_
   ·rw [he]; unfold execOp; rw [e]
    simp [Instr.makeMap]
   ·exact view_alloc hv _ ⟨hv.below.size, #[], 0, heap_alloc_new w _, rfl, by simp, by simp, by simp⟩
  ·refine value (v := .map (some w.heap.size)) (w' := w.alloc (.map #[] 0)) ?_ (ka _) (hx _ (view_fresh hv)) ?_
   ·rw [he]; unfold execOp; rw [e]
    simp [Instr.makeMap]
   ·exact view_alloc hv _ ⟨hv.below.size, #[], 0, heap_alloc_new w _, rfl, by simp, by simp, by simp⟩
 ·-- makeChan
  rename_i t x e
  split at hx
  ·rename_i dir el k m ht hm
   split at hx
   ·rename_i i hi
    obtain ⟨h1, h2, hx⟩ := hx
    refine value (v := .chan (some w.heap.size)) (w' := w.alloc (.chan m #[] false 0 0 false)) ?_ (ka _) (hx _ (view_fresh hv)) ?_
    ·rw [he]; unfold execOp; rw [e]
     have := Conc.run_makeChan (P := P) (w := w) ht hi k m (by omega) (by omega)
     simp only [hm, Int.ofNat_eq_natCast]
     simp [this]
    ·exact view_alloc hv _ ⟨hv.below.size, heap_alloc_new w _⟩
   ·exact hx.elim
  ·exact hx.elim
 ·-- store
  rename_i t x v e
  split at hx
  ·rename_i i hi
   split at hx
   ·rename_i ad had
    obtain ⟨b, of, rfl, hx⟩ := nilCk_ex hx
    obtain ⟨hoff, el, c, sz, hb, hx⟩ := offK_ex hx
    have fin : ∀ vs, (evalO ρ v).cells.toList = vs → vs.length = i.size → allOne vs = true → of + vs.length ≤ c.length → K undef (h.set b (.row el (c.take of ++ vs ++ c.drop (of + vs.length)) sz)) →
      sX P o a w (fun w' => ∀ h0, st = some h0 → KeepH w0 h0 w w') (fun a' w' => ∃ v h', a' = a.put o.dst v ∧ K v h' ∧ View w0 h' w') := by
     intro vs hvs hlen hone hfit hK
     obtain ⟨w', hst, hv', hoth⟩ := store_cells (P := P) hv hb hfit hone
     refine skip (w' := w') ?_ (fun h0 hh => KeepH.write (hoff h0 hh) hv.below.size hoth) hK hv'
     rw [he]; unfold execOp; rw [e]
     have hsz : (evalO ρ v).cells.size = i.size := by rw [← hlen, ← hvs]; simp
     simp [Instr.storeAt, had, Instr.sureAddr, run_storeVar hi hsz, hvs, hst]
    split at hx
    ·rename_i cs hcs
     obtain ⟨h1, h2, h3, h4⟩ := hx
     exact fin cs.toList (by rw [hcs]; rfl) h1 h2 (by omega) (by rw [h1]; exact h4)
    ·exact hx.elim
    ·rename_i u hnt hna
     split at hx
     case h_2 => exact hx.elim
     rename_i hb1
     have h1 := Nat.eq_of_beq_eq_true hb1
     obtain ⟨h2, h3⟩ := hx
     have hcells : (evalO ρ v).cells.toList = [evalO ρ v] := by
      cases hu : evalO ρ v <;> first | rfl | (exfalso; exact hnt _ hu)
     refine fin [evalO ρ v] hcells (by simp [h1]) ?_ (by simp; omega) ?_
     ·simp only [allOne, List.all_cons, List.all_nil, Bool.and_true]
      cases hu : evalO ρ v <;> first | rfl | (exfalso; first | exact hnt _ hu | exact hna _ hu)
     ·have : c.take of ++ [evalO ρ v] ++ c.drop (of + 1) = c.set of (evalO ρ v) := by
       rw [List.set_eq_take_append_cons_drop, if_pos h2]; simp
      simpa [this] using h3
   ·exact hx.elim
  ·exact hx.elim
 ·-- mapUpdate
  rename_i t m k v e
  split at hx
  ·rename_i kt et r key ht hm hkey
   split at hx
   ·rename_i hkt
    obtain ⟨b, es, rfl, hb, hK⟩ := hx
    obtain ⟨hoff, hK⟩ := offK_ex hK
    obtain ⟨w', hr, hv', hoth⟩ := mapUpdate_sound hv ht hkt hb key (evalO ρ v)
    refine skip (w' := w') ?_ (fun h0 hh => KeepH.write (hoff h0 hh) hv.below.size hoth) hK hv'
    rw [he]; unfold execOp; rw [e]
    simp [hm, hkey, hr]
   ·exact hx.elim
  ·rename_i kt et r cs ht hm hkey
   obtain ⟨hkt, b, es, key, rfl, hb, hcs, hK⟩ := hx
   obtain ⟨hoff, hK⟩ := offK_ex hK
   obtain ⟨w', hr, hv', hoth⟩ := mapUpdate_pair hv ht hkt hb key (evalO ρ v)
   refine skip (w' := w') ?_ (fun h0 hh => KeepH.write (hoff h0 hh) hv.below.size hoth) hK hv'
   rw [he]; unfold execOp; rw [e]
   simp [hm, hkey, hcs, hr]
  ·exact hx.elim
 ·-- call
  rename_i c e
  split at hx
  ·rename_i f hc
   split at hx
   ·rename_i k first cap hf
    split at hx
    ·exact hx.elim
    ·rename_i ts hcal
     exact call_sound hv he e hc hf hcal hx
   ·obtain ⟨k, first, cap, ts, hf, hcal, hx⟩ := hx
    exact call_sound hv he e hc hf hcal hx
  ·-- append
   rename_i hc
   ·split at hx
    ·rename_i t t2 sa n cap a2 m c2 hat hav
     split at hx
     ·rename_i el el2 ht ht2
      split at hx
      ·rename_i i hi
       split at hx
       ·rename_i z hz
        split at hx
        case h_2 => exact hx.elim
        rename_i hzb
        have hzs : z.cells.size = i.size := by have := Nat.eq_of_beq_eq_true hzb; simpa using this
        obtain ⟨hoff, ys, hys, hx⟩ := offA_ex hx
        have ha : c.argTypes = #[t, t2] := by apply Array.ext'; simpa using hat
        have hvv : c.args.map (evalO ρ) = #[.slice sa n cap, .slice a2 m c2] := by apply Array.ext'; simpa using hav
        obtain ⟨v', w', h', hr, hK, hv', hkeep⟩ := append_sound (c2 := c2) hv o.type ht ht2 hi hz hzs hys hx
        refine value (v := v') (w' := w') (h' := h') ?_ (fun h0 hh => hkeep h0 (hoff h0 hh)) hK hv'
        rw [he]; unfold execOp; rw [e]
        simp [resolve, hc, hvv, ha, invoke, builtin, hr]
       ·exact hx.elim
      ·exact hx.elim
     ·exact hx.elim
    ·exact hx.elim
  ·-- clear of a slice
   rename_i hc
   split at hx
   ·rename_i t sa n cap hat hav
    split at hx
    ·rename_i el ht
     split at hx
     ·rename_i z hz
      obtain ⟨zv, hzv, hzc⟩ := zcells_run hz
      have ha : c.argTypes = #[t] := by apply Array.ext'; simpa using hat
      have hvv : c.args.map (evalO ρ) = #[.slice sa n cap] := by apply Array.ext'; simpa using hav
      split at hx
      ·refine value (v := .tuple #[]) (w' := w) (h' := h) ?_ (fun h0 _ => KeepH.refl h0 w) hx hv
       rw [he]; unfold execOp; rw [e]
       cases sa <;> simp [resolve, hc, hvv, ha, invoke, builtin, Builtin.clear_, run_underlying_of ht]
      ·rename_i n
       obtain ⟨b, of, rfl, hx⟩ := nilCk_ex hx
       obtain ⟨hoff, el2, c2, sz, hb, hz0, hone, hfit, hK⟩ := offK_ex hx
       obtain ⟨w', hst, hv', hoth⟩ := store_cells (P := P) hv hb hfit hone
       refine value (v := .tuple #[]) (w' := w') ?_ (fun h0 hh => KeepH.write (hoff h0 hh) hv.below.size hoth) hK hv'
       have hzl : (Builtin.zeroCells zv.cells (n + 1)).toList = (List.replicate (n + 1) z).flatten := by rw [zeroCells_list, hzc]
       rw [he]; unfold execOp; rw [e]
       simp [resolve, hc, hvv, ha, invoke, builtin, Builtin.clear_, run_underlying_of ht, hzv, hzl, hst]
     ·exact hx.elim
    ·exact hx.elim
   ·exact hx.elim
  ·-- len of a channel
   rename_i hc
   split at hx
   ·rename_i t r hat hav
    split at hx
    ·rename_i dir el ht
     obtain ⟨b, cap, buf, cl, s, rr, rfl, hb, hK⟩ := hx
     have ha : c.argTypes = #[t] := by apply Array.ext'; simpa using hat
     have hvv : c.args.map (evalO ρ) = #[.chan (some b)] := by apply Array.ext'; simpa using hav
     have hw := (hv.blk b _ hb).2
     refine value (v := .int .i64 buf.size) (w' := w) (h' := h) ?_ (fun h0 _ => KeepH.refl h0 w) hK hv
     rw [he]; unfold execOp; rw [e]
     have := Conc.run_len_chan (P := P) t o.type ht hw
     simp [resolve, hc, hvv, ha, invoke, builtin, this, goInt]
    ·exact hx.elim
   ·exact hx.elim
  ·-- delete
   rename_i hc
   split at hx
   ·rename_i t tr r key hat hav
    split at hx
    ·rename_i kt et ht
     split at hx
     ·rename_i hkt
      obtain ⟨b, es, rfl, hb, hK⟩ := hx
      have hvv : c.args.map (evalO ρ) = #[.map (some b), .int .i64 key] := by apply Array.ext'; simpa using hav
      have hat0 : c.argTypes[0]? = some t := by rw [← Array.getElem?_toList, hat]; rfl
      obtain ⟨w', hr, hv'⟩ := delete_sound hv ht hkt hb key c.argTypes hat0 o.type
      refine value (v := .tuple #[]) (w' := w') ?_ (fun h0 hh => by cases hh) hK hv'
      rw [he]; unfold execOp; rw [e]
      simp [resolve, hc, hvv, invoke, builtin, hr]
     ·exact hx.elim
    ·exact hx.elim
   ·rename_i t tr r cs hat hav
    split at hx
    ·rename_i kt et ht
     obtain ⟨hkt, b, es, key, rfl, hb, hcs, hK⟩ := hx
     have hvv : c.args.map (evalO ρ) = #[.map (some b), pairV key] := by rw [← hcs]; apply Array.ext'; simpa using hav
     have hat0 : c.argTypes[0]? = some t := by rw [← Array.getElem?_toList, hat]; rfl
     obtain ⟨w', hr, hv'⟩ := delete_pair hv ht hkt hb key c.argTypes hat0 o.type
     refine value (v := .tuple #[]) (w' := w') ?_ (fun h0 hh => by cases hh) hK hv'
     rw [he]; unfold execOp; rw [e]
     simp [resolve, hc, hvv, invoke, builtin, hr]
    ·exact hx.elim
   ·exact hx.elim
  ·exact hx.elim
 ·exact hx.elim
end
end Go.Vw
