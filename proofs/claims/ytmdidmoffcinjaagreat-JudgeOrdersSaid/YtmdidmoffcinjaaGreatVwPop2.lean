import Derived.Test.YtmdidmoffcinjaaGreatVwPop
namespace Go.Vw
open Go Go.RowKit
section
variable {P : Program}
theorem splice_set (l : List Value) (o : Nat) (v : Value) (vs : List Value) (h : o + (vs.length + 1) ≤ l.length) :
  (l.set o v).take (o + 1) ++ vs ++ (l.set o v).drop (o + 1 + vs.length) = l.take o ++ (v :: vs) ++ l.drop (o + (vs.length + 1)) := list_seg_step l o v vs h
theorem foldl_splice : ∀ (vs : List Value) (k off : Nat) (cells : List Value), off + k + vs.length ≤ cells.length →
  (vs.zipIdx k).foldl (fun (cs : Array Value) x => cs.setIfInBounds (off + x.2) x.1) cells.toArray = (cells.take (off + k) ++ vs ++ cells.drop (off + k + vs.length)).toArray
 | [], k, off, cells, h => by simp
 | v :: vs, k, off, cells, h => by
  simp only [List.zipIdx_cons, List.foldl_cons, List.length_cons] at h ⊢
  have e : cells.toArray.setIfInBounds (off + k) v = (cells.set (off + k) v).toArray := by simp
  rw [e, foldl_splice vs (k + 1) off (cells.set (off + k) v) (by simp; omega)]
  have := splice_set cells (off + k) v vs (by omega)
  rw [← this]
  simp [Nat.add_assoc, Nat.add_comm 1]
theorem fillL_fill (place : Nat → Option (Nat × Nat)) : ∀ (ps : List (Nat × Value)) (cells cs : List Value), fillL place cells ps = some cs → Instr.fill place cells.toArray ps = some cs.toArray
 | [], cells, cs, h => by simp [fillL] at h; simp [Instr.fill, h]
 | (i, v) :: rest, cells, cs, h => by
  unfold fillL at h
  unfold Instr.fill
  split at h
  ·cases h
  ·rename_i off size hp
   rw [hp]
   dsimp only
   split at h
   ·rename_i xs
    split at h
    ·cases h
    ·rename_i h1
     split at h
     ·cases h
     ·rename_i h2
      have h1' : xs.toList.length = size := by omega
      have h2' : off + size ≤ cells.length := by omega
      have h1'' : xs.size = size := by simpa using h1'
      have hca : cells.toArray.size = cells.length := by simp
      have hc : ¬ ((decide ((Value.agg xs).cells.size ≠ size) || decide (off + (Value.agg xs).cells.size > cells.toArray.size)) = true) := by
       show ¬ ((decide (xs.size ≠ size) || decide (off + xs.size > cells.toArray.size)) = true)
       rw [Bool.or_eq_true, decide_eq_true_eq, decide_eq_true_eq]; omega
      rw [if_neg hc]
      have := foldl_splice xs.toList 0 off cells (by rw [h1']; exact h2')
      simp only [Nat.add_zero] at this
      have e : ((Value.agg xs).cells.zipIdx.foldl (fun (cs : Array Value) x => cs.setIfInBounds (off + x.2) x.1) cells.toArray) = (cells.take off ++ xs.toList ++ cells.drop (off + size)).toArray := by
       rw [← h1', ← this, ← Array.foldl_toList]
       simp [Value.cells, Array.toList_zipIdx]
      rw [e]
      exact fillL_fill place rest _ cs h
   ·rename_i hv
    split at h
    ·cases h
    ·rename_i h1
     split at h
     ·cases h
     ·rename_i h2
      have hcells : v.cells = #[v] := by cases v <;> first | rfl | (exfalso; exact hv _ rfl)
      have hc : (decide (v.cells.size ≠ size) || decide (off + v.cells.size > cells.toArray.size)) = false := by
       rw [hcells]; simp; omega
      rw [if_neg (by simpa using hc)]
      have e : (v.cells.zipIdx.foldl (fun (cs : Array Value) x => cs.setIfInBounds (off + x.2) x.1) cells.toArray) = (cells.set off v).toArray := by
       rw [hcells]; simp
      rw [e]
      exact fillL_fill place rest _ cs h
def asm (ps : List (Nat × Value)) : Nat → List Nat → List Value → List Value
 | _, [], _ => []
 | i, s :: r, z => (match lookP i ps with | none => z.take s | some v => vcells v) ++ asm ps (i + 1) r (z.drop s)
theorem vcells_of {v : Value} (h : ∀ a, v ≠ .agg a) : vcells v = [v] := by cases v <;> first | rfl | exact absurd rfl (h _)
theorem segs_ex (ps : List (Nat × Value)) : ∀ (szs : List Nat) (i : Nat) (z : List Value) (K : List Value → Prop), segs ps i szs z K →
  K (asm ps i szs z) ∧ ∀ j v, lookP (i + j) ps = some v → ∀ s, szs[j]? = some s → (vcells v).length = s
 | [], i, z, K, h => ⟨h, fun j v _ s hs => by simp at hs⟩
 | s :: r, i, z, K, h => by
  have step : ∀ (K' : List Value → Prop), segs ps (i + 1) r (z.drop s) K' → (∀ v, lookP i ps = some v → (vcells v).length = s) →
    K' (asm ps (i + 1) r (z.drop s)) ∧ ∀ j v, lookP (i + j) ps = some v → ∀ s', (s :: r)[j]? = some s' → (vcells v).length = s' := by
   intro K' hk h0
   obtain ⟨h1, h2⟩ := segs_ex ps r (i + 1) (z.drop s) K' hk
   refine ⟨h1, fun j v hj s' hs => ?_⟩
   cases j with
   | zero => simp at hs; subst hs; exact h0 v (by simpa using hj)
   | succ j => exact h2 j v (by rw [Nat.add_assoc, Nat.add_comm 1 j]; exact hj) s' (by simpa using hs)
  unfold segs at h
  unfold asm
  split at h
  ·rename_i hl
   rw [hl]
   exact step _ h (fun v hv => by rw [hl] at hv; cases hv)
  ·rename_i a hl
   rw [hl]
   obtain ⟨ha, h⟩ := h
   exact step _ h (fun v hv => by rw [hl] at hv; cases hv; exact ha)
  ·rename_i v hna hl
   rw [hl]
   split at h
   ·rename_i hs
    have hs' := Nat.eq_of_beq_eq_true hs
    have hv : vcells v = [v] := vcells_of (fun a ha => hna a ha)
    have := step _ h (fun u hu => by rw [hl] at hu; cases hu; rw [hv, hs']; rfl)
    dsimp only
    rw [hv]
    exact this
   ·exact h.elim
theorem lookP_none {i : Nat} : ∀ {ps : List (Nat × Value)}, i ∉ ps.map (·.1) → lookP i ps = none
 | [], _ => rfl
 | (j, v) :: r, h => by
  simp only [List.map_cons, List.mem_cons, not_or] at h
  have : Nat.beq i j = false := by
   cases hx : Nat.beq i j
   ·rfl
   ·exact absurd (Nat.eq_of_beq_eq_true hx) h.1
  simp only [lookP, this]
  exact lookP_none h.2
theorem lookP_skip {i j : Nat} (v : Value) (ps : List (Nat × Value)) (h : i ≠ j) : lookP i ((j, v) :: ps) = lookP i ps := by
 have : Nat.beq i j = false := by
  cases hx : Nat.beq i j
  ·rfl
  ·exact absurd (Nat.eq_of_beq_eq_true hx) h
 simp [lookP, this]
theorem lookP_hit (j : Nat) (v : Value) (ps : List (Nat × Value)) : lookP j ((j, v) :: ps) = some v := by
 simp only [lookP, Nat.beq_refl]
theorem asm_congr {ps qs : List (Nat × Value)} : ∀ (szs : List Nat) (i : Nat) (z : List Value), (∀ j, i ≤ j → lookP j ps = lookP j qs) → asm ps i szs z = asm qs i szs z
 | [], _, _, _ => rfl
 | s :: r, i, z, h => by
  simp only [asm, h i (Nat.le_refl i)]
  rw [asm_congr r (i + 1) (z.drop s) (fun j hj => h j (by omega))]
theorem sum_take_le (szs : List Nat) (d : Nat) (h : d < szs.length) : (szs.take d).sum + szs.getD d 0 ≤ szs.sum := by
 induction szs generalizing d with
 | nil => simp at h
 | cons s r ih =>
  cases d with
  | zero => simp
  | succ d =>
   have := ih d (by simpa using h)
   simp only [List.take_succ_cons, List.sum_cons, List.getD_cons_succ]
   omega
theorem asm_put {ps : List (Nat × Value)} {v : Value} : ∀ (szs : List Nat) (i d : Nat) (z : List Value), d < szs.length → (vcells v).length = szs.getD d 0 → (i + d) ∉ ps.map (·.1) → szs.sum ≤ z.length →
  asm ps i szs (z.take ((szs.take d).sum) ++ vcells v ++ z.drop ((szs.take d).sum + szs.getD d 0)) = asm ((i + d, v) :: ps) i szs z
 | [], i, d, z, h, _, _, _ => by simp at h
 | s :: r, i, 0, z, _, hv, hn, hz => by
  simp only [Nat.add_zero] at hn ⊢
  simp only [List.take_zero, List.sum_nil, List.nil_append, Nat.zero_add, asm, lookP_none hn, lookP_hit]
  simp at hv
  rw [List.take_left' hv, List.drop_left' hv]
  simp only [List.getD_cons_zero]
  rw [asm_congr (ps := ps) (qs := (i, v) :: ps) r (i + 1) (z.drop s) (fun j hj => (lookP_skip (j := i) v ps (by omega)).symm)]
 | s :: r, i, d + 1, z, hd, hv, hn, hz => by
  simp only [List.sum_cons] at hz
  have hle := sum_take_le r d (by simpa using hd)
  have e1 : (z.take (((s :: r).take (d + 1)).sum) ++ vcells v ++ z.drop (((s :: r).take (d + 1)).sum + (s :: r).getD (d + 1) 0)).take s = z.take s := by
   simp only [List.take_succ_cons, List.sum_cons, List.append_assoc]
   rw [List.take_append_of_le_length (by simp; omega), List.take_take]
   congr 1; omega
  have e2 : (z.take (((s :: r).take (d + 1)).sum) ++ vcells v ++ z.drop (((s :: r).take (d + 1)).sum + (s :: r).getD (d + 1) 0)).drop s = (z.drop s).take ((r.take d).sum) ++ vcells v ++ (z.drop s).drop ((r.take d).sum + r.getD d 0) := by
   simp only [List.take_succ_cons, List.sum_cons, List.append_assoc, List.getD_cons_succ]
   have d1 : (z.take (s + (r.take d).sum)).drop s = (z.drop s).take ((r.take d).sum) := by
    rw [List.drop_take]; congr 1; omega
   have d2 : z.drop (s + (r.take d).sum + r.getD d 0) = (z.drop s).drop ((r.take d).sum + r.getD d 0) := by
    rw [List.drop_drop]; congr 1; omega
   rw [List.drop_append_of_le_length (by simp; omega), d1, d2]
  simp only [asm, e1, e2]
  rw [lookP_skip v ps (by omega)]
  have := asm_put (ps := ps) (v := v) r (i + 1) d (z.drop s) (by simpa using hd) (by simpa using hv) (by rw [Nat.add_assoc, Nat.add_comm 1 d]; exact hn) (by simp; omega)
  rw [this, Nat.add_assoc, Nat.add_comm 1 d]
theorem asm_nil : ∀ (szs : List Nat) (i : Nat) (z : List Value), z.length = szs.sum → asm [] i szs z = z
 | [], _, z, h => by simp at h; subst h; rfl
 | s :: r, i, z, h => by
  simp only [List.sum_cons] at h
  simp only [asm, lookP]
  rw [asm_nil r (i + 1) (z.drop s) (by simp; omega), List.take_append_drop]
theorem distinct_ok : ∀ (l : List Nat), distinct l = true → l.Nodup
 | [], _ => by simp
 | x :: r, h => by
  simp only [distinct, Bool.and_eq_true, List.all_eq_true] at h
  refine List.nodup_cons.2 ⟨fun hm => ?_, distinct_ok r h.2⟩
  have := h.1 x hm
  simp [Nat.beq_refl] at this
theorem fillL_asm (place : Nat → Option (Nat × Nat)) (szs : List Nat) (hp : ∀ j, j < szs.length → place j = some ((szs.take j).sum, szs.getD j 0)) :
  ∀ (ps : List (Nat × Value)) (cells : List Value), (ps.map (·.1)).Nodup → (∀ x ∈ ps, x.1 < szs.length) → (∀ x ∈ ps, (vcells x.2).length = szs.getD x.1 0) → cells.length = szs.sum →
   fillL place cells ps = some (asm ps 0 szs cells)
 | [], cells, _, _, _, hl => by rw [asm_nil szs 0 cells hl]; rfl
 | (j, v) :: rest, cells, hn, hlt, hsz, hl => by
  simp only [List.map_cons, List.nodup_cons] at hn
  have hj : j < szs.length := hlt (j, v) (by simp)
  have hv : (vcells v).length = szs.getD j 0 := hsz (j, v) (by simp)
  have hle := sum_take_le szs j hj
  have hput := asm_put (ps := rest) (v := v) szs 0 j cells hj hv (by simpa using hn.1) (by omega)
  simp only [Nat.zero_add] at hput
  have ih := fillL_asm place szs hp rest (cells.take ((szs.take j).sum) ++ vcells v ++ cells.drop ((szs.take j).sum + szs.getD j 0)) hn.2 (fun x hx => hlt x (by simp [hx])) (fun x hx => hsz x (by simp [hx]))
   (by simp only [List.length_append, List.length_take, List.length_drop, hv]; omega)
  rw [hput] at ih
  rw [← ih]
  conv => lhs; unfold fillL
  rw [hp j hj]
  dsimp only
  split
  ·rename_i cs
   have hv' : cs.toList.length = szs.getD j 0 := hv
   rw [if_neg (by omega), if_neg (by omega)]
   rfl
  ·rename_i hna
   have hv1 : vcells v = [v] := vcells_of (fun a ha => hna a ha)
   rw [hv1] at hv ⊢
   have h1 : szs.getD j 0 = 1 := by rw [← hv]; rfl
   rw [h1] at hle ⊢
   rw [if_neg (by omega), if_neg (by omega)]
   rw [List.set_eq_take_append_cons_drop, if_pos (by omega)]
   simp
theorem lookP_mem : ∀ {ps : List (Nat × Value)} {x : Nat × Value}, (ps.map (·.1)).Nodup → x ∈ ps → lookP x.1 ps = some x.2
 | (j, v) :: r, x, hn, hx => by
  simp only [List.map_cons, List.nodup_cons] at hn
  rcases List.mem_cons.1 hx with rfl | hx
  ·exact lookP_hit _ _ _
  ·have hne : x.1 ≠ j := fun e => hn.1 (by rw [← e]; exact List.mem_map.2 ⟨x, hx, rfl⟩)
   obtain ⟨a, b⟩ := x
   rw [lookP_skip v r hne]
   exact lookP_mem hn.2 hx
theorem segs_fill {place : Nat → Option (Nat × Nat)} {szs : List Nat} (hp : ∀ j, j < szs.length → place j = some ((szs.take j).sum, szs.getD j 0)) {ps : List (Nat × Value)} {z : List Value} {K : List Value → Prop}
  (h : segs ps 0 szs z K) (hok : segOk szs.length (ps.map (·.1)) = true) (hz : z.length = szs.sum) : ∃ cs, fillL place z ps = some cs ∧ K cs := by
 obtain ⟨hk, hl⟩ := segs_ex ps szs 0 z K h
 simp only [segOk, Bool.and_eq_true, List.all_eq_true] at hok
 have hn := distinct_ok _ hok.1
 have hlt : ∀ x ∈ ps, x.1 < szs.length := fun x hx => by
  have := hok.2 x.1 (List.mem_map.2 ⟨x, hx, rfl⟩)
  simpa using this
 refine ⟨_, fillL_asm place szs hp ps z hn hlt (fun x hx => ?_) hz, hk⟩
 have h1 := hlt x hx
 refine hl x.1 x.2 (by rw [Nat.zero_add]; exact lookP_mem hn hx) _ ?_
 simp [h1]
theorem fieldSizes_ok {P : Program} : ∀ (fs : List Field) (off : Nat) (szs : List Nat), fieldSizes P off fs = some szs → szs.length = fs.length ∧ (∀ f ∈ fs, (P.info? f.type).isSome = true) ∧
  ∀ j, j < fs.length → (fs[j]?).map (fun f => (f.offset, P.cellsOf f.type)) = some (off + (szs.take j).sum, szs.getD j 0)
 | [], off, szs, h => by simp [fieldSizes] at h; subst h; simp
 | f :: fs, off, szs, h => by
  unfold fieldSizes at h
  split at h
  ·cases h
  ·rename_i i hi
   split at h
   ·cases h
   ·rename_i ho
    have ho' := Nat.eq_of_beq_eq_true ho
    split at h
    ·rename_i l hl
     simp at h; subst h
     obtain ⟨h1, h2, h3⟩ := fieldSizes_ok fs _ l hl
     refine ⟨by simp [h1], ?_, ?_⟩
     ·intro g hg
      rcases List.mem_cons.1 hg with rfl | hg
      ·simp [hi]
      ·exact h2 g hg
     ·intro j hj
      cases j with
      | zero => simp [ho', Program.cellsOf, hi]
      | succ j =>
       have := h3 j (by simpa using hj)
       simp only [List.getElem?_cons_succ, List.take_succ_cons, List.sum_cons, List.getD_cons_succ]
       rw [this, Nat.add_assoc]
    ·cases h
theorem parts_map (ρ : Env) (ps : Array (Nat × Operand)) : (ps.map fun (x : Nat × Operand) => (x.1, evalO ρ x.2)).toList = parts ρ ps.toList := by simp [parts]
theorem optInt_lo {v : Option Value} {d : Int} {K : Int → Prop} (h : optInt v d K) : ∃ n, K n ∧ ((v = none ∧ n = d) ∨ ∃ k, v = some (.int k n)) := by
 unfold optInt at h
 split at h
 ·exact ⟨d, h, .inl ⟨rfl, rfl⟩⟩
 ·exact ⟨_, h, .inr ⟨_, rfl⟩⟩
 ·exact h.elim
theorem run_sliceBounds {isSlice : Bool} {n c : Nat} {lo hi : Option Value} {l h : Int} (hl : (lo = none ∧ l = 0) ∨ ∃ k, lo = some (.int k l)) (hh : (hi = none ∧ h = n) ∨ ∃ k, hi = some (.int k h))
  (h0 : 0 ≤ l) (h1 : l ≤ h) (h2 : h ≤ c) (w : World) : (Instr.sliceBounds isSlice n c lo hi none).run P w = .ok (l.toNat, h.toNat, c) w := by
 have hb : ∀ (k : IntKind) (i : Int) (y : Nat) (code : BoundsCode), 0 ≤ i → i ≤ y → (Instr.sliceBound (.int k i) y code).run P w = .ok i.toNat w := fun k i y code a b => run_sliceBound w k i y code a b
 unfold Instr.sliceBounds
 rcases hl with ⟨rfl, rfl⟩ | ⟨k, rfl⟩ <;> rcases hh with ⟨rfl, rfl⟩ | ⟨k', rfl⟩
 ·simp
 ·simp [hb k' h c _ (by omega) h2]
 ·have := hb k l n .sliceB h0 h1
  simp [this]
 ·have e1 := hb k' h c (if isSlice = true then BoundsCode.sliceAcap else BoundsCode.sliceAlen) (by omega) h2
  have e2 := hb k l h.toNat .sliceB h0 (by omega)
  simp [e1, e2]
theorem partOf_ex {t : TypeId} {cs : List Value} {off : Nat} {K : Value → Prop} (h : partOf P t cs off K) : ∃ v, (∀ w, (part t cs.toArray off).run P w = .ok v w) ∧ K v := by
 unfold partOf at h
 split at h
 ·rename_i i d hi hd
  obtain ⟨v, hv, hk⟩ := anyOf_ex h
  exact ⟨v, fun w => part_run hd hi (by rw [hd]; exact hv) w, hk⟩
 ·exact h.elim
theorem places_all : ∀ (l : List Field), l.all (fun f => (P.info? f.type).isSome) = true →
  l.mapM (fun f => (P.info? f.type).map fun i => (f.offset, i.size)) = some (l.map fun f => (f.offset, P.cellsOf f.type))
 | [], _ => by simp
 | f :: l, hl => by
  simp only [List.all_cons, Bool.and_eq_true] at hl
  obtain ⟨i, hi⟩ := Option.isSome_iff_exists.1 hl.1
  simp [List.mapM_cons, hi, places_all l hl.2, Program.cellsOf]
theorem pOp_sound {ρ : Env} {o : Oper} {K : Value → Prop} (h : pOp P ρ o.op K) :
  ∃ v, (∀ w, (execOp (evalO ρ) o).run P w = .ok (.value v) w) ∧ K v := by
 unfold pOp at h
 unfold execOp
 split at h
 ·rename_i x e; rw [e]; exact ⟨_, fun w => rfl, h⟩
 ·rename_i x e; rw [e]; exact ⟨_, fun w => rfl, h⟩
 ·-- pick
  rename_i c a b e
  rw [e]
  split at h
  ·rename_i t ht
   have h' := bcase_if h
   cases t
   ·exact ⟨evalO ρ b, fun w => by simp [ht, asBool], by simpa using h'⟩
   ·exact ⟨evalO ρ a, fun w => by simp [ht, asBool], by simpa using h'⟩
  ·exact h.elim
 ·-- nilCheck
  rename_i x e
  rw [e]
  split at h
  ·rename_i a ha
   obtain ⟨b, o', rfl, hk⟩ := nilCk_ex h
   exact ⟨_, fun w => by simp [ha], hk⟩
  ·exact h.elim
 ·-- binOp
  rename_i op t x y yt e
  rw [e]
  obtain ⟨v, hv, hk⟩ := pBin_sound (a := x) (b := y) h
  exact ⟨v, fun w => by simpa using run_v _ v w (hv w), hk⟩
 ·-- unOp
  rename_i op t x e
  rw [e]
  split at h
  ·rename_i b hb; exact ⟨_, fun w => by simp [hb, Op.unary], h⟩
  ·rename_i k n hb; exact ⟨_, fun w => by simp [hb, Op.unary, Op.intArith], h⟩
  ·exact h.elim
 ·-- convert
  rename_i s d x e
  rw [e]
  split at h
  ·rename_i k0 k k' n hs hd hx
   refine ⟨_, fun w => ?_, h⟩
   simp only [convert, hx, Sem.run_bind, run_underlying_of hs, run_underlying_of hd, Result.andThen_ok, Conv.intToInt, Sem.run_pure]
  ·exact h.elim
 ·-- fieldAddr
  rename_i t x f e
  rw [e]
  split at h
  ·rename_i fs ht
   split at h
   ·rename_i fl hf
    split at h
    ·rename_i i hi
     split at h
     ·exact h.elim
     ·rename_i hz
      split at h
      ·rename_i a ha
       obtain ⟨b, o', rfl, hk⟩ := nilCk_ex h
       have hz' : i.size ≠ 0 := fun h0 => by simp [h0] at hz
       refine ⟨_, fun w => ?_, hk⟩
       simp [Instr.fieldAt, run_underlying_of ht, hf, ha, Instr.sureAddr, fieldPlace, run_sizeOf_of hi, hz', addr_add]
      ·exact h.elim
    ·exact h.elim
   ·exact h.elim
  ·exact h.elim
 ·-- indexAddr
  rename_i t x ix e
  rw [e]
  split at h
  ·rename_i n el ht
   split at h
   ·rename_i i hi
    split at h
    ·rename_i a ha
     obtain ⟨k, j, hj, h⟩ := intOfV_ex h
     obtain ⟨b, o', rfl, h0, h1, hk⟩ := nilCk_ex h
     refine ⟨_, fun w => ?_, hk⟩
     simp [Instr.indexAt, hj, asIntOf, run_underlying_of ht, ha, Instr.sureAddr, h0, h1, run_sizeOf_of hi, addr_add]
    ·exact h.elim
   ·exact h.elim
  ·rename_i el ht
   split at h
   ·rename_i i hi
    split at h
    ·rename_i a n c ha
     obtain ⟨k, j, hj, h⟩ := intOfV_ex h
     obtain ⟨b, o', rfl, h0, h1, hk⟩ := nilCk_ex h
     refine ⟨_, fun w => ?_, hk⟩
     simp [Instr.indexAt, hj, asIntOf, run_underlying_of ht, ha, h0, h1, run_sizeOf_of hi, addr_add]
    ·exact h.elim
   ·exact h.elim
  ·exact h.elim
 ·-- index
  rename_i t x ix e
  rw [e]
  split at h
  ·rename_i n el ht
   split at h
   ·rename_i i cs hi hx
    obtain ⟨k, j, hj, h0, h1, h⟩ := intOfV_ex h
    obtain ⟨v, hv, hk⟩ := partOf_ex h
    refine ⟨v, fun w => ?_, hk⟩
    simp [Instr.index, hj, asIntOf, run_underlying_of ht, hx, h0, h1, run_sizeOf_of hi, hv]
   ·exact h.elim
  ·rename_i ht
   split at h
   ·rename_i s hs
    obtain ⟨k, j, hj, h0, c, hc, hk⟩ := intOfV_ex h
    refine ⟨_, fun w => ?_, hk⟩
    have hc' : s[j.toNat]? = some c := by
     obtain ⟨hlt, he⟩ := List.getElem?_eq_some_iff.1 hc
     have hlt' : j.toNat < s.size := by simpa using hlt
     rw [getElem?_pos s j.toNat hlt', ← he]
     rfl
    simp [Instr.index, hj, asIntOf, run_underlying_of ht, hs, h0, hc']
   ·exact h.elim
  ·exact h.elim
 ·-- field
  rename_i t x f e
  rw [e]
  split at h
  ·rename_i fs ht
   split at h
   ·rename_i fl hf
    split at h
    ·rename_i cs hx
     obtain ⟨v, hv, hk⟩ := partOf_ex h
     refine ⟨v, fun w => ?_, hk⟩
     simp [Instr.field, run_underlying_of ht, hf, hx, asAgg, hv]
    ·exact h.elim
   ·exact h.elim
  ·exact h.elim
 ·-- build
  rename_i t ps e
  rw [e]
  have zero : ∀ z, zcells P t = some z → ∃ zv, (P.info? t).bind (·.zero) = some zv ∧ zv.cells.toList = z := by
   intro z hz
   unfold zcells at hz
   cases hx : (P.info? t).bind (·.zero) with
   | none => rw [hx] at hz; simp at hz
   | some zv => rw [hx] at hz; simp at hz; exact ⟨zv, rfl, hz⟩
  have keys : (parts ρ ps.toList).map (·.1) = ps.toList.map (·.1) := by simp [parts]
  split at h
  ·rename_i fs z ht hz
   obtain ⟨zv, hzv, hzc⟩ := zero z hz
   split at h
   ·rename_i szs hszs
    split at h
    ·rename_i hok
     simp only [Bool.and_eq_true] at hok
     obtain ⟨hl, hall, hpl⟩ := fieldSizes_ok fs.toList 0 szs hszs
     obtain ⟨cs, hcs, hk⟩ := segs_fill (place := fun i => (fs[i]?).map fun (f : Field) => (f.offset, P.cellsOf f.type)) (szs := szs)
      (fun j hj => by have := hpl j (by omega); simpa using this) h (by rw [keys]; exact hok.1) (Nat.eq_of_beq_eq_true hok.2).symm
     refine ⟨_, fun w => ?_, hk⟩
     have hfill := fillL_fill _ _ _ _ hcs
     have hb : (Instr.build t (ps.map fun (i, x) => (i, evalO ρ x))).run P w = .ok (.agg cs.toArray) w := by
      refine run_build w t _ _ ?_
      cases hit : P.info? t with
      | none => simp [hit] at hzv
      | some it =>
       have hz' : it.zero = some zv := by simpa [hit] using hzv
       have hp := places_all (P := P) fs.toList (List.all_eq_true.2 hall)
       have e1 : (fun (x : Nat) => (fs.toList.map fun (f : Field) => (f.offset, P.cellsOf f.type)).toArray[x]?) = (fun (i : Nat) => (fs[i]?).map fun (f : Field) => (f.offset, P.cellsOf f.type)) := by
        funext i
        simp
       unfold Program.built
       simp only [hit, ht, hz', hp, e1]
       rw [← hfill, parts_map]
       rw [← hzc]
     simp [hb]
    ·exact h.elim
   ·exact h.elim
  ·rename_i n el z ht hz
   obtain ⟨zv, hzv, hzc⟩ := zero z hz
   split at h
   ·rename_i ie hie
    split at h
    ·rename_i hok
     simp only [Bool.and_eq_true] at hok
     have hzl := Nat.eq_of_beq_eq_true hok.2
     obtain ⟨cs, hcs, hk⟩ := segs_fill (place := fun i => some (i * ie.size, ie.size)) (szs := List.replicate n ie.size)
      (fun j hj => by
       simp at hj
       simp [List.take_replicate, Nat.min_eq_left (Nat.le_of_lt hj), hj, List.sum_replicate_nat]) h (by rw [keys]; simpa using hok.1) (by simp [List.sum_replicate_nat, hzl])
     refine ⟨_, fun w => ?_, hk⟩
     have hfill := fillL_fill _ _ _ _ hcs
     have hb : (Instr.build t (ps.map fun (i, x) => (i, evalO ρ x))).run P w = .ok (.agg cs.toArray) w := by
      refine run_build w t _ _ ?_
      cases hit : P.info? t with
      | none => simp [hit] at hzv
      | some it =>
       have hz' : it.zero = some zv := by simpa [hit] using hzv
       unfold Program.built
       simp only [hit, ht, hz', hie]
       rw [← hfill, parts_map]
       rw [← hzc]
     simp [hb]
    ·exact h.elim
   ·exact h.elim
  ·exact h.elim
 ·-- extract
  rename_i x i e
  rw [e]
  split at h
  ·rename_i vs hx
   split at h
   ·rename_i v hv
    refine ⟨v, fun w => ?_, h⟩
    have hv' : vs[i]? = some v := by simpa using hv
    simp [hx, Instr.extract, hv']
   ·exact h.elim
  ·exact h.elim
 ·-- makeFunc
  rename_i f a b e
  rw [e]
  refine ⟨_, fun w => ?_, h⟩
  rw [← arr_map, ← arr_map]
  rfl
 ·-- slice
  rename_i t x lo hi e
  rw [e]
  have sl : ∀ {a : Option Addr} {n c sz : Nat} {K : Value → Prop}, pSliced a n c sz (lo.map (evalO ρ)) (hi.map (evalO ρ)) K →
    ∃ l h : Int, (∀ b w, (Instr.sliceBounds b n c (lo.map (evalO ρ)) (hi.map (evalO ρ)) none).run P w = .ok (l.toNat, h.toNat, c) w) ∧ K (.slice (slA a c l.toNat sz) (h.toNat - l.toNat) (c - l.toNat)) := by
   intro a n c sz K h
   obtain ⟨l, h, hl⟩ := optInt_lo h
   obtain ⟨u, ⟨h0, h1, h2, hk⟩, hu⟩ := optInt_lo h
   exact ⟨l, u, fun b w => run_sliceBounds hl hu h0 h1 h2 w, hk⟩
  split at h
  ·rename_i el ht
   split at h
   ·rename_i i a n c hi' hx
    obtain ⟨l, u, hb, hk⟩ := sl h
    refine ⟨_, fun w => ?_, hk⟩
    simp [Instr.sliceAt, Instr.slice, run_underlying_of ht, hx, hb, run_sizeOf_of hi', slA]
   ·exact h.elim
  ·rename_i n el ht
   split at h
   ·rename_i i a hi' hx
    obtain ⟨b, o', rfl, h⟩ := nilCk_ex h
    obtain ⟨l, u, hb, hk⟩ := sl h
    refine ⟨_, fun w => ?_, hk⟩
    simp only [Option.map_none, Instr.sliceAt, Sem.run_bind, run_underlying_of ht, Result.andThen_ok, hx, Instr.sureAddr, Sem.run_pure, hb, run_sizeOf_of hi', slA, Option.map_some]
    split <;> rfl
   ·exact h.elim
  ·rename_i ht
   split at h
   ·rename_i s hx
    obtain ⟨l, h, hl⟩ := optInt_lo h
    obtain ⟨u, ⟨h0, h1, h2, hk⟩, hu⟩ := optInt_lo h
    have hb := run_sliceBounds (P := P) (isSlice := false) (c := s.size) hl hu h0 h1 h2
    refine ⟨_, fun w => ?_, hk⟩
    simp [Instr.sliceAt, Instr.slice, run_underlying_of ht, hx, hb]
   ·exact h.elim
  ·exact h.elim
 ·-- builtins
  rename_i c e
  rw [e]
  split at h
  ·rename_i t v hc hat hav
   have ha : c.argTypes = #[t] := by apply Array.ext'; simpa using hat
   have hv : c.args.map (evalO ρ) = #[v] := by apply Array.ext'; simpa using hav
   split at h
   all_goals first
    | exact h.elim
    | (refine ⟨_, fun w => ?_, h⟩
       simp only [resolve, hc, hv, ha, Sem.run_bind, Sem.run_pure, Result.andThen_ok, invoke, builtin, Builtin.len_, List.getElem?_toArray, List.getElem?_cons_zero, run_underlying_of (by assumption), goInt])
  ·rename_i k x k' y hc hav
   have hv : c.args.map (evalO ρ) = #[.int k x, .int k' y] := by apply Array.ext'; simpa using hav
   refine ⟨_, fun w => ?_, h⟩
   simp [resolve, hc, hv, invoke, builtin, Builtin.min_, Builtin.min2, mn] <;> rfl
  ·rename_i k x k' y hc hav
   have hv : c.args.map (evalO ρ) = #[.int k x, .int k' y] := by apply Array.ext'; simpa using hav
   refine ⟨_, fun w => ?_, h⟩
   simp [resolve, hc, hv, invoke, builtin, Builtin.max_, Builtin.max2, mx] <;> rfl
  ·rename_i k x k' y k2 z k3 u hc hav
   have hv : c.args.map (evalO ρ) = #[.int k x, .int k' y, .int k2 z, .int k3 u] := by apply Array.ext'; simpa using hav
   refine ⟨_, fun w => ?_, h⟩
   simp [resolve, hc, hv, invoke, builtin, Builtin.min_, Builtin.min2, mn] <;> rfl
  ·rename_i k x k' y k2 z k3 u hc hav
   have hv : c.args.map (evalO ρ) = #[.int k x, .int k' y, .int k2 z, .int k3 u] := by apply Array.ext'; simpa using hav
   refine ⟨_, fun w => ?_, h⟩
   simp [resolve, hc, hv, invoke, builtin, Builtin.max_, Builtin.max2, mx] <;> rfl
  ·exact h.elim
 ·exact h.elim
end
end Go.Vw
