/- What comes in, as the evaluator's data: slices of numbers, texts, bools and what is made of these. -/
import Derived.Test.YtmdidmoffcinjaaGreatVwUse
import Derived.Deep.Slices
namespace Go.Vw.Ev
open Go Go.Vw Go.ChangeShapes Go.WideShapes Go.RowKit
def LeafV : Leaf → AS → Prop
 | .int k, .int k' n => k' = k ∧ (Lit.int k n).wf = true
 | .str, .str s => (∀ x ∈ s, x < 256) ∧ s.length ≤ maxLen
 | .bool, .bool _ => True
 | _, _ => False
def LeavesV : List Leaf → List AS → Prop
 | [], [] => True
 | l :: ls, x :: xs => LeafV l x ∧ LeavesV ls xs
 | _, _ => False
theorem LeavesV.append : ∀ {ls ls' : List Leaf} {xs xs' : List AS}, LeavesV ls xs → LeavesV ls' xs' → LeavesV (ls ++ ls') (xs ++ xs')
 | [], _, [], _, _, h' => h'
 | [], _, _ :: _, _, h, _ => h.elim
 | _ :: _, _, [], _, h, _ => h.elim
 | _ :: _, _, _ :: _, _, h, h' => ⟨h.1, LeavesV.append h.2 h'⟩
section
variable {H : Type} {enc : TypeId × Value → H} {P : Program} {w : World} {base : Nat} {sp : Nat → Bool} {held : Bool} (φ : Phi)
theorem chunks {l : List Leaf} {sz : Nat} (hl : l.length = sz) : ∀ (n : Nat) (cs : List Value), cs.length = n * sz →
  (∀ i, i < n → ∃ as, RSL φ as ((cs.drop (i * sz)).take sz) ∧ LeavesV l as) → ∃ as, RSL φ as cs ∧ LeavesV (List.replicate n l).flatten as
 | 0, cs, hc, _ => ⟨[], by
   have : cs = [] := List.length_eq_zero_iff.1 (by simpa using hc)
   subst this; simp [RSL], trivial⟩
 | n + 1, cs, hc, h => by
  obtain ⟨as, h1, h2⟩ := h 0 (Nat.succ_pos _)
  obtain ⟨bs, h3, h4⟩ := chunks hl n (cs.drop sz) (by rw [List.length_drop, hc, Nat.add_mul]; omega) (fun i hi => by
   obtain ⟨as, h1, h2⟩ := h (i + 1) (by omega)
   refine ⟨as, ?_, h2⟩
   rw [List.drop_drop]
   rw [show sz + i * sz = (i + 1) * sz by rw [Nat.add_mul]; omega]
   exact h1)
  refine ⟨as ++ bs, ?_, ?_⟩
  ·have := h1.append h3
   simp only [Nat.zero_mul, List.drop_zero] at this
   rwa [List.take_append_drop] at this
  ·rw [List.replicate_succ, List.flatten_cons]
   exact h2.append h4
theorem flat_read : ∀ (d : Nat) {t : TypeId} {ls : List Leaf}, leaves P d t = some ls → P.cellsOf t = ls.length → ∀ {fuel : Nat} {cs : List Value} {x : DataW H × List MemPlace},
  DataW.trod enc P w base sp held fuel t cs = some x → cs.length = ls.length ∧ ∃ as, RSL φ as cs ∧ LeavesV ls as
 | 0, t, ls, h, _, _, _, _, _ => by simp [leaves] at h
 | d + 1, t, ls, h, hsz, fuel, cs, x, hx => by
  unfold leaves at h
  split at h
  ·rename_i k ht
   cases h
   obtain ⟨n, rfl, _, hw⟩ := DataW.trod_int ht hx
   exact ⟨rfl, [.int k n], by simp [RSL, RS], ⟨rfl, hw⟩, trivial⟩
  ·rename_i ht
   cases h
   obtain ⟨s, rfl, _, hs⟩ := DataW.trod_string ht hx
   refine ⟨rfl, [.str (s.data.toList.map UInt8.toNat)], by simp only [RSL, RS]; exact ⟨_, _, rfl, ⟨s, rfl, rfl⟩, rfl⟩, ⟨?_, ?_⟩, trivial⟩
   ·intro x hx
    obtain ⟨u, _, rfl⟩ := List.mem_map.1 hx
    exact u.toNat_lt
   ·simpa using hs
  ·rename_i ht
   cases h
   obtain ⟨b, rfl, _⟩ := DataW.trod_bool ht hx
   exact ⟨rfl, [.bool b], by simp [RSL, RS], trivial, trivial⟩
  ·rename_i n e ht
   split at h
   ·rename_i l i h1 h2
    split at h
    ·rename_i h3
     cases h
     have h3 := Nat.eq_of_beq_eq_true h3
     have hce : P.cellsOf e = l.length := by simp [Program.cellsOf, h2, h3]
     obtain ⟨xs, m, _, _, hlen, hxs, hel⟩ := DataW.trod_array ht hx
     rw [hsz] at hlen
     refine ⟨hlen, chunks φ rfl n cs (by rw [hlen]; simp) fun i hi => ?_⟩
     have := hel i hi
     rw [hce] at this
     obtain ⟨y, hy⟩ : ∃ y, xs[i]? = some y := ⟨_, List.getElem?_eq_getElem (by omega)⟩
     rw [hy] at this
     exact (flat_read d h1 hce this).2
    ·cases h
   ·cases h
  ·rename_i fs ht
   split at h
   ·cases h
   ·obtain ⟨xs, m, _, _, hlen, hxs, hel⟩ := DataW.trod_struct ht hx
    rw [hsz] at hlen
    refine ⟨hlen, ?_⟩
    have key : ∀ (fs : List Field) (off : Nat) (ls : List Leaf), fieldLeaves P (leaves P d) off fs = some ls →
      (∀ f ∈ fs, ∃ x, DataW.trod enc P w base sp held m f.type ((cs.drop f.offset).take (P.cellsOf f.type)) = some x) → ∃ as, RSL φ as ((cs.drop off).take ls.length) ∧ LeavesV ls as := by
     intro fs
     induction fs with
     | nil =>
      intro off ls h _
      simp only [fieldLeaves, Option.some.injEq] at h
      subst h
      exact ⟨[], by simp [RSL], trivial⟩
     | cons f fs ih =>
      intro off ls h hf
      simp only [fieldLeaves] at h
      split at h
      ·rename_i r i h1 h2
       split at h
       ·rename_i h3
        simp only [Bool.and_eq_true] at h3
        have h4 := Nat.eq_of_beq_eq_true h3.1.2
        have h5 := Nat.eq_of_beq_eq_true h3.2
        split at h
        ·rename_i l h6
         cases h
         have hce : P.cellsOf f.type = r.length := by simp [Program.cellsOf, h2, h5]
         obtain ⟨x, hx⟩ := hf f (by simp)
         obtain ⟨_, as, ha, hb⟩ := flat_read d h1 hce hx
         obtain ⟨bs, hc, hd⟩ := ih _ _ h6 (fun g hg => hf g (by simp [hg]))
         refine ⟨as ++ bs, ?_, hb.append hd⟩
         rw [h4, hce] at ha
         have := ha.append hc
         rw [List.length_append, List.take_add, List.drop_drop]
         exact this
        ·cases h
       ·cases h
      ·cases h
    have := key fs.toList 0 ls h (fun f hf => by
     obtain ⟨i, hi, he⟩ := List.mem_iff_getElem.1 hf
     have h1 := hel i f (by rw [← Array.getElem?_toList, List.getElem?_eq_getElem hi, he])
     obtain ⟨y, hy⟩ : ∃ y, xs[i]? = some y := ⟨_, List.getElem?_eq_getElem (by rw [hxs]; simpa using hi)⟩
     exact ⟨y, by rw [h1, hy]⟩)
    rw [List.drop_zero, List.take_of_length_le (by omega)] at this
    exact this
  ·cases h
structure SlArg (W : World) (ls : List Leaf) (v : Value) (x : Pn) (p : AP) (n : Nat) (c : ACap) (as : List AS) (r : Rec) : Prop where
 rs : ∀ φ : Phi, φ x = some r → RS φ (.slice p n c ls.length) v
 len : as.length = n * ls.length
 leaf : LeavesV (List.replicate n ls).flatten as
 at_ : n ≠ 0 → p = .at x 0
 blk : n ≠ 0 → r.b < W.heap.size ∧ ∃ (c' : Array Value) (e : TypeId) (fr : Nat × Nat), W.heap[r.b]? = some (.cells c' e fr) ∧ ∃ l, c'.toList = r.pre ++ (l ++ r.suf) ∧ RSL φ as l ∧ r.pre.length + l.length ≤ r.sz
theorem slice_read {t e : TypeId} {ls : List Leaf} {d : Nat} {W : World} (ht : P.underlying t = some (.slice e)) (hl : leaves P d e = some ls) (hsz : P.cellsOf e = ls.length) (hpos : 0 < ls.length) {v : Value} {bs : Nat}
  (hok : Value.okWide P W .any bs t v) {dd : DataW H} {ps : List MemPlace} (h : DataW.Trod enc P W 0 (fun _ => true) true t v dd ps) (x : Pn) : ∃ p n c as r, SlArg φ W ls v x p n c as r := by
 obtain ⟨fuel, hf⟩ := h
 have hok' : Cell.ok P W .any bs t v := by
  simp only [Value.okWide, ht, Cell.okWide] at hok
  cases v <;> exact hok
 rcases Deep.open_slice ht hf with ⟨hcs, _⟩ | ⟨a, len, cap, m, n, D, Pl, hcs, _, hle, hmax, hm, _, hel⟩
 ·have hv : v = .slice none 0 0 := by
   cases v <;> simp [Value.cells] at hcs ⊢ <;> first | exact hcs | simp_all [Cell.ok]
  subst hv
  refine ⟨.nil, 0, .lit 0, [], ⟨0, [], 0, 0, 0, []⟩, fun φ _ => ?_, by simp, trivial, fun h => absurd rfl h, fun h => absurd rfl h⟩
  simp only [RS]
  exact ⟨none, 0, rfl, rfl, Nat.le_refl _, rfl, rfl, rfl⟩
 ·have hv : v = .slice (some a) len cap := by
   cases v <;> simp [Value.cells] at hcs ⊢ <;> first | exact hcs | simp_all [Cell.ok]
  subst hv
  simp only [if_true] at hm
  subst hm
  simp only [Cell.ok, ht] at hok'
  obtain ⟨_, _, _, hspot, row, cells, hshape, _⟩ := hok'
  obtain ⟨b, off, spot⟩ := a
  simp only at hspot
  subst hspot
  by_cases hlen : len = 0
  ·subst hlen
   refine ⟨.edge x 0, 0, .lit m, [], ⟨b, List.replicate off undef, 0, off + m * ls.length, 0, []⟩, fun φ hφ => ?_, by simp, trivial, fun h => absurd rfl h, fun h => absurd rfl h⟩
   simp only [RS]
   exact ⟨_, m, rfl, rfl, hle, rfl, _, off, hφ, rfl, by simp, fun _ => ⟨by simp, by simp⟩⟩
  ·unfold World.shape? at hshape
   split at hshape
   ·rename_i c' e' fr hb
    have hcs' : c'.toList.length = c'.size := Array.length_toList
    clear hshape
    have hcell : ∀ k v, W.cell? ⟨b, k, none⟩ = some v → c'.toList[k]? = some v := by
     intro k v hk
     simp only [World.cell?, hb] at hk
     simpa using hk
    have hrow : ∀ i, i < len → ∃ cs', (c'.toList.drop (off + i * ls.length)).take ls.length = cs' ∧ off + (i + 1) * ls.length ≤ c'.size ∧ ∃ y, DataW.trod enc P W 0 (fun _ => true) true n e cs' = some y := by
     intro i hi
     obtain ⟨cs', h1, h2⟩ := hel i (by omega)
     rw [hsz] at h1
     obtain ⟨_, hcl, hce⟩ := World.cells?_some h1
     have hget : ∀ j, j < ls.length → c'.toList[off + i * ls.length + j]? = cs'[j]? := by
      intro j hj
      have h3 := hce j hj
      obtain ⟨u, hu⟩ : ∃ u, cs'[j]? = some u := ⟨_, List.getElem?_eq_getElem (by omega)⟩
      rw [hu] at h3 ⊢
      apply hcell
      rw [← h3, Deep.add_add, addr_add]
      rw [Nat.add_assoc]
     have hsize : off + (i + 1) * ls.length ≤ c'.size := by
      have h4 := hget (ls.length - 1) (by omega)
      obtain ⟨u, hu⟩ : ∃ u, cs'[ls.length - 1]? = some u := ⟨_, List.getElem?_eq_getElem (by omega)⟩
      rw [hu] at h4
      have := (List.getElem?_eq_some_iff.1 h4).1
      rw [hcs'] at this
      rw [Nat.add_mul]
      omega
     refine ⟨cs', ?_, hsize, _, h2⟩
     apply List.ext_getElem?
     intro j
     by_cases hj : j < ls.length
     ·rw [List.getElem?_take, if_pos hj, List.getElem?_drop, hget j hj]
     ·rw [List.getElem?_eq_none (by rw [List.length_take]; omega), List.getElem?_eq_none (by omega)]
    have hbig : off + len * ls.length ≤ c'.size := by
     obtain ⟨_, _, h5, _⟩ := hrow (len - 1) (by omega)
     rw [show len - 1 + 1 = len by omega] at h5
     exact h5
    have hle2 : len * ls.length ≤ m * ls.length := Nat.mul_le_mul_right _ hle
    obtain ⟨as, ha, hb2⟩ := chunks φ (l := ls) rfl len ((c'.toList.drop off).take (len * ls.length)) (by rw [List.length_take, List.length_drop, hcs']; omega) (fun i hi => by
     obtain ⟨cs', h6, _, y, h7⟩ := hrow i hi
     obtain ⟨_, as, h8, h9⟩ := flat_read φ d hl hsz h7
     refine ⟨as, ?_, h9⟩
     have : (i + 1) * ls.length ≤ len * ls.length := Nat.mul_le_mul_right _ hi
     rw [Nat.add_mul] at this
     rw [List.drop_take, List.take_take, List.drop_drop, Nat.min_eq_left (by omega), h6]
     exact h8)
    refine ⟨.at x 0, len, .lit m, as, ⟨b, c'.toList.take off, e', off + m * ls.length, 0, c'.toList.drop (off + len * ls.length)⟩, fun φ hφ => ?_, ?_, hb2, fun _ => rfl, fun _ => ?_⟩
    ·simp only [RS]
     have hpl : (c'.toList.take off).length = off := by rw [List.length_take, hcs']; omega
     exact ⟨_, m, rfl, rfl, hle, _, hφ, by simp only [hpl, Nat.add_zero], by simp only [hpl]; omega⟩
    ·rw [ha.length.symm, List.length_take, List.length_drop, hcs']
     omega
    ·refine ⟨(Array.getElem?_eq_some_iff.1 hb).1, c', e', fr, hb, _, ?_, ha, ?_⟩
     ·simp only
      rw [← List.drop_drop, List.take_append_drop, List.take_append_drop]
     ·simp only [List.length_take, List.length_drop, hcs']
      omega
   ·cases hshape
def oldH (W : World) : Hp := fun b => match W.heap[b]? with | some (.cells c _ _) => some (.old c.toList) | _ => none
theorem PExt.none (φ : Phi) : PExt φ0 φ := fun _ _ h => by cases h
theorem args_mk {W : World} {φ : Phi} {H : AH} (hget : ∀ a b, H.t.get a = some b → ∃ ls v p n c as r, b = .fix as ∧ φ a = some r ∧ n ≠ 0 ∧ SlArg φ0 W ls v a p n c as r)
  (hfresh : ∀ a : Pn, H.nx.val ≤ a.val → φ a = none) : RH φ H (fun _ => none) (oldH W) ∧ View W (oldH W) W := by
 have hold : ∀ b k, oldH W b = some k → ∃ c e fr, W.heap[b]? = some (.cells c e fr) ∧ k = .old c.toList := by
  intro b k hb
  unfold oldH at hb
  split at hb
  ·rename_i c e fr h1
   cases hb
   exact ⟨c, e, fr, h1, rfl⟩
  ·cases hb
 refine ⟨⟨?_, ?_, hfresh, ?_, fun _ _ _ _ => rfl⟩, ⟨Below.refl _ _, ?_⟩⟩
 rotate_left 2
 ·intro b k hb
  cases hb
 rotate_right 2
 ·intro a b hg
  obtain ⟨ls, v, p, n, c, as, r, rfl, h1, h2, h3⟩ := hget a b hg
  obtain ⟨_, c', e, fr, h4, l, h5, h6, h7⟩ := h3.blk h2
  refine ⟨r, h1, .old c'.toList, by simp [oldH, h4], l, by rw [h5], h6.mono (PExt.none φ), h7⟩
 ·intro a a' r r' hg hg' h1 h2 he
  cases hga : H.t.get a with
  | none => exact absurd hga hg
  | some b =>
   obtain ⟨ls, v, p, n, c, as, r1, rfl, h3, h4, h5⟩ := hget a b hga
   rw [h1] at h3
   cases h3
   obtain ⟨_, c', e, fr, h6, _⟩ := h5.blk h4
   exact .inr ⟨c'.toList, by simp [oldH, h6]⟩
 ·intro b k hb
  obtain ⟨c, e, fr, h1, rfl⟩ := hold b k hb
  exact ⟨(Array.getElem?_eq_some_iff.1 h1).1, c, e, fr, h1, List.take_length⟩
theorem args_one {W : World} {ls : List Leaf} {v : Value} {p : AP} {n : Nat} {c : ACap} {as : List AS} {r : Rec} (hs : SlArg φ0 W ls v .o p n c as r) :
  ∃ φ H, RH φ H (fun _ => none) (oldH W) ∧ View W (oldH W) W ∧ RS φ (.slice p n c ls.length) v ∧ (n ≠ 0 → p = .at .o 0 ∧ H.t.get .o = some (.fix as)) ∧ Pn.val .o < H.nx.val := by
 let φ : Phi := fun a => match a with | .o => some r | _ => none
 let H : AH := ⟨if n = 0 then .lf else .nd (some (.fix as)) .lf .lf, .z .o⟩
 have hnd : ∀ (x : Option AB) (a : Pn) b, (Tr.nd x .lf .lf).get a = some b → a = .o ∧ x = some b := by
  intro x a b h
  cases a with
  | o => exact ⟨rfl, h⟩
  | z q => rw [show (Tr.nd x .lf .lf).get (.z q) = Tr.get .lf q from rfl, Tr.get_lf] at h; cases h
  | i q => rw [show (Tr.nd x .lf .lf).get (.i q) = Tr.get .lf q from rfl, Tr.get_lf] at h; cases h
 obtain ⟨h1, h2⟩ := args_mk (W := W) (φ := φ) (H := H) (fun a b hg => by
  by_cases hn : n = 0
  ·simp only [H, hn, if_true] at hg
   rw [Tr.get_lf] at hg; cases hg
  ·simp only [H, hn, if_false] at hg
   obtain ⟨rfl, h3⟩ := hnd _ _ _ hg
   cases h3
   exact ⟨ls, v, p, n, c, as, r, rfl, rfl, hn, hs⟩) (fun a ha => by
  have ha : 2 ≤ a.val := ha
  cases a with
  | o => simp [Pn.val] at ha
  | z q => rfl
  | i q => rfl)
 refine ⟨φ, H, h1, h2, hs.rs φ rfl, fun hn => ⟨hs.at_ hn, ?_⟩, by show 1 < 2; decide⟩
 simp only [H, hn, if_false]
 rfl
end
end Go.Vw.Ev
