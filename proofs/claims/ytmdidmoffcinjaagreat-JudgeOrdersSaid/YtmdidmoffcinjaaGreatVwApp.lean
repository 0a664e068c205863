import Derived.Test.YtmdidmoffcinjaaGreatVwXop
namespace Go.Vw
open Go Go.RowKit
section
variable {P : Program} {w0 : World}
theorem slCells_run {h : Hp} {w : World} (hv : View w0 h w) {a : Option Addr} {m c size : Nat} {ys : List Value} (hs : slCells h a m size ys) (hl : ys.length = m * size) :
  (Builtin.firstCells size m (.slice a m c)).run P w = .ok ys.toArray w := by
 unfold slCells at hs
 split at hs
 ·subst hs
  exact run_firstCells_none w size m m c
 ·rename_i b o
  obtain ⟨cc, hc, hl', he⟩ := hs
  obtain ⟨h1, h2⟩ := lds_cells hl' he
  exact run_firstCells_some w size m ⟨b, o, none⟩ m c ys hl (fun j v hj => by rw [addr_add]; exact rowAt_cell (view_row hv hc) (h2 j v hj))
 ·exact hs.elim
theorem zeroCells_size (z : Value) (n : Nat) : (Builtin.zeroCells z.cells n).size = n * z.cells.size := size_zeroCells z.cells n
theorem run_app_grow (w : World) {t t2 e e2 : TypeId} (ty : TypeId) {i : TypeInfo} {z : Value} (ht : P.underlying t = some (.slice e)) (ht2 : P.underlying t2 = some (.slice e2))
  (hi : P.info? e = some i) (hz : i.zero = some z) {a a2 : Option Addr} {n cap m c2 : Nat} {olds ys : List Value}
  (hfo : (Builtin.firstCells i.size n (.slice a n cap)).run P w.drew = .ok olds.toArray w.drew) (hf : (Builtin.firstCells i.size m (.slice a2 m c2)).run P w.drew = .ok ys.toArray w.drew)
  (hg : cap < n + m) (h63 : n + m ≤ 140737488355328) (hby : (n + m) * i.bytes ≤ 140737488355328) :
  (Builtin.append_ #[t, t2] ty #[.slice a n cap, .slice a2 m c2]).run P w =
   .ok (.slice (some ⟨w.heap.size, 0, none⟩) (n + m) (grownCap w (n + m) cap e))
    (w.drew.alloc (.cells (olds.toArray ++ ys.toArray ++ Builtin.zeroCells z.cells (grownCap w (n + m) cap e - (n + m))) e)) := by
 have hn : ¬ (n + m ≤ cap) := by omega
 have h63' : ¬ (9223372036854775807 < ((n : Int) + (m : Int))) := by omega
 have h48 := growslice_fits hg hby
 have h48' : ¬ (281474976710656 < Builtin.nextslicecap (n + m) cap * i.bytes) := by omega
 simp [Builtin.append_, run_underlying_of ht, run_underlying_of ht2, sizeOf, typeInfo, zeroValue, hi, hz, Builtin.lenOf, hn, h63', h48', Question.forced, hf, hfo, newRow, grownCap]
 rw [← List.append_toArray, Array.append_assoc]
theorem run_app_room (w : World) {t t2 e e2 : TypeId} (ty : TypeId) {i : TypeInfo} (ht : P.underlying t = some (.slice e)) (ht2 : P.underlying t2 = some (.slice e2))
  (hi : P.info? e = some i) {b o n cap m c2 : Nat} {a2 : Option Addr} {ys : List Value} (hf : (Builtin.firstCells i.size m (.slice a2 m c2)).run P w = .ok ys.toArray w) (hr : n + m ≤ cap)
  {w' : World} (hst : (storeCells ⟨b, o + n * i.size, none⟩ ys).run P w = .ok () w') :
  (Builtin.append_ #[t, t2] ty #[.slice (some ⟨b, o, none⟩) n cap, .slice a2 m c2]).run P w = .ok (.slice (some ⟨b, o, none⟩) (n + m) cap) w' := by
 simp [Builtin.append_, run_underlying_of ht, run_underlying_of ht2, sizeOf, typeInfo, hi, Builtin.lenOf, hr, hf, addr_add, hst]
theorem run_app_none (w : World) {t t2 e e2 : TypeId} (ty : TypeId) {i : TypeInfo} (ht : P.underlying t = some (.slice e)) (ht2 : P.underlying t2 = some (.slice e2))
  (hi : P.info? e = some i) {a a2 : Option Addr} {n cap c2 : Nat} (hf : (Builtin.firstCells i.size 0 (.slice a2 0 c2)).run P w = .ok #[] w) (hr : n ≤ cap) :
  (Builtin.append_ #[t, t2] ty #[.slice a n cap, .slice a2 0 c2]).run P w = .ok (.slice a n cap) w := by
 cases a <;> simp [Builtin.append_, run_underlying_of ht, run_underlying_of ht2, sizeOf, typeInfo, hi, Builtin.lenOf, hr, hf, storeCells]
theorem append_sound {h : Hp} {w : World} (hv : View w0 h w) {t t2 e e2 : TypeId} (ty : TypeId) {i : TypeInfo} {z : Value} (ht : P.underlying t = some (.slice e)) (ht2 : P.underlying t2 = some (.slice e2))
  (hi : P.info? e = some i) (hz : i.zero = some z) (hzs : z.cells.size = i.size) {a a2 : Option Addr} {n cap m c2 : Nat} {ys : List Value}
  (hys : slCells h a2 m i.size ys) {K : Value → Hp → Prop} (ha : appOp h a n cap e i.size i.bytes ys m K) :
  ∃ v' w' h', (Builtin.append_ #[t, t2] ty #[.slice a n cap, .slice a2 m c2]).run P w = .ok v' w' ∧ K v' h' ∧ View w0 h' w' ∧ ∀ h0 : Hp, (∀ ad, a = some ad → h0 ad.block = none) → KeepH w0 h0 w w' := by
 obtain ⟨⟨hnil, hnc, hby, hmax, hyl, hone, hown⟩, hk⟩ := ha
 have hf := fun (w1 : World) (hv1 : View w0 h w1) => slCells_run (P := P) (c := c2) hv1 hys hyl
 by_cases hm : m = 0
 ·subst hm
  have hy0 : ys = [] := List.eq_nil_of_length_eq_zero (by simpa using hyl)
  subst hy0
  exact ⟨_, w, h, run_app_none w ty ht ht2 hi (hf w hv) hnc, hk a cap h (.inl ⟨rfl, rfl, rfl, rfl⟩), hv, fun h0 _ => KeepH.refl h0 w⟩
 ·have kd : ∀ (o : Obj) (h0 : Hp), KeepH w0 h0 w (w.drew.alloc o) := fun o h0 b k _ hb =>
   blkAt_kept hb (heap_alloc_old w.drew o b (blkAt_lt hv.below.size hb))
  have hcapeq : ∀ k, n + m ≤ k → (n * i.size + m * i.size) + (k - (n + m)) * i.size = k * i.size := by
   intro k hk
   rw [← Nat.add_mul, ← Nat.add_mul]
   congr 1; omega
  cases a with
  | none =>
   obtain ⟨rfl, rfl⟩ := hnil rfl
   have hvd := view_drew hv
   have hr := run_app_grow w ty ht ht2 hi hz (a := none) (n := 0) (cap := 0) (olds := []) (run_firstCells_none w.drew i.size 0 0 0) (hf w.drew hvd) (by omega) hmax hby
   have hge := grownCap_ge w (0 + m) 0 e
   refine ⟨_, _, h.set w.heap.size (.row e ys (grownCap w (0 + m) 0 e * i.size)), hr, hk _ _ _ (.inr (.inl ⟨hm, rfl, w.heap.size, view_fresh hv, by omega, rfl, rfl⟩)), ?_, fun h0 _ => kd _ h0⟩
   refine view_row_new hvd e ys _ _ ?_ ?_
   ·have := hcapeq _ hge
    simp [zeroCells_size, hzs, hyl] at this ⊢
    exact this
   ·simp
  | some ad =>
   obtain ⟨b, o, c, e0, sz, rfl, hb, hoc, hosz⟩ := hown hm ad rfl
   obtain ⟨hlow, cur, hc, hcs, hct⟩ := hv.blk b _ hb
   by_cases hroom : n + m ≤ cap
   ·have hfit : o + n * i.size + ys.length ≤ cur.size := by
     rw [hyl, hcs]
     have := Nat.mul_le_mul_right i.size hroom
     rw [Nat.add_mul] at this
     omega
    have hst := run_storeCells_at P b (o + n * i.size) e0 ys 0 cur w hc (by omega) (fun v hv => List.all_eq_true.1 hone v hv)
    simp only [Nat.add_zero] at hst
    refine ⟨_, _, h.set b (.row e0 (c.take (o + n * i.size) ++ ys) sz), run_app_room w ty ht ht2 hi (hf w hv) hroom hst,
     hk _ _ _ (.inr (.inr ⟨hm, b, o, c, e0, sz, rfl, hb, .inl ⟨hroom, rfl, rfl, rfl⟩⟩)), ?_,
     fun h0 hh => KeepH.write (hh _ rfl) hv.below.size (fun b' hne _ => setRow_other w b b' _ hne)⟩
    refine view_setRow hv hb hc (by simp; omega) ?_
    have hm' : cur.toList.take (o + n * i.size) = c.take (o + n * i.size) := by
     rw [← hct, List.take_take, Nat.min_eq_left hoc]
    simp only [List.append_assoc]
    rw [hm', ← List.append_assoc, List.take_left]
   ·have hvd := view_drew hv
    have hfo : (Builtin.firstCells i.size n (.slice (some ⟨b, o, none⟩) n cap)).run P w.drew = .ok ((c.drop o).take (n * i.size)).toArray w.drew := by
     refine slCells_run hvd ⟨c, ?_, hoc, rfl⟩ ?_
     ·simp [Hp.row?, hb]
     ·simp; omega
    have hr := run_app_grow w ty ht ht2 hi hz hfo (hf w.drew hvd) (by omega) hmax hby
    have hge := grownCap_ge w (n + m) cap e
    have hvdel : View w0 (h.del b) w.drew := view_sub hvd (fun b' k hk => by
     unfold Hp.del at hk
     split at hk
     ·cases hk
     ·exact hk)
    refine ⟨_, _, (h.del b).set w.heap.size (.row e ((c.drop o).take (n * i.size) ++ ys) (grownCap w (n + m) cap e * i.size)), hr,
     hk _ _ _ (.inr (.inr ⟨hm, b, o, c, e0, sz, rfl, hb, .inr ⟨by omega, w.heap.size, view_fresh hv, hge, rfl, rfl⟩⟩)), ?_, fun h0 _ => kd _ h0⟩
    have hol : ((c.drop o).take (n * i.size)).length = n * i.size := by simp; omega
    refine view_row_new hvdel e _ _ _ ?_ ?_
    ·have := hcapeq _ hge
     simp only [Array.size_append, List.size_toArray, hol, hyl, zeroCells_size, hzs]
     exact this
    ·simp only [Array.toList_append, List.append_assoc]
     rw [← List.append_assoc, List.take_left]
end
end Go.Vw
