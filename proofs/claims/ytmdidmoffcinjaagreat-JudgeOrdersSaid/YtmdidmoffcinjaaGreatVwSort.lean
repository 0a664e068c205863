/- slices.Sort of whole numbers: from the kit's contracts to a body. -/
import Derived.Test.YtmdidmoffcinjaaGreatVwKeys
namespace Go.Vw.Ev
open Go Go.Vw Go.RowKit Go.Maps Go.Proofs Go.Sort
noncomputable section
def intsOf (l : List AS) : Option (List Int) :=
 List.rec (motive := fun _ => Option (List Int)) (some []) (fun x _ ih => match x with | .int .i64 n => (match ih with | some r => some (n :: r) | none => none) | _ => none) l
def sortB : Body := fun _ args H K =>
 match args with
 | [.s (.slice p n _ _)] =>
  match p with
  | .at a o => okK (Nat.ble n 1000000) (rowW H a fun cs => ldN cs o n fun xs =>
    match intsOf xs with
    | some ks => fL (srtI ks) fun ss => fL (ap (tk cs o) (ap (intsA ss) (dr (o + n) cs))) fun cs' => wrK H a (some (.row cs')) fun H => K (.tup []) H
    | none => false)
  | _ => okK (Nat.beq n 0) (K (.tup []) H)
 | _ => false
theorem intsOf_some : ∀ {l : List AS} {ks : List Int}, intsOf l = some ks → l = intsA ks
 | [], ks, h => by
  cases h
  rfl
 | x :: r, ks, h => by
  change (match (motive := AS → Option (List Int)) x with | .int .i64 n => (match intsOf r with | some r => some (n :: r) | none => none) | _ => none) = some ks at h
  split at h
  ·rename_i n
   split at h
   ·rename_i q hq
    cases h
    rw [intsOf_some hq]
    rfl
   ·cases h
  ·cases h
theorem intsOf_intsA : ∀ ks : List Int, intsOf (intsA ks) = some ks
 | [] => rfl
 | k :: r => by
  show (match intsOf (intsA r) with | some r => some (k :: r) | none => none) = _
  rw [intsOf_intsA r]
theorem intsA_length : ∀ ks : List Int, (intsA ks).length = ks.length
 | [] => rfl
 | k :: r => by show (AS.int .i64 k :: intsA r).length = _; simp [intsA_length r]
theorem intsA_map : ∀ ks : List Int, intsA ks = ks.map (AS.int .i64)
 | [] => rfl
 | k :: r => by show AS.int .i64 k :: intsA r = _; rw [intsA_map r]; rfl
theorem vals_ints {φ : Phi} : ∀ {ks : List Int} {l : List Value}, RSL φ (intsA ks) l → l = ks.map (Value.int .i64)
 | [], _, h => by
  simp only [intsA, RSL] at h
  subst h; rfl
 | k :: r, _, h => by
  have h : RSL φ (.int .i64 k :: intsA r) _ := h
  simp only [RSL, RS] at h
  obtain ⟨v, vs, rfl, rfl, h3⟩ := h
  rw [vals_ints h3]; rfl
theorem ints_vals {φ : Phi} : ∀ ks : List Int, RSL φ (intsA ks) (ks.map (Value.int .i64))
 | [] => by simp only [intsA, RSL, List.map_nil]
 | k :: r => by
  show RSL φ (.int .i64 k :: intsA r) _
  simp only [RSL, RS, List.map_cons]
  exact ⟨_, _, rfl, rfl, ints_vals r⟩
theorem putCells_list (off : Nat) (d : List Int) (c : Array Value) (pre l suf : List Value) (hc : c.toList.take (pre.length + l.length + suf.length) = pre ++ (l ++ suf)) (ho : off = pre.length) (hl : d.length = l.length) :
  (putCells (Value.int .i64) off d.toArray c).toList.take (pre.length + l.length + suf.length) = pre ++ (d.map (Value.int .i64) ++ suf) := by
 have hlen : pre.length + l.length + suf.length ≤ c.size := by
  have := congrArg List.length hc
  simp only [List.length_take, List.length_append, Array.length_toList] at this
  omega
 apply List.ext_getElem?
 intro i
 rcases Nat.lt_or_ge i (pre.length + l.length + suf.length) with hi | hi
 ·rw [List.getElem?_take_of_lt hi]
  have hcell : c[i]? = (pre ++ (l ++ suf))[i]? := by
   rw [← hc, List.getElem?_take_of_lt hi]; simp
  have hci : i < c.size := by omega
  simp only [putCells, Array.getElem?_toList, Array.getElem?_mapIdx]
  rw [hcell]
  rcases Nat.lt_or_ge i pre.length with h1 | h1
  ·rw [List.getElem?_append_left h1, List.getElem?_append_left h1, List.getElem?_eq_getElem h1]
   simp only [Option.map_some]
   rw [if_neg (by omega)]
  ·rw [List.getElem?_append_right h1, List.getElem?_append_right h1]
   rcases Nat.lt_or_ge (i - pre.length) l.length with h2 | h2
   ·rw [List.getElem?_append_left h2, List.getElem?_append_left (by simp; omega), List.getElem?_eq_getElem h2]
    simp only [Option.map_some]
    rw [if_pos (by simp; omega), ho, List.getElem?_map, List.getElem?_eq_getElem (by omega : i - pre.length < d.length)]
    simp [getElem!_pos, show i - pre.length < d.length by omega]
   ·rw [List.getElem?_append_right h2, List.getElem?_append_right (by simp; omega), List.length_map, hl]
    cases hx : suf[i - pre.length - l.length]? with
    | none => rfl
    | some v =>
     simp only [Option.map_some]
     rw [if_neg (by simp; omega)]
 ·rw [List.getElem?_eq_none (by simp; omega), List.getElem?_eq_none (by simp; omega)]
section
variable {P : Program} {w0 : World}
theorem okb_sort {f : Nat}
  (hs : ∀ (blk off cap : Nat) (zs : List Int) (w : World), Holds (Value.int .i64) w blk off zs.toArray → blk < w.heap.size → zs.length < 4611686018427387904 →
   Calls P f #[.slice (some ⟨blk, off, none⟩) zs.length cap] w fun e w' => e = .returned (.tuple #[]) ∧ ∃ n os, w' = grow (putRow (Value.int .i64) (Sort.ahead w n) blk off (zs.mergeSort fun x y => decide (x ≤ y)).toArray) os)
  (hn : ∀ (p : Option Addr) (cap : Nat) (w : World), Calls P f #[.slice p 0 cap] w fun e w' => e = .returned (.tuple #[]) ∧ w' = w) : OkB P w0 f sortB := by
 intro cl _ args H K φ hF h vals hb ha hh
 unfold sortB at hb
 have tupR : RV φ (.tup []) (.tuple #[]) := by simp only [RV, RVL]; exact ⟨#[], rfl, rfl⟩
 split at hb
 ·rename_i p n c z
  simp only [RVL, RV, RS] at ha
  obtain ⟨V, _, rfl, ⟨a, c', rfl, hc, hnc, hsl⟩, rfl⟩ := ha
  split at hb
  ·rename_i x o
   obtain ⟨hz, hb⟩ := okK_ex hb
   obtain ⟨r, hr, rfl, hcap⟩ := hsl
   obtain ⟨cs, l, hb, hg, hblk, hrs, hsz⟩ := rowW_ex hh hr hb
   obtain ⟨ys, hb, hys, hle⟩ := ldN_ex hrs hb
   split at hb
   ·rename_i ks hks
    rw [fL_eq, fL_eq, wrK_eq, tk_eq, dr_eq, ap_eq, ap_eq] at hb
    have hys' := intsOf_some hks
    subst hys'
    have hvals := vals_ints hys
    have hklen : ks.length = n := by
     have := congrArg List.length hvals
     simp only [List.length_take, List.length_drop, List.length_map] at this
     omega
    intro w hw
    obtain ⟨hlow, cur, hcur, hcs, hct⟩ := hw.blk _ _ hblk
    have hrow := view_row hw (b := r.b) (c := r.pre ++ l) (by simp [Hp.row?, hblk])
    have cell : ∀ j, j < n → w.cell? ⟨r.b, r.pre.length + o + j, none⟩ = some ((ks.toArray.map (Value.int .i64))[j]!) := by
     intro j hj
     refine rowAt_cell hrow ?_
     rw [List.getElem?_append_right (by omega), show r.pre.length + o + j - r.pre.length = o + j by omega]
     have h1 : ((l.drop o).take n)[j]? = (ks.map (Value.int .i64))[j]? := by rw [hvals]
     rw [List.getElem?_take_of_lt hj, List.getElem?_drop] at h1
     rw [h1]
     simp [show j < ks.length by omega]
    have hold : Holds (Value.int .i64) w r.b (r.pre.length + o) ks.toArray := by
     intro j hj
     have hj' : j < n := by simpa [hklen] using hj
     refine ⟨?_, by simp [World.frozen?, hcur]⟩
     rw [cell j hj']
     simp [show j < ks.length by omega]
    have call := hs r.b (r.pre.length + o) c' ks w hold (view_lt hw hblk) (by have := Nat.le_of_ble_eq_true hz; omega)
    rw [hklen] at call
    refine call.mono ?_
    rintro e w' ⟨rfl, nn, os, rfl⟩
    have hss : (ks.mergeSort fun x y => decide (x ≤ y)) = srtI ks := by rw [srtI_merge]
    rw [hss]
    have hslen : (srtI ks).length = n := by rw [(srtI_perm ks).length_eq, hklen]
    let l2 := l.take o ++ ((srtI ks).map (Value.int .i64) ++ l.drop (o + n))
    have hheap : ∀ b', b' < w.heap.size → (grow (putRow (Value.int .i64) (Sort.ahead w nn) r.b (r.pre.length + o) (srtI ks).toArray) os).heap[b']? = if r.b = b' then (w.heap[b']?).map (onCells (putCells (Value.int .i64) (r.pre.length + o) (srtI ks).toArray)) else w.heap[b']? := by
     intro b' hb'
     show (w.heap.modify r.b _ ++ os)[b']? = _
     rw [Array.getElem?_append_left (by simpa using hb'), Array.getElem?_modify]
    have hkb : BlkAt w0 (grow (putRow (Value.int .i64) (Sort.ahead w nn) r.b (r.pre.length + o) (srtI ks).toArray) os) r.b (.row r.e (r.pre ++ l2) r.sz) := by
     refine ⟨hlow, putCells (Value.int .i64) (r.pre.length + o) (srtI ks).toArray cur, ?_, by simp [putCells, hcs], ?_⟩
     ·rw [hheap _ (view_lt hw hblk), if_pos rfl, hcur]; rfl
     ·have := putCells_list (r.pre.length + o) (srtI ks) cur (r.pre ++ l.take o) ((l.drop o).take n) (l.drop (o + n)) ?_ ?_ ?_
      ·have e : (r.pre ++ l2).length = (r.pre ++ l.take o).length + ((l.drop o).take n).length + (l.drop (o + n)).length := by
        simp only [l2, List.length_append, List.length_take, List.length_drop, List.length_map, hslen]
        omega
       rw [e, this]
       simp only [l2, List.append_assoc]
      ·have e : (r.pre ++ l.take o).length + ((l.drop o).take n).length + (l.drop (o + n)).length = (r.pre ++ l).length := by
        simp only [List.length_append, List.length_take, List.length_drop]
        omega
       rw [e, hct, List.append_assoc]
       congr 1
       have h1 : (l.drop o).take n ++ l.drop (o + n) = l.drop o := by
        rw [show l.drop (o + n) = (l.drop o).drop n by rw [List.drop_drop]]
        exact List.take_append_drop n (l.drop o)
       rw [h1, List.take_append_drop]
      ·simp only [List.length_append, List.length_take]; omega
      ·rw [hslen, hvals, List.length_map, hklen]
    refine ⟨_, h.set r.b (.row r.e (r.pre ++ l2) r.sz), rfl, ⟨φ, _, _, PExt.refl φ, tupR, hh.wr hr (by rw [hg]; simp) (fun c hc => by rw [hblk] at hc; cases hc) ?_, hb⟩, view_set hw ?_ hkb ?_⟩
    ·refine ⟨l2, rfl, (RSL.take o hrs).append ((ints_vals (srtI ks)).append (RSL.drop (o + n) hrs)), ?_⟩
     simp only [l2, List.length_append, List.length_take, List.length_drop, List.length_map, hslen]
     omega
    ·refine below_at hw hlow rfl rfl rfl ?_ ?_
     ·show w.heap.size ≤ (w.heap.modify r.b _ ++ os).size
      simp
     ·intro b' hne hb'
      rw [hheap b' hb', if_neg (Ne.symm hne)]
    ·intro b' hne hb'
     rw [hheap b' hb', if_neg (Ne.symm hne)]
   ·exact absurd hb (by decide)
  ·obtain ⟨hz, hb⟩ := okK_ex hb
   have := Nat.eq_of_beq_eq_true hz
   subst this
   intro w hw
   refine (hn a c' w).mono ?_
   rintro e w' ⟨rfl, rfl⟩
   exact ⟨_, h, rfl, ⟨φ, _, H, PExt.refl φ, tupR, hh, hb⟩, hw⟩
 ·exact absurd hb (by decide)
end
end
end Go.Vw.Ev
