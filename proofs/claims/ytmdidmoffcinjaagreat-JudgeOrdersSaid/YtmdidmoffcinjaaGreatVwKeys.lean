/- The keys of a map, sorted: from the kit's contracts to bodies. -/
import Derived.Test.YtmdidmoffcinjaaGreatVwUse
import Derived.Maps.Own
import Derived.Laws.AppendOwn
import Derived.Lib.SlKeysI
namespace Go.Vw.Ev
open Go Go.Vw Go.RowKit Go.Maps Go.Proofs Go.WideShapes Go.WideElems
noncomputable section
def ifL (b : Bool) (x y : List Int) : List Int := Bool.rec (motive := fun _ => List Int) y x b
def insI (x : Int) (l : List Int) : List Int := List.rec (motive := fun _ => List Int) [x] (fun y t ih => ifL (iLe x y) (x :: y :: t) (y :: ih)) l
def srtI (l : List Int) : List Int := List.rec (motive := fun _ => List Int) [] (fun x _ ih => insI x ih) l
theorem insI_cons (x y : Int) (t : List Int) : insI x (y :: t) = if x ≤ y then x :: y :: t else y :: insI x t := by
 show ifL (iLe x y) _ _ = _
 rw [iLe_dec]
 by_cases h : x ≤ y <;> simp [h, ifL] <;> rfl
theorem insI_perm (x : Int) : ∀ l, (insI x l).Perm (x :: l)
 | [] => .refl _
 | y :: t => by
  rw [insI_cons]
  split
  ·exact .refl _
  ·exact ((insI_perm x t).cons y).trans (.swap _ _ _)
theorem srtI_perm : ∀ l, (srtI l).Perm l
 | [] => .refl _
 | x :: t => (insI_perm x (srtI t)).trans ((srtI_perm t).cons x)
theorem insI_sorted (x : Int) : ∀ l, l.Pairwise (· ≤ ·) → (insI x l).Pairwise (· ≤ ·)
 | [], _ => by simp [insI]
 | y :: t, h => by
  rw [insI_cons]
  obtain ⟨h1, h2⟩ := List.pairwise_cons.1 h
  split
  ·rename_i hxy
   refine List.pairwise_cons.2 ⟨fun z hz => ?_, h⟩
   rcases List.mem_cons.1 hz with rfl | hz
   ·exact hxy
   ·exact Int.le_trans hxy (h1 z hz)
  ·rename_i hxy
   refine List.pairwise_cons.2 ⟨fun z hz => ?_, insI_sorted x t h2⟩
   rcases List.mem_cons.1 ((insI_perm x t).mem_iff.1 hz) with rfl | hz
   ·omega
   ·exact h1 z hz
theorem srtI_sorted : ∀ l, (srtI l).Pairwise (· ≤ ·)
 | [] => .nil
 | x :: t => insI_sorted x _ (srtI_sorted t)
theorem srtI_merge (l : List Int) : srtI l = l.mergeSort leI := by
 have tr : ∀ a b c : Int, leI a b = true → leI b c = true → leI a c = true := fun a b c h1 h2 => by simp only [leI, decide_eq_true_eq] at *; exact Int.le_trans h1 h2
 have to : ∀ a b : Int, (leI a b || leI b a) = true := fun a b => by simp only [leI, Bool.or_eq_true, decide_eq_true_eq]; exact Int.le_total a b
 refine List.Perm.eq_of_pairwise (le := fun a b => leI a b = true) (fun a b _ _ h1 h2 => ?_) ((srtI_sorted l).imp fun h => by simpa [leI] using h) (List.pairwise_mergeSort tr to l) ((srtI_perm l).trans (List.mergeSort_perm l leI).symm)
 simp only [leI, decide_eq_true_eq] at h1 h2
 exact Int.le_antisymm h1 h2
def keysOf (es : List (Int × AV)) : List Int := List.rec (motive := fun _ => List Int) [] (fun x _ ih => x.1 :: ih) es
def allIn (l : List Int) : Bool := List.rec (motive := fun _ => Bool) true (fun x _ ih => okK (inR .i64 x) ih) l
def intsA (l : List Int) : List AS := List.rec (motive := fun _ => List AS) [] (fun x _ ih => .int .i64 x :: ih) l
def memN (g : Nat) (gs : List Nat) : Bool := List.rec (motive := fun _ => Bool) false (fun x _ ih => Bool.rec ih true (Nat.beq g x)) gs
def keysB (g : Nat) : Body := fun _ args H K =>
 match args with
 | [.s (.map m)] => newK H (.one (.map m)) fun b H => K (.s (.func g [] [.ptr (.at b 0)])) H
 | _ => false
def sortedB (gs : List Nat) : Body := fun _ args H K =>
 match args with
 | [.s (.func g [] [.ptr (.at b 0)])] => okK (memN g gs) (match H.t.get b with
  | some (.one (.map none)) => K (.s (.slice .nil 0 (.lit 0) 1)) H
  | some (.one (.map (some a))) => mapK H a fun es => okK (allIn (keysOf es) && Nat.ble (ln es) 1000000) (fL (srtI (keysOf es)) fun ks => match ks with
   | [] => K (.s (.slice .nil 0 (.lit 0) 1)) H
   | k :: r => newK H (.row (intsA (k :: r))) fun b H => K (.s (.slice (.at b 0) (ln (k :: r)) (.of b 0) 1)) H)
  | _ => false)
 | _ => false
section
variable {P : Program} {w0 : World}
theorem okb_keys {f g : Nat} {M : TypeId} (hk : ∀ mb w, Calls P f #[.map mb] w fun e w' => e = .returned (.func (.func g) #[] #[.pointer (some ⟨w.heap.size, 0, none⟩)]) ∧ w' = w.alloc (.cells #[.map mb] M)) : OkB P w0 f (keysB g) := by
 intro cl _ args H K φ hF h vals hb ha hh
 unfold keysB at hb
 split at hb
 ·rename_i m
  simp only [RVL, RV] at ha
  obtain ⟨V, _, rfl, hV, rfl⟩ := ha
  rw [newK_eq] at hb
  have hm : ∃ mb, V = .map mb := by
   cases m with
   | none => simp only [RS] at hV; exact ⟨_, hV⟩
   | some x => simp only [RS] at hV; obtain ⟨r, _, hV⟩ := hV; exact ⟨_, hV⟩
  obtain ⟨mb, rfl⟩ := hm
  intro w hv
  refine (hk mb w).mono ?_
  rintro e w' ⟨rfl, rfl⟩
  have hb0 := view_fresh hv
  refine ⟨_, h.set w.heap.size (.row M [.map mb] 1), rfl, ⟨φ.put H.nx ⟨w.heap.size, [], M, 1, 1, []⟩, _, _, hh.ext _, ?_, hh.new (r := ⟨w.heap.size, [], M, 1, 1, []⟩) (ab := .one (.map m)) hb0 ⟨_, rfl, rfl, RS.mono (hh.ext _) _ _ hV⟩, hb⟩, view_row_new hv M [.map mb] #[.map mb] 1 rfl rfl⟩
  simp only [RV, RS, RSL, RP]
  exact ⟨#[], _, rfl, rfl, _, _, rfl, ⟨_, rfl, _, Phi.put_same _ _ _, rfl⟩, rfl⟩
 ·exact absurd hb (by decide)
theorem view_below {h : Hp} {w w' : World} (hv : View w0 h w) (hb : Below w.heap.size w w') : View w0 h w' :=
 ⟨hv.below.trans (hb.mono hv.below.size), fun b k hk => blkAt_kept (hv.blk b k hk) (hb.block b (view_lt hv hk))⟩
theorem keysOf_map : ∀ {es : List (Int × AV)} {φ : Phi} {l : List (Int × Value)}, REL φ es l → keysOf es = l.map (·.1)
 | [], _, _, h => by simp only [REL] at h; subst h; rfl
 | x :: r, φ, _, h => by
  simp only [REL] at h
  obtain ⟨v, vs, rfl, _, h3⟩ := h
  show x.1 :: keysOf r = _
  rw [keysOf_map h3]; rfl
theorem allIn_mem : ∀ {l : List Int}, allIn l = true → ∀ x ∈ l, inR .i64 x = true
 | y :: t, h, x, hx => by
  obtain ⟨h1, h2⟩ := okK_ex (show okK (inR .i64 y) (allIn t) = true from h)
  rcases List.mem_cons.1 hx with rfl | hx
  ·exact h1
  ·exact allIn_mem h2 x hx
theorem memN_mem {g : Nat} : ∀ {gs : List Nat}, memN g gs = true → g ∈ gs
 | [], h => Bool.noConfusion h
 | x :: r, h => by
  have h : Bool.rec (motive := fun _ => Bool) (memN g r) true (Nat.beq g x) = true := h
  cases hx : Nat.beq g x with
  | true => rw [Nat.eq_of_beq_eq_true hx]; exact List.mem_cons_self
  | false => rw [hx] at h; exact List.mem_cons_of_mem _ (memN_mem h)
theorem intsA_ok {φ : Phi} : ∀ l : List Int, RSL φ (intsA l) (l.map encZ)
 | [] => by simp only [intsA, RSL, List.map_nil]
 | x :: r => by
  show RSL φ (.int .i64 x :: intsA r) _
  simp only [RSL, RS, List.map_cons]
  exact ⟨_, _, rfl, rfl, intsA_ok r⟩
theorem inR_wf {x : Int} (h : inR .i64 x = true) : (Lit.int .i64 x).wf = true := by
 simp only [Lit.wf, Bool.and_eq_true, decide_eq_true_eq]
 cases x with
 | ofNat m =>
  have h : Nat.ble m 9223372036854775807 = true := h
  have := Nat.le_of_ble_eq_true h
  simp [IntKind.min, IntKind.max, IntKind.signed, IntKind.bits]
  omega
 | negSucc m =>
  have h : Nat.ble m 9223372036854775807 = true := h
  have := Nat.le_of_ble_eq_true h
  simp [IntKind.min, IntKind.max, IntKind.signed, IntKind.bits]
  omega
theorem owns_of {kt : TypeId} (hkt : P.underlying kt = some (.int .i64)) {w : World} {b : Nat} {l : List (Int × Value)} (hb : BlkAt w0 w b (.imap l)) (hl : l.length ≤ 1000000) (hin : ∀ x ∈ l, inR .i64 x.1 = true) :
  ∃ D0 : DataW Unit, w.ownsMap P kt (fun _ => some (.nil, [])) b l.length D0 ∧ (intKeys D0).Perm (l.map (·.1)) ∧ Maps.size D0 = l.length := by
 obtain ⟨_, es', clk, hheap, hes, hborn, hclk, hnd⟩ := hb
 have hlen : es'.size = l.length := by have := congrArg List.length hes; simpa using this
 have hkey : ∀ x ∈ es'.toList, ∃ n : Int, x.key = .int .i64 n ∧ inR .i64 n = true := by
  intro x hx
  have : (x.key, x.val) ∈ l.map (fun x => (Value.int .i64 x.1, x.2)) := by rw [← hes]; exact List.mem_map.2 ⟨x, hx, rfl⟩
  obtain ⟨y, hy, he⟩ := List.mem_map.1 this
  simp only [Prod.mk.injEq] at he
  exact ⟨y.1, he.1.symm, hin y hy⟩
 have hko : ∀ n : Int, inR .i64 n = true → keyOf P kt (.int .i64 n) = some (.int .i64 n) := by
  intro n hn
  simp [keyOf, hkt, mapKey, inR_wf hn]
 have hrd : ∀ x ∈ es'.toList, ∃ n : Int, x.key = .int .i64 n ∧ rd (H := Unit) P kt (fun _ => some (.nil, [])) x = some (.int .i64 n, .nil) := by
  intro x hx
  obtain ⟨n, hn, hr⟩ := hkey x hx
  exact ⟨n, hn, by simp [rd, hn, hko n hr]⟩
 refine ⟨_, ⟨es', clk, hheap, ⟨by rw [hlen]; unfold maxLen; omega, ⟨hclk, ?_, ?_⟩, fun x hx => ?_⟩, by omega, rfl⟩, ?_, ?_⟩
 ·exact hborn.imp fun h => Nat.ne_of_lt h
 ·have : es'.toList.map (·.key) = (l.map (·.1)).map (Value.int .i64) := by
   have := congrArg (List.map (·.1)) hes
   simpa [List.map_map, Function.comp_def] using this
  rw [this]
  exact List.pairwise_map.2 (hnd.imp fun h e => h (by injection e))
 ·obtain ⟨n, _, hr⟩ := hrd x hx
  exact ⟨_, hr⟩
 ·show (((es'.toList.map (rg P kt _)).foldr DataW.insert []).map fun p => intOf p.1).Perm _
  refine ((WideShapes.sorted_perm _).map _).trans ?_
  rw [List.map_map]
  have : es'.toList.map ((fun p : Lit × DataW Unit => intOf p.1) ∘ rg P kt (fun _ => some (.nil, []))) = l.map (·.1) := by
   have h1 : (es'.toList.map (fun x => (x.key, x.val))).map (fun p => match p.1 with | .int _ n => n | _ => 0) = (l.map (fun x => (Value.int .i64 x.1, x.2))).map (fun p => match p.1 with | .int _ n => n | _ => 0) := by rw [hes]
   simp only [List.map_map, Function.comp_def] at h1
   rw [← h1]
   apply List.map_congr_left
   intro x hx
   obtain ⟨n, hn, hr⟩ := hrd x hx
   simp [rg, hr, hn, intOf]
  rw [this]
 ·show ((es'.toList.map (rg P kt _)).foldr DataW.insert []).length = _
  rw [length_sorted]; simp [hlen]
theorem okb_sorted {f : Nat} {kt : TypeId} {gs : List Nat} (hkt : P.underlying kt = some (.int .i64))
  (hs : ∀ g ∈ gs, ∀ (w : World) (Bm b nn : Nat) (D0 : DataW Unit) (R : Value → Option (DataW Unit × List MemPlace)), Bm < w.heap.size → w.cell? ⟨Bm, 0, none⟩ = some (.map (some b)) → w.ownsMap P kt R b nn D0 → Maps.size D0 ≤ maxLen → Maps.size D0 * 8 ≤ 140737488355328 →
   Calls P f #[.func (.func g) #[] #[.pointer (some ⟨Bm, 0, none⟩)]] w fun e w' => ∃ (v : Value) (ss : List Int), e = .returned v ∧ ss.Perm (intKeys D0) ∧
    w'.ownsRow w.heap.size kt 1 v ss.length ((ss.mergeSort (fun x y => decide (x ≤ y))).map encZ) ∧ (v = .slice none 0 0 ↔ ss = []) ∧ Below w.heap.size w w')
  (hn : ∀ g ∈ gs, ∀ (w : World) (Bm : Nat), Bm < w.heap.size → w.cell? ⟨Bm, 0, none⟩ = some (.map none) →
   Calls P f #[.func (.func g) #[] #[.pointer (some ⟨Bm, 0, none⟩)]] w fun e w' => ∃ (v : Value) (ss : List Int), e = .returned v ∧ ss = [] ∧ (v = .slice none 0 0 ↔ ss = []) ∧ Below w.heap.size w w') : OkB P w0 f (sortedB gs) := by
 intro cl _ args H K φ hF h vals hb ha hh
 unfold sortedB at hb
 split at hb
 ·rename_i g b
  obtain ⟨hg, hb⟩ := okK_ex hb
  have hg := memN_mem hg
  simp only [RVL, RV, RS, RSL, RP] at ha
  obtain ⟨V, _, rfl, ⟨a', c', rfl, ha', p, _, hc', ⟨ad, rfl, r, hr, rfl⟩, rfl⟩, rfl⟩ := ha
  have ha' : a' = #[] := by apply Array.ext'; simpa using ha'
  have hc' : c' = #[.pointer (some ⟨r.b, r.pre.length + 0, none⟩)] := by apply Array.ext'; simpa using hc'
  subst ha' hc'
  have cell : ∀ x, H.t.get b = some (.one x) → ∃ v, RS φ x v ∧ r.pre = [] ∧ ∀ w, View w0 h w → r.b < w.heap.size ∧ w.cell? ⟨r.b, 0, none⟩ = some v := by
   intro x hx
   obtain ⟨r', hr', k, hk, v, rfl, hp, hv⟩ := hh.blk _ _ hx
   rw [hr] at hr'
   cases hr'
   refine ⟨v, hv, hp, fun w hw => ⟨view_lt hw hk, ?_⟩⟩
   exact rowAt_cell (view_row hw (c := [v]) (by simp [Hp.row?, hk])) (o := 0) rfl
  have nilR : RV φ (.s (.slice .nil 0 (.lit 0) 1)) (.slice none 0 0) := by
   simp only [RV, RS, RC, RSl]
   exact ⟨none, 0, rfl, rfl, Nat.le_refl _, rfl, trivial, rfl⟩
  split at hb
  ·rename_i hx
   obtain ⟨v, hv, hp, hc⟩ := cell _ hx
   simp only [RS] at hv
   subst hv
   intro w hw
   obtain ⟨h1, h2⟩ := hc w hw
   rw [hp]
   refine (hn g hg w r.b h1 h2).mono ?_
   rintro e w' ⟨v, ss, rfl, hss, hnil, hbl⟩
   rw [hnil.2 hss]
   exact ⟨_, h, rfl, ⟨φ, _, H, PExt.refl φ, nilR, hh, hb⟩, view_below hw hbl⟩
  ·rename_i a hx
   obtain ⟨v, hv, hp, hc⟩ := cell _ hx
   simp only [RS] at hv
   obtain ⟨r2, hr2, rfl⟩ := hv
   obtain ⟨es, l, hb, _, hbl, hrel⟩ := mapK_ex hh hr2 hb
   obtain ⟨hok, hb⟩ := okK_ex hb
   simp only [Bool.and_eq_true] at hok
   have hks := keysOf_map hrel
   have hl : l.length ≤ 1000000 := by have := Nat.le_of_ble_eq_true hok.2; rw [ln_eq, ← hrel.length] at this; exact this
   have hin : ∀ x ∈ l, inR .i64 x.1 = true := fun x hx => allIn_mem hok.1 _ (by rw [hks]; exact List.mem_map.2 ⟨x, hx, rfl⟩)
   rw [fL_eq] at hb
   intro w hw
   obtain ⟨h1, h2⟩ := hc w hw
   obtain ⟨D0, ho, hperm, hsize⟩ := owns_of hkt (hw.blk _ _ hbl) hl hin
   rw [hp]
   refine (hs g hg w r.b r2.b l.length D0 _ h1 h2 ho (by rw [hsize]; unfold maxLen; omega) (by rw [hsize]; omega)).mono ?_
   rintro e w' ⟨v, ss, rfl, hss, hrow, hnil, hbel⟩
   have hsort : ss.mergeSort (fun x y => decide (x ≤ y)) = srtI (keysOf es) := by
    rw [srtI_merge, hks]
    exact mergeSort_of_perm_i (hss.trans hperm)
   have hlen : ss.length = (srtI (keysOf es)).length := by rw [← hsort, List.length_mergeSort]
   rw [hsort] at hrow
   have hvw := view_below hw hbel
   cases hk : srtI (keysOf es) with
   | nil =>
    rw [hk] at hb hlen
    have hss0 : ss = [] := List.length_eq_zero_iff.1 hlen
    rw [hnil.2 hss0]
    exact ⟨_, h, rfl, ⟨φ, _, H, PExt.refl φ, nilR, hh, hb⟩, hvw⟩
   | cons k0 rs =>
    rw [hk] at hb hlen hrow
    rcases hrow.2 with ⟨_, h0⟩ | ⟨gb, cap, cur, rfl, hge, hgb, hnc, hcm, hcs, htk⟩
    ·rw [hlen] at h0; cases h0
    have hbn : h gb = none := by
     cases hx : h gb with
     | none => rfl
     | some k => exact absurd (view_lt hw hx) (by omega)
    have hb : newK H _ _ = true := hb
    rw [newK_eq] at hb
    refine ⟨_, h.set gb (.row kt ((k0 :: rs).map encZ) cur.size), rfl, ⟨φ.put H.nx ⟨gb, [], kt, cur.size, cap, []⟩, _, _, hh.ext _, ?_, hh.new (r := ⟨gb, [], kt, cur.size, cap, []⟩) (ab := .row (intsA (k0 :: rs))) hbn ⟨(k0 :: rs).map encZ, rfl, intsA_ok _, ?_⟩, hb⟩, ?_⟩
    ·simp only [RV, RS, RC, RSl]
     rw [ln_eq, ← hlen]
     exact ⟨_, cap, rfl, ⟨_, Phi.put_same _ _ _, rfl⟩, hnc, _, Phi.put_same _ _ _, rfl, by simp [hcs]⟩
    ·simp only [List.length_nil, List.length_map, Nat.zero_add]
     rw [← hlen, hcs]; omega
    ·refine view_set hvw hvw.below ⟨by have := hw.below.size; omega, cur, hgb, rfl, ?_⟩ (fun b' hne hl' => rfl)
     rw [List.length_map, ← hlen]
     simpa using htk
  ·exact absurd hb (by decide)
 ·exact absurd hb (by decide)
end
end
end Go.Vw.Ev
