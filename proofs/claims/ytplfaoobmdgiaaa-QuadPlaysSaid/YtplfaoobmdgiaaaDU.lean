import Derived.Test.YtplfaoobmdgiaaaDT
import Derived.Test.YtplfaoobmdgiaaaBR
import Derived.Test.YtplfaoobmdgiaaaVwKeys
section
/- The grid's cells: numbers woven into one. -/
namespace Go.Proofs
open Go Go.Vw Go.Vw.Ev
set_option linter.unusedVariables false
set_option linter.unusedSimpArgs false

def u32 (n : Int) : Int := IntKind.wrap .u32 n
def u16 (n : Int) : Int := IntKind.wrap .u16 n
def or32 (a b : Int) : Int := u32 (BitVec.toNat (BitVec.ofInt (IntKind.bits .u32) a ||| BitVec.ofInt (IntKind.bits .u32) b))
def and32 (a b : Int) : Int := u32 (BitVec.toNat (BitVec.ofInt (IntKind.bits .u32) a &&& BitVec.ofInt (IntKind.bits .u32) b))
def shr32 (n f : Int) : Int := Int.fdiv n (2 ^ (min (Int.toNat f) (IntKind.bits .u32)))
def shl32 (n f : Int) : Int := u32 (n * 2 ^ (min (Int.toNat f) (IntKind.bits .u32)))
def gF : Nat → Int
  | 0 => 1
  | 1 => 2
  | 2 => 4
  | _ => 8
def gS : Nat → Int
  | 0 => 858993459
  | 1 => 252645135
  | 2 => 16711935
  | _ => 65535
def sF : Nat → Int
  | 0 => 8
  | 1 => 4
  | 2 => 2
  | _ => 1
def sS : Nat → Int
  | 0 => 16711935
  | 1 => 252645135
  | 2 => 858993459
  | _ => 1431655765
def pairC (a b : Int) : List AS := [.int .u64 a, .int .u32 b]
def gC : List AS := pairC (gF 0) (gS 0) ++ (pairC (gF 1) (gS 1) ++ (pairC (gF 2) (gS 2) ++ pairC (gF 3) (gS 3)))
def sC : List AS := pairC (sF 0) (sS 0) ++ (pairC (sF 1) (sS 1) ++ (pairC (sF 2) (sS 2) ++ pairC (sF 3) (sS 3)))
def gUp (n : Int) : Nat → Int
  | 0 => and32 n 1431655765
  | i + 1 => and32 (or32 (gUp n i) (shr32 (gUp n i) (gF i))) (gS i)
def sUp (n : Int) : Nat → Int
  | 0 => n
  | i + 1 => and32 (or32 (sUp n i) (shl32 (sUp n i) (sF i))) (sS i)
def CGather (cl : Cl) : Prop := ∀ n H K, (∀ H', Le H H' → K (.s (.int .u32 (gUp n 4))) H' = true) → cl i_morton_gather [.s (.int .u32 n)] H K = true
theorem B_morton_gather_ {lf : Nat} {cl : Cl} (hlf : 10 ≤ lf) {n : Int} {H : AH} {K : AV → AH → Bool} (hk : ∀ H', Le H H' → K (.s (.int .u32 (gUp n 4))) H' = true) : B_morton_gather lf cl n H K = true := by
  unfold B_morton_gather
  rw [wrapK_eq]
  refine fL_w ?_
  refine loopX_w (fun x H' => Le H H' ∧ x.2.1 = gC ∧ ∃ i : Nat, x.2.2 = (i : Int) ∧ i ≤ 4 ∧ x.1 = gUp n i) (fun x => 4 - x.2.2.toNat) ⟨Le.refl _, rfl, 0, rfl, by omega, rfl⟩ (by simp; omega) ?_
  rintro self ⟨x1, x2, x3⟩ H1 ⟨hL1, e2, i, e3, hi, e1⟩ ih
  simp only at e1 e2 e3
  subst e1 e2 e3
  simp only [pR_, fB_eq, iLt_dec]
  refine ifA_w (fun hx => ?_) (fun hx => ?_)
  · have hx : i < 4 := by have h : (i : Int) < 4 := of_decide_eq_true hx; omega
    refine idxK_w (by omega) (by omega) ?_
    simp only [fN_eq, Int.toNat_natCast, Nat.mul_eq]
    have hc : (gC.drop (i * 2)).take 2 = pairC (gF i) (gS i) := lt4 (P := fun i => (gC.drop (i * 2)).take 2 = pairC (gF i) (gS i)) rfl rfl rfl rfl i hx
    have hp : iLe (Int.ofNat 0) (gF i) = true := lt4 (P := fun i => iLe (Int.ofNat 0) (gF i) = true) rfl rfl rfl rfl i hx
    refine ldG_we (by simp [gC, pairC]; omega) (by decide) hc (tmp_w rfl rfl fun g H2 hL2 _ _ g2 => ?_)
    refine rowK_w g2 (ldI_w (n := gF i) rfl (okK_w hp (fI_w ?_)))
    rw [wrapK_eq]
    refine rowK_w g2 (ldI_w (n := gS i) rfl ?_)
    rw [wrapK_eq, iAdd_]
    exact w64_w (by simp only [Int.ofNat_eq_natCast]; omega) (by simp only [Int.ofNat_eq_natCast]; omega) (ih _ _ ⟨hL1.trans hL2, rfl, i + 1, by simp, by omega, rfl⟩ (by simp; omega))
  · have hx : i = 4 := by have h : ¬ (i : Int) < 4 := of_decide_eq_false hx; omega
    subst hx
    exact hk _ hL1
def weaveN (a b : Int) : Int := u32 (BitVec.toNat (BitVec.ofInt (IntKind.bits .u32) (sUp (u32 a) 4) ||| BitVec.ofInt (IntKind.bits .u32) (u32 (sUp (u32 b) 4 * 2 ^ (min (Int.toNat (Int.ofNat 1)) (IntKind.bits .u32))))))
def CSplit (cl : Cl) : Prop := ∀ n H K, (∀ H', Le H H' → K (.tup [.s (.int .u16 (u16 (gUp n 4))), .s (.int .u16 (u16 (gUp (shr32 n 1) 4)))]) H' = true) → cl i_morton_Split [.s (.int .u32 n)] H K = true
theorem B_morton_Split_ {lf : Nat} {cl : Cl} (hg : CGather cl) {n : Int} {H : AH} {K : AV → AH → Bool} (hk : ∀ H', Le H H' → K (.tup [.s (.int .u16 (u16 (gUp n 4))), .s (.int .u16 (u16 (gUp (shr32 n 1) 4)))]) H' = true) : B_morton_Split lf cl n H K = true := by
  unfold B_morton_Split
  refine hg _ _ _ fun H1 h1 => arI_w ?_
  rw [wrapK_eq]
  refine fI_w (hg _ _ _ fun H2 h2 => arI_w ?_)
  rw [wrapK_eq]
  exact hk _ (h1.trans h2)
theorem lt16 {P : Int → Prop} (h : ∀ i : Fin 16, P (i.val : Nat)) (c : Int) (h0 : 0 ≤ c) (h1 : c < 16) : P c := by
  obtain ⟨n, rfl⟩ := Int.eq_ofNat_of_zero_le h0
  exact h ⟨n, by omega⟩
def cellAt (x y : Int) : Int := x % 2 + 2 * (y % 2) + 4 * (x / 2) + 8 * (y / 2)
def cellX (c : Int) : Int := c % 2 + 2 * (c / 4 % 2)
def cellY (c : Int) : Int := c / 2 % 2 + 2 * (c / 8)
def cellR (c : Int) : Rc := ⟨cellX c * 16, cellY c * 16, (cellX c + 1) * 16, (cellY c + 1) * 16⟩
def isC (c : Int) : Bool := decide (0 ≤ c) && decide (c < 16)
def cellOf (p : Pt) : Int := cellAt (p.x / 16) (p.y / 16)
theorem split_at (c : Int) (h0 : 0 ≤ c) (h1 : c < 16) : u16 (gUp (u32 c) 4) = cellX c ∧ u16 (gUp (shr32 (u32 c) 1) 4) = cellY c :=
  lt16 (P := fun c => u16 (gUp (u32 c) 4) = cellX c ∧ u16 (gUp (shr32 (u32 c) 1) 4) = cellY c) (by decide +kernel) c h0 h1
theorem weave_at (x y : Int) (h0 : 0 ≤ x) (h1 : x < 4) (h2 : 0 ≤ y) (h3 : y < 4) : weaveN (u16 x) (u16 y) = cellAt x y := by
  obtain ⟨n, rfl⟩ := Int.eq_ofNat_of_zero_le h0
  obtain ⟨m, rfl⟩ := Int.eq_ofNat_of_zero_le h2
  have key : ∀ i j : Fin 4, weaveN (u16 (i.val : Nat)) (u16 (j.val : Nat)) = cellAt (i.val : Nat) (j.val : Nat) := by decide +kernel
  exact key ⟨n, by omega⟩ ⟨m, by omega⟩
theorem cellX_b {c : Int} (h0 : 0 ≤ c) (h1 : c < 16) : 0 ≤ cellX c ∧ cellX c < 4 ∧ 0 ≤ cellY c ∧ cellY c < 4 := by unfold cellX cellY; omega
theorem cellAt_b {x y : Int} (h0 : 0 ≤ x) (h1 : x < 4) (h2 : 0 ≤ y) (h3 : y < 4) : 0 ≤ cellAt x y ∧ cellAt x y < 16 := by unfold cellAt; omega
theorem cell_in {c : Int} (h0 : 0 ≤ c) (h1 : c < 16) (p : Pt) : RIn (cellR c) p = true ↔ On p = true ∧ cellOf p = c := by
  unfold RIn On cellOf cellR cellAt cellX cellY
  simp only [Bool.and_eq_true, decide_eq_true_eq]
  constructor
  · rintro ⟨a, b, e, f⟩
    refine ⟨⟨by omega, by omega, by omega, by omega⟩, ?_⟩
    have : p.x / 16 = c % 2 + 2 * (c / 4 % 2) := by omega
    have : p.y / 16 = c / 2 % 2 + 2 * (c / 8) := by omega
    omega
  · rintro ⟨⟨a, b, e, f⟩, g⟩
    have h2 : 0 ≤ p.x / 16 ∧ p.x / 16 < 4 ∧ 0 ≤ p.y / 16 ∧ p.y / 16 < 4 := by omega
    have h3 : p.x / 16 * 16 ≤ p.x ∧ p.x < (p.x / 16 + 1) * 16 ∧ p.y / 16 * 16 ≤ p.y ∧ p.y < (p.y / 16 + 1) * 16 := by omega
    generalize p.x / 16 = u at *
    generalize p.y / 16 = v at *
    subst g
    have : (u % 2 + 2 * (v % 2) + 4 * (u / 2) + 8 * (v / 2)) % 2 + 2 * ((u % 2 + 2 * (v % 2) + 4 * (u / 2) + 8 * (v / 2)) / 4 % 2) = u := by omega
    have : (u % 2 + 2 * (v % 2) + 4 * (u / 2) + 8 * (v / 2)) / 2 % 2 + 2 * ((u % 2 + 2 * (v % 2) + 4 * (u / 2) + 8 * (v / 2)) / 8) = v := by omega
    refine ⟨by omega, by omega, by omega, by omega⟩
def CPlace (cl : Cl) : Prop := ∀ c H K, 0 ≤ c → c < 16 → (∀ H', Le H H' → K (.tup [.s (.int .i64 (cellX c)), .s (.int .i64 (cellY c))]) H' = true) → cl i_cells_place [.s (.int .i64 c)] H K = true
theorem B_cells_place_ {lf : Nat} {cl : Cl} (hs : CSplit cl) {c : Int} {H : AH} {K : AV → AH → Bool} (h0 : 0 ≤ c) (h1 : c < 16) (hk : ∀ H', Le H H' → K (.tup [.s (.int .i64 (cellX c)), .s (.int .i64 (cellY c))]) H' = true) : B_cells_place lf cl c H K = true := by
  unfold B_cells_place
  rw [wrapK_eq]
  refine hs _ _ _ fun H1 h1' => ?_
  obtain ⟨e1, e2⟩ := split_at c h0 h1
  obtain ⟨b0, b1, b2, b3⟩ := cellX_b h0 h1
  rw [show IntKind.wrap .u32 c = u32 c from rfl, e1, e2]
  rw [tup2_]
  refine arI_w (arI_w (w64_w (by omega) (by omega) (w64_w (by omega) (by omega) (hk _ h1'))))
def CIsC (cl : Cl) : Prop := ∀ c H K, K (.s (.bool (isC c))) H = true → cl i_cells_Is [.s (.int .i64 c)] H K = true
theorem B_cells_Is_ {lf : Nat} {cl : Cl} {c : Int} {H : AH} {K : AV → AH → Bool} (hk : K (.s (.bool (isC c))) H = true) : B_cells_Is lf cl c H K = true := by
  unfold B_cells_Is
  simp only [fB_eq, iLe_dec, iLt_dec, ifA_and]
  exact hk
def rc0' : Rc := ⟨0, 0, 0, 0⟩
def CRectC (cl : Cl) : Prop := ∀ c H K, (∀ H', Le H H' → K (.tup [.agg (rcC (if isC c = true then cellR c else rc0')), .s (.bool (isC c))]) H' = true) → cl i_cells_Rect [.s (.int .i64 c)] H K = true
theorem B_cells_Rect_ {lf : Nat} {cl : Cl} (hi : CIsC cl) (hp : CPlace cl) {c : Int} {H : AH} {K : AV → AH → Bool} (hk : ∀ H', Le H H' → K (.tup [.agg (rcC (if isC c = true then cellR c else rc0')), .s (.bool (isC c))]) H' = true) : B_cells_Rect lf cl c H K = true := by
  unfold B_cells_Rect
  refine new_w fun g H1 hL1 h1 n1 g1 => ?_
  refine hi _ _ _ (arB_w ?_)
  rw [fB_eq]
  refine ifA_w (fun hc => ?_) (fun hc => ?_)
  · have hc : isC c = false := by simpa using hc
    refine stoN_we (ds := rcC rc0') g1 rfl (Nat.le_refl 4) rfl (rowK_w (get_put _ _ _) (ldG_we (ys := rcC rc0') (Nat.le_refl 4) (by decide) rfl ?_))
    have := hk (H1.put g (.row (rcC rc0'))) (hL1.put n1 _)
    rw [hc] at this
    exact this
  · have hc : isC c = true := by simpa using hc
    have hb : 0 ≤ c ∧ c < 16 := by unfold isC at hc; simpa using hc
    obtain ⟨b0, b1, b2, b3⟩ := cellX_b hb.1 hb.2
    refine hp _ _ _ hb.1 hb.2 fun H2 h2 => ?_
    rw [tup2_]
    refine arI_w (arI_w ?_)
    simp only [iMul_, iAdd_, Int.ofNat_eq_natCast, Int.cast_ofNat_Int]
    refine w64_w (by omega) (by omega) (w64_w (by omega) (by omega) (w64_w (by omega) (by omega) (w64_w (by omega) (by omega) (w64_w (by omega) (by omega) (w64_w (by omega) (by omega) ?_)))))
    refine stoN_we (ds := rcC (cellR c)) ((h2.get _ h1).trans g1) rfl (Nat.le_refl 4) rfl (rowK_w (get_put _ _ _) (ldG_we (ys := rcC (cellR c)) (Nat.le_refl 4) (by decide) rfl ?_))
    have := hk (H2.put g (.row (rcC (cellR c)))) ((hL1.trans h2).put n1 _)
    rw [hc] at this
    exact this
end Go.Proofs
end
section
/- The table: of a row, by cells, all. -/
namespace Go.Proofs
open Go Go.Vw Go.Vw.Ev
set_option linter.unusedVariables false
set_option linter.unusedSimpArgs false

theorem intsA_len (l : List Int) : (intsA l).length = l.length := by rw [intsA_map]; simp
noncomputable def cellT (L : List (Int × Th)) (c : Int) : List Int := if isC c = true then inT L (cellR c) else []
def CTCell (cl : Cl) : Prop := ∀ H g L O c K, TT H g L O → L.length < 10000 → (∀ H' p c' z, Le H H' → Sl H H' p (cellT L c).length z (thsC ((cellT L c).map (thOf L))) 11 → K (.s (.slice p (cellT L c).length c' z)) H' = true) → cl i_table_Table_Cell [.s (.ptr (.at g 0)), .s (.int .i64 c)] H K = true
theorem B_table_Table_Cell_ {lf : Nat} {cl : Cl} (hr : CRectC cl) (hin : CTIn cl) {H : AH} {g : Pn} {L : List (Int × Th)} {O : Pn → Prop} {c : Int} {K : AV → AH → Bool} (tt : TT H g L O) (hl : L.length < 10000)
    (hk : ∀ H' p c' z, Le H H' → Sl H H' p (cellT L c).length z (thsC ((cellT L c).map (thOf L))) 11 → K (.s (.slice p (cellT L c).length c' z)) H' = true) : B_table_Table_Cell lf cl (.at g 0) c H K = true := by
  unfold B_table_Table_Cell
  refine hr _ _ _ fun H1 h1 => ?_
  rw [tup2_, asG_]
  refine arB_w (tmp_w rfl rfl fun ga H2 h2 ha na ga2 => ?_)
  have hL2 := h1.trans h2
  rw [fB_eq]
  refine ifA_w (fun hc => ?_) (fun hc => ?_)
  · have hc : isC c = false := by simpa using hc
    have := hk H2 .nil (.lit 0) 1 hL2
    rw [show cellT L c = [] by unfold cellT; rw [hc]; rfl] at this
    exact this Sl.nil
  · have hc : isC c = true := by simpa using hc
    rw [if_pos hc] at ga2
    have e : cellT L c = inT L (cellR c) := by unfold cellT; rw [if_pos hc]
    rw [e] at hk
    refine rowK_w ga2 (ldG_we (ys := rcC (cellR c)) (Nat.le_refl 4) (by decide) rfl ?_)
    refine hin H2 g L O _ _ (tt.le hL2) hl fun H3 p3 c3 z3 h3 sl3 => ?_
    rw [asSl_]
    exact hk H3 p3 c3 z3 (hL2.trans h3) ⟨sl3.len, sl3.rep.imp (fun h => h) fun ⟨g, h1, h2, h3, h4, h5⟩ => ⟨g, h1, h2, h3, h4, fun h => h5 (hL2.has _ h)⟩⟩
/-! All. -/
theorem allIn_of : ∀ {l : List Int}, (∀ x ∈ l, inR .i64 x = true) → allIn l = true
  | [], _ => rfl
  | x :: r, h => by
    show okK (inR .i64 x) (allIn r) = true
    exact okK_w (h x (by simp)) (allIn_of fun y hy => h y (by simp [hy]))
theorem inR_of {x : Int} (h0 : 0 ≤ x) (h1 : x ≤ 9223372036854775807) : inR .i64 x = true := by
  obtain ⟨n, rfl⟩ := Int.eq_ofNat_of_zero_le h0
  exact Nat.ble_eq_true_of_le (by omega : n ≤ 9223372036854775807)
def CKeys (f : Nat) (cl : Cl) : Prop := ∀ H m es K, H.get m = some (.imap es) → (∀ k ∈ keysOf es, 0 ≤ k ∧ k ≤ 9223372036854775807) → es.length ≤ 1000000 →
  (∀ H' p c z, Le H H' → IS H' p (srtI (keysOf es)).length z (srtI (keysOf es)) → K (.s (.slice p (srtI (keysOf es)).length c z)) H' = true) → cl f [.s (.map (some m))] H (fun r h => cl i_slices_Sorted_int [r] h K) = true
theorem keys_sorted_ {g : Nat} {gs : List Nat} (hg : memN g gs = true) {cl cl' : Cl} {H : AH} {m : Pn} {es : List (Int × AV)} {K : AV → AH → Bool} (hm : H.get m = some (.imap es)) (hh : H.has m) (hr : ∀ k ∈ keysOf es, 0 ≤ k ∧ k ≤ 9223372036854775807) (hl : es.length ≤ 1000000)
    (hk : ∀ H' p c z, Le H H' → IS H' p (srtI (keysOf es)).length z (srtI (keysOf es)) → K (.s (.slice p (srtI (keysOf es)).length c z)) H' = true) : keysB g cl [.s (.map (some m))] H (fun r h => sortedB gs cl' [r] h K) = true := by
  unfold keysB
  refine new_w fun b H1 h1 hb nb gb => ?_
  unfold sortedB
  refine okK_w hg ?_
  rw [show H1.t.get b = some (.one (.map (some m))) from gb]
  refine mapK_w ((h1.get _ hh).trans hm) (okK_w ?_ (fL_w ?_))
  · rw [allIn_of fun x hx => inR_of (hr x hx).1 (hr x hx).2, ln_eq, Nat.ble_eq_true_of_le hl]; rfl
  · cases e : srtI (keysOf es) with
    | nil =>
      have := hk H1 .nil (.lit 0) 1 h1
      rw [e] at this
      exact this ⟨rfl, .inl ⟨rfl, rfl⟩⟩
    | cons k r =>
      refine new_w fun c H2 h2 hc nc gc => ?_
      rw [ln_eq]
      rw [e] at hk
      refine hk H2 (.at c 0) _ 1 (h1.trans h2) ⟨rfl, .inr ⟨c, _, rfl, rfl, hc, gc, by rw [intsA_len]; exact Nat.le_refl _, ?_⟩⟩
      rw [List.take_of_length_le (by rw [intsA_len]; exact Nat.le_refl _)]
theorem keysOf_img {β : Type} (f : β → AV) : ∀ L : List (Int × β), keysOf (aImg f L) = aKeys L
  | [] => rfl
  | x :: r => by
    show x.1 :: keysOf (aImg f r) = _
    rw [keysOf_img f r]; rfl
noncomputable def allT (L : List (Int × Th)) : List Int := srtI (aKeys L)
theorem allT_len (L : List (Int × Th)) : (allT L).length = L.length := by unfold allT; rw [srtI_len]; simp [aKeys]
def CTAll (cl : Cl) : Prop := ∀ H g L O K, TT H g L O → L.length < 10000 → (∀ H' p c z, Le H H' → Sl H H' p (allT L).length z (thsC ((allT L).map (thOf L))) 11 → K (.s (.slice p (allT L).length c z)) H' = true) → cl i_table_Table_All [.s (.ptr (.at g 0))] H K = true
theorem B_table_Table_All_ {lf : Nat} {cl : Cl} (hks : ∀ H m es K, H.get m = some (.imap es) → H.has m → (∀ k ∈ keysOf es, 0 ≤ k ∧ k ≤ 9223372036854775807) → es.length ≤ 1000000 →
      (∀ H' p c z, Le H H' → IS H' p (srtI (keysOf es)).length z (srtI (keysOf es)) → K (.s (.slice p (srtI (keysOf es)).length c z)) H' = true) → cl i_maps_Keys_int_Thing [.s (.map (some m))] H (fun r h => cl i_slices_Sorted_int [r] h K) = true)
    (hof : COf cl) {H : AH} {g : Pn} {L : List (Int × Th)} {O : Pn → Prop} {K : AV → AH → Bool} (tt : TT H g L O) (hl : L.length < 10000)
    (hk : ∀ H' p c z, Le H H' → Sl H H' p (allT L).length z (thsC ((allT L).map (thOf L))) 11 → K (.s (.slice p (allT L).length c z)) H' = true) : B_table_Table_All lf cl (.at g 0) H K = true := by
  have tt0 := tt
  obtain ⟨m, q, Lq, Oq, tb, rfl⟩ := tt
  unfold B_table_Table_All
  simp only [nilK_at, fN_eq, Nat.add_eq, Nat.add_zero, Nat.zero_add]
  refine rowK_w tb.get (ldM_w rfl ?_)
  have hkb : ∀ k ∈ aKeys L, 0 ≤ k ∧ k ≤ 9223372036854775807 := fun k hk => by
    obtain ⟨m', q', t, _⟩ := tb.tr
    exact t.kb k ((tb.mem k).2 hk)
  refine hks H m (aImg thV L) _ tb.map tb.hasm (by rw [keysOf_img]; exact hkb) (by rw [aImg_length]; omega) fun H1 p1 c1 z1 h1 is1 => ?_
  rw [asSl_]
  rw [keysOf_img] at *
  refine hof H1 g L _ _ p1 c1 z1 _ (tt0.le h1) is1 (by rw [srtI_len]; simp [aKeys]; omega) fun H2 p2 c2 z2 h2 sl2 => ?_
  rw [asSl_]
  exact hk H2 p2 c2 z2 (h1.trans h2) ⟨sl2.len, sl2.rep.imp (fun h => h) fun ⟨g, h1', h2, h3, h4, h5⟩ => ⟨g, h1', h2, h3, h4, fun h => h5 (h1.has _ h)⟩⟩
/-! Of. -/
def InT (H : AH) (p : AP) (n : Nat) (ts : List Th) : Prop := ts.length = n ∧ (n ≠ 0 → ∃ g, p = .at g 0 ∧ H.has g ∧ (H.get g = some (.fix (thsC ts)) ∨ H.get g = some (.row (thsC ts))))
theorem InT.le {H H' : AH} {p : AP} {n : Nat} {ts : List Th} (h : InT H p n ts) (k : Le H H') : InT H' p n ts :=
  ⟨h.1, fun hn => (h.2 hn).imp fun g hg => ⟨hg.1, k.has g hg.2.1, hg.2.2.imp (fun e => (k.get g hg.2.1).trans e) (fun e => (k.get g hg.2.1).trans e)⟩⟩
theorem rowK_wo {H : AH} {a : Pn} {cs : List AS} {K : List AS → Bool} (h : H.get a = some (.fix cs) ∨ H.get a = some (.row cs)) (hk : K cs = true) : rowK H a K = true := h.elim (fun h => rowK_wf h hk) (fun h => rowK_w h hk)
theorem InT.read {H : AH} {p : AP} {n : Nat} {ts : List Th} (h : InT H p n ts) {i : Nat} (hi : i < n) {K : List AS → Bool} (hk : K (thC (ts[i]'(by rw [h.1]; exact hi))) = true) :
    nilK p (fun g o => idxK (i : Int) n fun m => fN (Nat.add o (Nat.mul m 11)) fun o => rowK H g fun cs => ldG cs o 11 K) = true := by
  obtain ⟨g, rfl, hg, hrow⟩ := h.2 (by omega)
  simp only [nilK_at, fN_eq, Nat.add_eq, Nat.mul_eq, Nat.zero_add]
  have hl : (thsC ts).length = n * 11 := by rw [thsC_len, h.1]
  exact idxK_w (by omega) (by omega) (rowK_wo hrow (ldG_we (by rw [hl, Int.toNat_natCast]; omega) (by decide) (by rw [Int.toNat_natCast]; exact thsC_at ts i _) hk))
def putAll (ts : List Th) : List (Int × Th) := ts.foldl tputL []
def CTOf (cl : Cl) : Prop := ∀ H p n c ts K, InT H p n ts → n < 100000 → (∀ H' g O, Le H H' → TT H' g (putAll ts) O → (∀ a, O a → ¬ H.has a) → K (.s (.ptr (.at g 0))) H' = true) → cl i_table_Of [.s (.slice p n c 11)] H K = true
theorem W_table_OfZ {lf : Nat} {cl : Cl} (hlf : 1000000 ≤ lf) (hnew : CTNew cl) (hput : CTPut cl) {H : AH} {p : AP} {n zz : Nat} {c : ACap} {ts : List Th} {K : AV → AH → Bool} (hI : InT H p n ts) (hn : n < 100000)
    (hk : ∀ H' g O, Le H H' → TT H' g (putAll ts) O → (∀ a, O a → ¬ H.has a) → K (.s (.ptr (.at g 0))) H' = true) : B_table_Of lf cl p n c zz H K = true := by
  unfold B_table_Of
  refine hnew _ _ fun H1 g O hL1 tt1 hz1 => ?_
  rw [asP_]
  refine loopX_w (fun x Hk => x.1 = .at g 0 ∧ x.2.1 = (p, n, c, zz) ∧ x.2.2.1 = (n : Int) ∧ ∃ i : Nat, x.2.2.2 = (i : Int) ∧ i ≤ n ∧ Le H Hk ∧ ∃ O, TT Hk g (putAll (ts.take i)) O ∧ ∀ a, O a → ¬ H.has a) (fun x => 100000 - x.2.2.2.toNat)
    ⟨rfl, rfl, rfl, 0, rfl, by omega, hL1, O, tt1, hz1⟩ (by simp; omega) ?_
  clear tt1 hL1 hz1 O H1
  rintro self ⟨x1, x2, x3, x4⟩ H1 ⟨e1, e2, e3, i, e4, hi, hL1, O, tt, hz⟩ ih
  simp only at e1 e2 e3 e4
  subst e1 e2 e3 e4
  simp only [pR_, fB_eq, iLt_dec]
  refine ifA_w (fun hx => ?_) (fun hx => ?_)
  · have hx : i < n := by have := of_decide_eq_true hx; omega
    have hti : i < ts.length := by rw [hI.1]; exact hx
    refine (hI.le hL1).read hx (tmp_w rfl rfl fun gt H2 hL2 ht nt gt2 => ?_)
    refine rowK_w gt2 (ldG_we (by rw [thC_len]; decide) (by decide) (thC_all _) ?_)
    refine hput H2 g _ O ts[i] _ (tt.le hL2) fun H3 O3 f3 t3 o3 => arI_w ?_
    rw [iAdd_]
    have hL12 := hL1.trans hL2
    refine w64_w (by simp only [Int.ofNat_eq_natCast]; omega) (by simp only [Int.ofNat_eq_natCast]; omega) (ih _ _ ⟨rfl, rfl, rfl, i + 1, by simp, by omega, ⟨fun a ha => f3.has a (hL12.has a ha), fun a ha => (f3.get a (hL12.has a ha) fun h => hz a h ha).trans (hL12.get a ha)⟩, O3, ?_, fun a ha => (o3 a ha).elim (hz a) fun h hh => h (hL12.has a hh)⟩ (by simp; omega))
    rw [List.take_succ_eq_append_getElem hti]
    unfold putAll
    rw [List.foldl_append]
    exact t3
  · have hx : i = n := by have := of_decide_eq_false hx; omega
    rw [hx, ← hI.1, List.take_length] at tt
    exact hk _ _ _ hL1 tt hz
theorem B_table_Of_ {lf : Nat} {cl : Cl} (hlf : 1000000 ≤ lf) (hnew : CTNew cl) (hput : CTPut cl) {H : AH} {p : AP} {n : Nat} {c : ACap} {ts : List Th} {K : AV → AH → Bool} (hI : InT H p n ts) (hn : n < 100000)
    (hk : ∀ H' g O, Le H H' → TT H' g (putAll ts) O → (∀ a, O a → ¬ H.has a) → K (.s (.ptr (.at g 0))) H' = true) : B_table_Of lf cl p n c 11 H K = true := W_table_OfZ hlf hnew hput hI hn hk
def CTOfZ (cl : Cl) : Prop := ∀ H p n c z ts K, InT H p n ts → n < 100000 → (∀ H' g O, Le H H' → TT H' g (putAll ts) O → (∀ a, O a → ¬ H.has a) → K (.s (.ptr (.at g 0))) H' = true) → cl i_table_Of [.s (.slice p n c z)] H K = true
end Go.Proofs
end
