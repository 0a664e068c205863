/- The grid's cells: numbers woven into one. -/
import Derived.Test.YtplfaoobmdgiaaaDT
import Derived.Test.YtplfaoobmdgiaaaBR
import Derived.Test.YtplfaoobmdgiaaaBR
namespace Go.Proofs
open Go Go.Vw Go.Vw.Ev
set_option linter.unusedVariables false
set_option linter.unusedSimpArgs false

def u32 (n : Int) : Int := IntKind.wrap .u32 n
def u16 (n : Int) : Int := IntKind.wrap .u16 n
def or32 (a b : Int) : Int := u32 (BitVec.toNat (BitVec.ofInt (IntKind.bits .u32) a ||| BitVec.ofInt (IntKind.bits .u32) b))
def and32 (a b : Int) : Int := u32 (BitVec.toNat (BitVec.ofInt (IntKind.bits .u32) a &&& BitVec.ofInt (IntKind.bits .u32) b))
def shr32 (n f : Int) : Int := Int.fdiv n (2 ^ (min (Int.toNat f) (IntKind.bits .u32)))
def shl32 (n f : Int) : Int := u32 (n * 2 ^ (min (Int.toNat f) (IntKind.bits .u32)))
def gF : Nat → Int
  | 0 => 1
  | 1 => 2
  | 2 => 4
  | _ => 8
def gS : Nat → Int
  | 0 => 858993459
  | 1 => 252645135
  | 2 => 16711935
  | _ => 65535
def sF : Nat → Int
  | 0 => 8
  | 1 => 4
  | 2 => 2
  | _ => 1
def sS : Nat → Int
  | 0 => 16711935
  | 1 => 252645135
  | 2 => 858993459
  | _ => 1431655765
def pairC (a b : Int) : List AS := [.int .u64 a, .int .u32 b]
def gC : List AS := pairC (gF 0) (gS 0) ++ (pairC (gF 1) (gS 1) ++ (pairC (gF 2) (gS 2) ++ pairC (gF 3) (gS 3)))
def sC : List AS := pairC (sF 0) (sS 0) ++ (pairC (sF 1) (sS 1) ++ (pairC (sF 2) (sS 2) ++ pairC (sF 3) (sS 3)))
def gUp (n : Int) : Nat → Int
  | 0 => and32 n 1431655765
  | i + 1 => and32 (or32 (gUp n i) (shr32 (gUp n i) (gF i))) (gS i)
def sUp (n : Int) : Nat → Int
  | 0 => n
  | i + 1 => and32 (or32 (sUp n i) (shl32 (sUp n i) (sF i))) (sS i)
def CGather (cl : Cl) : Prop := ∀ n H K, (∀ H', Le H H' → K (.s (.int .u32 (gUp n 4))) H' = true) → cl i_morton_gather [.s (.int .u32 n)] H K = true
theorem B_morton_gather_ {lf : Nat} {cl : Cl} (hlf : 10 ≤ lf) {n : Int} {H : AH} {K : AV → AH → Bool} (hk : ∀ H', Le H H' → K (.s (.int .u32 (gUp n 4))) H' = true) : B_morton_gather lf cl n H K = true := by
  unfold B_morton_gather
  rw [wrapK_eq]
  refine fL_w ?_
  refine loopX_w (fun x H' => Le H H' ∧ x.2.1 = gC ∧ ∃ i : Nat, x.2.2 = (i : Int) ∧ i ≤ 4 ∧ x.1 = gUp n i) (fun x => 4 - x.2.2.toNat) ⟨Le.refl _, rfl, 0, rfl, by omega, rfl⟩ (by simp; omega) ?_
  rintro self ⟨x1, x2, x3⟩ H1 ⟨hL1, e2, i, e3, hi, e1⟩ ih
  simp only at e1 e2 e3
  subst e1 e2 e3
  simp only [pR_, fB_eq, iLt_dec]
  refine ifA_w (fun hx => ?_) (fun hx => ?_)
  · have hx : i < 4 := by have h : (i : Int) < 4 := of_decide_eq_true hx; omega
    refine idxK_w (by omega) (by omega) ?_
    simp only [fN_eq, Int.toNat_natCast, Nat.mul_eq]
    have hc : (gC.drop (i * 2)).take 2 = pairC (gF i) (gS i) := lt4 (P := fun i => (gC.drop (i * 2)).take 2 = pairC (gF i) (gS i)) rfl rfl rfl rfl i hx
    have hp : iLe (Int.ofNat 0) (gF i) = true := lt4 (P := fun i => iLe (Int.ofNat 0) (gF i) = true) rfl rfl rfl rfl i hx
    refine ldG_we (by simp [gC, pairC]; omega) (by decide) hc (tmp_w rfl rfl fun g H2 hL2 _ _ g2 => ?_)
    refine rowK_w g2 (ldI_w (n := gF i) rfl (okK_w hp (fI_w ?_)))
    rw [wrapK_eq]
    refine rowK_w g2 (ldI_w (n := gS i) rfl ?_)
    rw [wrapK_eq, iAdd_]
    exact w64_w (by simp only [Int.ofNat_eq_natCast]; omega) (by simp only [Int.ofNat_eq_natCast]; omega) (ih _ _ ⟨hL1.trans hL2, rfl, i + 1, by simp, by omega, rfl⟩ (by simp; omega))
  · have hx : i = 4 := by have h : ¬ (i : Int) < 4 := of_decide_eq_false hx; omega
    subst hx
    exact hk _ hL1
def weaveN (a b : Int) : Int := u32 (BitVec.toNat (BitVec.ofInt (IntKind.bits .u32) (sUp (u32 a) 4) ||| BitVec.ofInt (IntKind.bits .u32) (u32 (sUp (u32 b) 4 * 2 ^ (min (Int.toNat (Int.ofNat 1)) (IntKind.bits .u32))))))
def CSplit (cl : Cl) : Prop := ∀ n H K, (∀ H', Le H H' → K (.tup [.s (.int .u16 (u16 (gUp n 4))), .s (.int .u16 (u16 (gUp (shr32 n 1) 4)))]) H' = true) → cl i_morton_Split [.s (.int .u32 n)] H K = true
theorem B_morton_Split_ {lf : Nat} {cl : Cl} (hg : CGather cl) {n : Int} {H : AH} {K : AV → AH → Bool} (hk : ∀ H', Le H H' → K (.tup [.s (.int .u16 (u16 (gUp n 4))), .s (.int .u16 (u16 (gUp (shr32 n 1) 4)))]) H' = true) : B_morton_Split lf cl n H K = true := by
  unfold B_morton_Split
  refine hg _ _ _ fun H1 h1 => arI_w ?_
  rw [wrapK_eq]
  refine fI_w (hg _ _ _ fun H2 h2 => arI_w ?_)
  rw [wrapK_eq]
  exact hk _ (h1.trans h2)
theorem lt16 {P : Int → Prop} (h : ∀ i : Fin 16, P (i.val : Nat)) (c : Int) (h0 : 0 ≤ c) (h1 : c < 16) : P c := by
  obtain ⟨n, rfl⟩ := Int.eq_ofNat_of_zero_le h0
  exact h ⟨n, by omega⟩
def cellAt (x y : Int) : Int := x % 2 + 2 * (y % 2) + 4 * (x / 2) + 8 * (y / 2)
def cellX (c : Int) : Int := c % 2 + 2 * (c / 4 % 2)
def cellY (c : Int) : Int := c / 2 % 2 + 2 * (c / 8)
def cellR (c : Int) : Rc := ⟨cellX c * 16, cellY c * 16, (cellX c + 1) * 16, (cellY c + 1) * 16⟩
def isC (c : Int) : Bool := decide (0 ≤ c) && decide (c < 16)
def cellOf (p : Pt) : Int := cellAt (p.x / 16) (p.y / 16)
theorem split_at (c : Int) (h0 : 0 ≤ c) (h1 : c < 16) : u16 (gUp (u32 c) 4) = cellX c ∧ u16 (gUp (shr32 (u32 c) 1) 4) = cellY c :=
  lt16 (P := fun c => u16 (gUp (u32 c) 4) = cellX c ∧ u16 (gUp (shr32 (u32 c) 1) 4) = cellY c) (by decide +kernel) c h0 h1
theorem weave_at (x y : Int) (h0 : 0 ≤ x) (h1 : x < 4) (h2 : 0 ≤ y) (h3 : y < 4) : weaveN (u16 x) (u16 y) = cellAt x y := by
  obtain ⟨n, rfl⟩ := Int.eq_ofNat_of_zero_le h0
  obtain ⟨m, rfl⟩ := Int.eq_ofNat_of_zero_le h2
  have key : ∀ i j : Fin 4, weaveN (u16 (i.val : Nat)) (u16 (j.val : Nat)) = cellAt (i.val : Nat) (j.val : Nat) := by decide +kernel
  exact key ⟨n, by omega⟩ ⟨m, by omega⟩
theorem cellX_b {c : Int} (h0 : 0 ≤ c) (h1 : c < 16) : 0 ≤ cellX c ∧ cellX c < 4 ∧ 0 ≤ cellY c ∧ cellY c < 4 := by unfold cellX cellY; omega
theorem cellAt_b {x y : Int} (h0 : 0 ≤ x) (h1 : x < 4) (h2 : 0 ≤ y) (h3 : y < 4) : 0 ≤ cellAt x y ∧ cellAt x y < 16 := by unfold cellAt; omega
theorem cell_in {c : Int} (h0 : 0 ≤ c) (h1 : c < 16) (p : Pt) : RIn (cellR c) p = true ↔ On p = true ∧ cellOf p = c := by
  unfold RIn On cellOf cellR cellAt cellX cellY
  simp only [Bool.and_eq_true, decide_eq_true_eq]
  constructor
  · rintro ⟨a, b, e, f⟩
    refine ⟨⟨by omega, by omega, by omega, by omega⟩, ?_⟩
    have : p.x / 16 = c % 2 + 2 * (c / 4 % 2) := by omega
    have : p.y / 16 = c / 2 % 2 + 2 * (c / 8) := by omega
    omega
  · rintro ⟨⟨a, b, e, f⟩, g⟩
    have h2 : 0 ≤ p.x / 16 ∧ p.x / 16 < 4 ∧ 0 ≤ p.y / 16 ∧ p.y / 16 < 4 := by omega
    have h3 : p.x / 16 * 16 ≤ p.x ∧ p.x < (p.x / 16 + 1) * 16 ∧ p.y / 16 * 16 ≤ p.y ∧ p.y < (p.y / 16 + 1) * 16 := by omega
    generalize p.x / 16 = u at *
    generalize p.y / 16 = v at *
    subst g
    have : (u % 2 + 2 * (v % 2) + 4 * (u / 2) + 8 * (v / 2)) % 2 + 2 * ((u % 2 + 2 * (v % 2) + 4 * (u / 2) + 8 * (v / 2)) / 4 % 2) = u := by omega
    have : (u % 2 + 2 * (v % 2) + 4 * (u / 2) + 8 * (v / 2)) / 2 % 2 + 2 * ((u % 2 + 2 * (v % 2) + 4 * (u / 2) + 8 * (v / 2)) / 8) = v := by omega
    refine ⟨by omega, by omega, by omega, by omega⟩
def CPlace (cl : Cl) : Prop := ∀ c H K, 0 ≤ c → c < 16 → (∀ H', Le H H' → K (.tup [.s (.int .i64 (cellX c)), .s (.int .i64 (cellY c))]) H' = true) → cl i_cells_place [.s (.int .i64 c)] H K = true
theorem B_cells_place_ {lf : Nat} {cl : Cl} (hs : CSplit cl) {c : Int} {H : AH} {K : AV → AH → Bool} (h0 : 0 ≤ c) (h1 : c < 16) (hk : ∀ H', Le H H' → K (.tup [.s (.int .i64 (cellX c)), .s (.int .i64 (cellY c))]) H' = true) : B_cells_place lf cl c H K = true := by
  unfold B_cells_place
  rw [wrapK_eq]
  refine hs _ _ _ fun H1 h1' => ?_
  obtain ⟨e1, e2⟩ := split_at c h0 h1
  obtain ⟨b0, b1, b2, b3⟩ := cellX_b h0 h1
  rw [show IntKind.wrap .u32 c = u32 c from rfl, e1, e2]
  rw [tup2_]
  refine arI_w (arI_w (w64_w (by omega) (by omega) (w64_w (by omega) (by omega) (hk _ h1'))))
def CIsC (cl : Cl) : Prop := ∀ c H K, K (.s (.bool (isC c))) H = true → cl i_cells_Is [.s (.int .i64 c)] H K = true
theorem B_cells_Is_ {lf : Nat} {cl : Cl} {c : Int} {H : AH} {K : AV → AH → Bool} (hk : K (.s (.bool (isC c))) H = true) : B_cells_Is lf cl c H K = true := by
  unfold B_cells_Is
  simp only [fB_eq, iLe_dec, iLt_dec, ifA_and]
  exact hk
def rc0' : Rc := ⟨0, 0, 0, 0⟩
def CRectC (cl : Cl) : Prop := ∀ c H K, (∀ H', Le H H' → K (.tup [.agg (rcC (if isC c = true then cellR c else rc0')), .s (.bool (isC c))]) H' = true) → cl i_cells_Rect [.s (.int .i64 c)] H K = true
theorem B_cells_Rect_ {lf : Nat} {cl : Cl} (hi : CIsC cl) (hp : CPlace cl) {c : Int} {H : AH} {K : AV → AH → Bool} (hk : ∀ H', Le H H' → K (.tup [.agg (rcC (if isC c = true then cellR c else rc0')), .s (.bool (isC c))]) H' = true) : B_cells_Rect lf cl c H K = true := by
  unfold B_cells_Rect
  refine new_w fun g H1 hL1 h1 n1 g1 => ?_
  refine hi _ _ _ (arB_w ?_)
  rw [fB_eq]
  refine ifA_w (fun hc => ?_) (fun hc => ?_)
  · have hc : isC c = false := by simpa using hc
    refine stoN_we (ds := rcC rc0') g1 rfl (Nat.le_refl 4) rfl (rowK_w (get_put _ _ _) (ldG_we (ys := rcC rc0') (Nat.le_refl 4) (by decide) rfl ?_))
    have := hk (H1.put g (.row (rcC rc0'))) (hL1.put n1 _)
    rw [hc] at this
    exact this
  · have hc : isC c = true := by simpa using hc
    have hb : 0 ≤ c ∧ c < 16 := by unfold isC at hc; simpa using hc
    obtain ⟨b0, b1, b2, b3⟩ := cellX_b hb.1 hb.2
    refine hp _ _ _ hb.1 hb.2 fun H2 h2 => ?_
    rw [tup2_]
    refine arI_w (arI_w ?_)
    simp only [iMul_, iAdd_, Int.ofNat_eq_natCast, Int.cast_ofNat_Int]
    refine w64_w (by omega) (by omega) (w64_w (by omega) (by omega) (w64_w (by omega) (by omega) (w64_w (by omega) (by omega) (w64_w (by omega) (by omega) (w64_w (by omega) (by omega) ?_)))))
    refine stoN_we (ds := rcC (cellR c)) ((h2.get _ h1).trans g1) rfl (Nat.le_refl 4) rfl (rowK_w (get_put _ _ _) (ldG_we (ys := rcC (cellR c)) (Nat.le_refl 4) (by decide) rfl ?_))
    have := hk (H2.put g (.row (rcC (cellR c)))) ((hL1.trans h2).put n1 _)
    rw [hc] at this
    exact this
end Go.Proofs
