import Derived.Test.YtbjciplcaekjpaaBOwn
import Derived.Test.YtbjciplcaekjpaaVwDed
namespace Go.Proofs
open Go Go.Vw Go.Vw.Ev
set_option linter.unusedVariables false
/-- Owners as cells. -/
def fl : List (Int × Int) → List AS
  | [] => []
  | x :: r => .int .i64 x.1 :: .int .i64 x.2 :: fl r
theorem fl_length : ∀ l, (fl l).length = 2 * l.length
  | [] => rfl
  | x :: r => by simp [fl, fl_length r]; omega
theorem fl_drop : ∀ (c : Nat) (l : List (Int × Int)), (fl l).drop (2 * c) = fl (l.drop c)
  | 0, l => rfl
  | c + 1, [] => by simp [fl]
  | c + 1, x :: r => by
    rw [show 2 * (c + 1) = 2 * c + 2 by omega]
    exact fl_drop c r
theorem fl_take : ∀ (c : Nat) (l : List (Int × Int)), (fl l).take (2 * c) = fl (l.take c)
  | 0, l => by simp [fl]
  | c + 1, [] => by simp [fl]
  | c + 1, x :: r => by
    rw [show 2 * (c + 1) = 2 * c + 2 by omega]
    show .int .i64 x.1 :: .int .i64 x.2 :: (fl r).take (2 * c) = _
    rw [fl_take c r]; rfl
theorem fl_append : ∀ l m, fl (l ++ m) = fl l ++ fl m
  | [], m => rfl
  | x :: r, m => by simp [fl, fl_append r m]
theorem fl_at {l : List (Int × Int)} {c : Nat} (h : c < l.length) : ((fl l).drop (2 * c)).take 2 = [.int .i64 (l[c]).1, .int .i64 (l[c]).2] := by
  rw [fl_drop, List.drop_eq_getElem_cons h]
  rfl
theorem fl_get0 {l : List (Int × Int)} {c : Nat} (h : c < l.length) : (fl l)[2 * c]? = some (.int .i64 (l[c]).1) := by
  have := congrArg (·[0]?) (fl_at h)
  simpa using this
theorem fl_get1 {l : List (Int × Int)} {c : Nat} (h : c < l.length) : (fl l)[2 * c + 1]? = some (.int .i64 (l[c]).2) := by
  have := congrArg (·[1]?) (fl_at h)
  simpa using this
theorem fl_set {l : List (Int × Int)} {c : Nat} (h : c < l.length) (s e : Int) : (fl l).take (2 * c) ++ ([.int .i64 s, .int .i64 e] ++ (fl l).drop (2 * c + 2)) = fl (l.set c (s, e)) := by
  rw [fl_take, show 2 * c + 2 = 2 * (c + 1) by omega, fl_drop, List.set_eq_take_append_cons_drop, if_pos h, fl_append]
  rfl
def enc (n : Int) (l : List (Int × Int)) : List AS := .int .i64 n :: fl l
theorem enc_length (n l) : (enc n l).length = 1 + 2 * l.length := by simp [enc, fl_length]; omega
def Obj (H : AH) (g : Pn) (n : Int) (l : List (Int × Int)) : Prop := H.get g = some (.row (enc n l)) ∧ H.has g
theorem Obj.le {H H' : AH} {g n l} (h : Obj H g n l) (k : Le H H') : Obj H' g n l := ⟨(k.get g h.2).trans h.1, k.has g h.2⟩
theorem enc_get0 {n l} {c : Nat} (h : c < l.length) : (enc n l)[1 + 2 * c]? = some (.int .i64 (l[c]).1) := by
  rw [Nat.add_comm]; exact fl_get0 h
theorem enc_get1 {n l} {c : Nat} (h : c < l.length) : (enc n l)[1 + 2 * c + 1]? = some (.int .i64 (l[c]).2) := by
  rw [show 1 + 2 * c + 1 = (2 * c + 1) + 1 by omega]; exact fl_get1 h
theorem enc_set {n l} {c : Nat} (h : c < l.length) (s e : Int) : (enc n l).take (1 + 2 * c) ++ ([.int .i64 s, .int .i64 e] ++ (enc n l).drop (1 + 2 * c + 2)) = enc n (l.set c (s, e)) := by
  rw [Nat.add_comm 1, show 2 * c + 1 + 2 = (2 * c + 2) + 1 by omega]
  show .int .i64 n :: ((fl l).take (2 * c) ++ ([.int .i64 s, .int .i64 e] ++ (fl l).drop (2 * c + 2))) = _
  rw [fl_set h]; rfl

def isC (c : Int) : Bool := decide (0 ≤ c) && decide (c < 16)
theorem B30_ (lf cl c H K) : B30 lf cl c H K = K (.s (.bool (isC c))) H := by
  unfold B30 isC
  rw [iLe_dec, iLt_dec, fB_eq]
  by_cases h : 0 ≤ c <;> simp [h, ifA, Int.ofNat_eq_natCast]
theorem B31_ (lf cl c H K) : B31 lf cl c H K = K (.s (.bool (isC c))) H := by
  unfold B31 isC
  rw [iLe_dec, iLt_dec, fB_eq]
  by_cases h : 0 ≤ c <;> simp [h, ifA, Int.ofNat_eq_natCast]
def C30 (cl : Cl) : Prop := ∀ c H K, cl 30 [.s (.int .i64 c)] H K = K (.s (.bool (isC c))) H
def C31 (cl : Cl) : Prop := ∀ c H K, cl 31 [.s (.int .i64 c)] H K = K (.s (.bool (isC c))) H

theorem B28_ {lf cl H g n l K} (h : Obj H g n l) : B28 lf cl (.at g 0) H K = K (.s (.int .i64 n)) H := by
  unfold B28
  rw [nilK_at, fN_eq, rowK_row h.1]
  exact ldI_ rfl _

def own (l : List (Int × Int)) (c : Int) : Int × Int := if isC c then l.getD c.toNat (0, 0) else (0, 0)
theorem isC_iff {c : Int} : isC c = true ↔ 0 ≤ c ∧ c < 16 := by simp [isC]
theorem own_t {l : List (Int × Int)} {c : Int} (hc : isC c = true) (h : c.toNat < l.length) : own l c = l[c.toNat] := by simp [own, hc, List.getD, h]
theorem own_f {l : List (Int × Int)} {c : Int} (hc : isC c = false) : own l c = (0, 0) := by simp [own, hc]
theorem B29_ {lf cl H g n l c K} (h30 : C30 cl) (h : Obj H g n l) (hl : l.length = 16)
    (hk : ∀ H', Le H H' → K (.tup [.agg [.int .i64 (own l c).1, .int .i64 (own l c).2], .s (.bool (isC c))]) H' = true) : B29 lf cl (.at g 0) c H K = true := by
  unfold B29
  refine newK_w ?_
  rw [h30]
  refine arB_w ?_
  have h1 := get_new H (.row [AS.int .i64 (Int.ofNat 0), AS.int .i64 (Int.ofNat 0)])
  have hle := Le.new H (.row [AS.int .i64 (Int.ofNat 0), AS.int .i64 (Int.ofNat 0)])
  refine ifA_w (fun hc => ?_) (fun hc => ?_)
  · have hc : isC c = false := by simpa using hc
    rw [own_f hc, hc] at hk
    exact stoN_w h1 rfl (by decide) (rowK_w (get_put _ _ _) (ldG_w (by decide) (by decide) (hk _ (hle.put (not_has_nx H) _))))
  · have hc : isC c = true := by simpa using hc
    obtain ⟨ha, hb⟩ := isC_iff.1 hc
    have hlt : c.toNat < l.length := by omega
    rw [own_t hc hlt, hc] at hk
    refine nilK_w (fN_w (idxK_w ha hb (fN_w (rowK_w (h.le hle).1 ?_))))
    simp only [Nat.add_eq, Nat.mul_eq, Nat.zero_add]
    rw [Nat.mul_comm]
    refine ldG_we (ys := [.int .i64 (l[c.toNat]).1, .int .i64 (l[c.toNat]).2]) (by rw [enc_length]; omega) (by decide) (by rw [Nat.add_comm 1]; exact fl_at hlt) ?_
    exact stoN_w h1 rfl (by simp) (rowK_w (get_put _ _ _) (ldG_w (by simp) (by decide) (hk _ (hle.put (not_has_nx H) _))))
def C29 (cl : Cl) : Prop := ∀ H g n l c K, Obj H g n l → l.length = 16 → (∀ H', Le H H' → K (.tup [.agg [.int .i64 (own l c).1, .int .i64 (own l c).2], .s (.bool (isC c))]) H' = true) →
  cl 29 [.s (.ptr (.at g 0)), .s (.int .i64 c)] H K = true

def SlAt (g : Pn) (n z : Nat) : AV := .s (.slice (.at g 0) n (.lit n) z)
theorem B27_ {lf cl H g n l K} (h : Obj H g n l) (hl : l.length = 16)
    (hk : ∀ H' g', Le H H' → ¬ H.has g' → H'.has g' → H'.get g' = some (.row (fl l)) → K (SlAt g' 16 2) H' = true) : B27 lf cl (.at g 0) H K = true := by
  unfold B27
  have hfl := fl_length l
  refine nilK_w (fN_w (rowK_w h.1 (ldG_we (ys := fl l) (by rw [enc_length]; simp only [Nat.add_eq]; omega) (by decide) ?_ (newK_w ?_))))
  · show ((enc n l).drop 1).take 32 = fl l
    exact List.take_of_length_le (by rw [show (enc n l).drop 1 = fl l from rfl]; omega)
  refine stoN_we (ds := fl l) (get_new _ _) (by omega) (by simp) ?_ ?_
  · simp
  refine rowK_w (get_put _ _ _) (okK_w ?_ ?_)
  · rw [ln_eq]; exact Nat.ble_eq_true_of_le (by omega)
  exact hk _ _ ((Le.new _ _).put (not_has_nx H) _) (not_has_nx H) (has_put (has_new_self _ _)) (get_put _ _ _)
def C27 (cl : Cl) : Prop := ∀ H g n l K, Obj H g n l → l.length = 16 → (∀ H' g', Le H H' → ¬ H.has g' → H'.has g' → H'.get g' = some (.row (fl l)) → K (SlAt g' 16 2) H' = true) →
  cl 27 [.s (.ptr (.at g 0))] H K = true
def C28 (cl : Cl) : Prop := ∀ H g n l K, Obj H g n l → cl 28 [.s (.ptr (.at g 0))] H K = K (.s (.int .i64 n)) H

theorem B19_ {lf cl H g n l K} (h : Obj H g n l) (hl : l.length = 16)
    (hk : ∀ H' g', Le H H' → ¬ H.has g' → Obj H' g' n l → K (.s (.ptr (.at g' 0))) H' = true) : B19 lf cl (.at g 0) H K = true := by
  unfold B19
  have hfl := enc_length n l
  refine nilK_w (rowK_w h.1 (ldG_we (ys := enc n l) (by omega) (by decide) ?_ (newK_w ?_)))
  · rw [List.drop_zero]; exact List.take_of_length_le (by omega)
  refine stoN_we (ds := enc n l) (get_new _ _) (by omega) (by simp) (by simp) ?_
  exact hk _ _ ((Le.new _ _).put (not_has_nx H) _) (not_has_nx H) ⟨get_put _ _ _, has_put (has_new_self _ _)⟩
def C19 (cl : Cl) : Prop := ∀ H g n l K, Obj H g n l → l.length = 16 → (∀ H' g', Le H H' → ¬ H.has g' → Obj H' g' n l → K (.s (.ptr (.at g' 0))) H' = true) → cl 19 [.s (.ptr (.at g 0))] H K = true

def handE (n : Int) (l : List (Int × Int)) (c f t : Int) : Int :=
  if isC c = false then 11 else if t < 0 ∨ n ≤ t then 19 else if (own l c).1 ≠ f then 17 else if t = f then 19 else 0
def handL (l : List (Int × Int)) (c t : Int) : List (Int × Int) := l.set c.toNat (t, (own l c).2 + 1)
noncomputable def handH (H : AH) (g : Pn) (n : Int) (l : List (Int × Int)) (c f t : Int) : AH := if handE n l c f t = 0 then H.put g (.row (enc n (handL l c t))) else H
def Small (l : List (Int × Int)) : Prop := ∀ x ∈ l, 0 ≤ x.2 ∧ x.2 ≤ 4611686018427387904
theorem hand_core {H g n l c f t} {K : AV → AH → Bool} (h : Obj H g n l) (hl : l.length = 16) (hs : Small l) (hk : K (.s (.int .i64 (handE n l c f t))) (handH H g n l c f t) = true) :
    (isC c = false → K (.s (.int .i64 11)) H = true) ∧ (isC c = true → (t < 0 ∨ n ≤ t → K (.s (.int .i64 19)) H = true) ∧ (0 ≤ t → t < n → ((own l c).1 ≠ f → K (.s (.int .i64 17)) H = true) ∧
      ((own l c).1 = f → (t = f → K (.s (.int .i64 19)) H = true) ∧ (t ≠ f → K (.s (.int .i64 0)) (H.put g (.row (enc n (handL l c t)))) = true)))) := by
  refine ⟨fun h1 => ?_, fun h1 => ⟨fun h2 => ?_, fun h2 h3 => ⟨fun h4 => ?_, fun h4 => ⟨fun h5 => ?_, fun h5 => ?_⟩⟩⟩⟩
  · have e : handE n l c f t = 11 := by simp [handE, h1]
    simp only [handH, e] at hk; exact hk
  · have e : handE n l c f t = 19 := by simp [handE, h1, h2]
    simp only [handH, e] at hk; exact hk
  · have e : handE n l c f t = 17 := by simp only [handE, h1]; simp; omega
    simp only [handH, e] at hk; exact hk
  · have e : handE n l c f t = 19 := by simp only [handE, h1, h4, h5]; simp
    simp only [handH, e] at hk; exact hk
  · have e : handE n l c f t = 0 := by simp only [handE, h1, h4, h5]; simp; omega
    simp only [handH, e] at hk; exact hk
theorem hand_cells {n l c} (hc : isC c = true) (hl : l.length = 16) : (enc n l)[1 + c.toNat * 2 + 0]? = some (.int .i64 (own l c).1) ∧ (enc n l)[1 + c.toNat * 2 + 1]? = some (.int .i64 (own l c).2) ∧ own l c ∈ l := by
  obtain ⟨ha, hb⟩ := isC_iff.1 hc
  have hlt : c.toNat < l.length := by omega
  rw [own_t hc hlt, Nat.mul_comm]
  exact ⟨enc_get0 hlt, enc_get1 hlt, List.getElem_mem hlt⟩
theorem B20_ {lf cl H g n l c f t K} (h30 : C30 cl) (h : Obj H g n l) (hl : l.length = 16) (hs : Small l) (hk : K (.s (.int .i64 (handE n l c f t))) (handH H g n l c f t) = true) : B20 lf cl (.at g 0) c f t H K = true := by
  obtain ⟨k1, k2⟩ := hand_core h hl hs hk
  unfold B20
  rw [h30]
  refine arB_w (ifA_w (fun hc => k1 (by simpa using hc)) (fun hc => ?_))
  have hc : isC c = true := by simpa using hc
  obtain ⟨ha, hb⟩ := isC_iff.1 hc
  obtain ⟨e1, e2, e3⟩ := hand_cells (n := n) hc hl
  obtain ⟨k2, k3⟩ := k2 hc
  rw [joinX_]
  have J : ∀ b : Bool, (b = true → t < 0 ∨ n ≤ t) → (b = false → 0 ≤ t ∧ t < n) → (fun (x12 : AP × Int × Int × Int × Bool) (h13 : AH) => pR x12 fun p15 r16 => pR r16 fun n17 r18 => pR r18 fun n19 r20 => pR r20 fun n21 r22 => ifA r22 (K (AV.s (AS.int .i64 (Int.ofNat 19))) h13) (nilK p15 fun g24 o25 => fN (Nat.add o25 1) fun o26 => idxK n17 16 fun m27 => fN (Nat.add o26 (Nat.mul m27 2)) fun o28 => fN (Nat.add o28 0) fun o29 => rowK h13 g24 fun cs30 => ldI cs30 o29 .i64 fun n31 => ifA (!iEq n31 n19) (K (AV.s (AS.int .i64 (Int.ofNat 17))) h13) (ifA (iEq n21 n19) (K (AV.s (AS.int .i64 (Int.ofNat 19))) h13) (nilK p15 fun g34 o35 => fN (Nat.add o35 1) fun o36 => idxK n17 16 fun m37 => fN (Nat.add o36 (Nat.mul m37 2)) fun o38 => fN (Nat.add o38 1) fun o39 => rowK h13 g34 fun cs40 => ldI cs40 o39 .i64 fun n41 => w64 (iAdd n41 (Int.ofNat 1)) fun n42 => nilK p15 fun g43 o44 => fN (Nat.add o44 1) fun o45 => idxK n17 16 fun m46 => fN (Nat.add o45 (Nat.mul m46 2)) fun o47 => stoN h13 g43 o47 2 [AS.int .i64 n21, AS.int .i64 n42] fun h48 => K (AV.s (AS.int .i64 (Int.ofNat 0))) h48)))) (.at g 0, c, f, t, b) H = true := by
    intro b hbt hbf
    refine ifA_w (fun e => k2 (hbt e)) (fun e => ?_)
    obtain ⟨h1, h2⟩ := hbf e
    obtain ⟨k4, k5⟩ := k3 h1 h2
    refine nilK_w (fN_w (idxK_w ha hb (fN_w (fN_w (rowK_w h.1 (ldI_w (n := (own l c).1) ?_ ?_))))))
    · simpa using e1
    rw [iEq_beq]
    refine ifA_w (fun e => k4 (by simpa using e)) (fun e => ?_)
    have e : (own l c).1 = f := by simpa using e
    obtain ⟨k6, k7⟩ := k5 e
    rw [iEq_beq]
    refine ifA_w (fun e => k6 (by simpa using e)) (fun e => ?_)
    have k7 := k7 (by simpa using e)
    have hsm := hs _ e3
    refine nilK_w (fN_w (idxK_w ha hb (fN_w (fN_w (rowK_w h.1 (ldI_w (n := (own l c).2) ?_ ?_))))))
    · simpa using e2
    rw [iAdd_]
    refine w64_w (by simp only [Int.ofNat_eq_natCast]; omega) (by simp only [Int.ofNat_eq_natCast]; omega) (nilK_w (fN_w (idxK_w ha hb (fN_w ?_))))
    refine stoN_we (ds := enc n (handL l c t)) h.1 rfl (by rw [enc_length]; simp only [Nat.add_eq, Nat.mul_eq]; omega) ?_ k7
    simp only [Nat.add_eq, Nat.mul_eq, Nat.zero_add, handL]
    rw [Nat.mul_comm]
    exact enc_set (by omega) _ _
  refine ifA_w (fun e => J true (fun _ => .inl ?_) (fun e => by cases e)) (fun e => nilK_w (fN_w (rowK_w h.1 (ldI_w (n := n) rfl (fB_w (J _ (fun e2 => .inr ?_) (fun e2 => ?_)))))))
  · rw [iLt_dec] at e; simpa using e
  · rw [iLe_dec] at e2; simpa using e2
  · rw [iLe_dec] at e2; rw [iLt_dec] at e
    simp only [decide_eq_false_iff_not, Int.ofNat_eq_natCast] at e e2
    omega

theorem B21_B20 (lf : Nat) (cl : Cl) (m : AP) (c f t : Int) (H : AH) (K : AV → AH → Bool) : B21 lf cl m c f t H K = B20 lf (fun k => cl (k + 1)) m c f t H K := by kernel_rfl
theorem B21_ {lf cl H g n l c f t K} (h31 : C31 cl) (h : Obj H g n l) (hl : l.length = 16) (hs : Small l) (hk : K (.s (.int .i64 (handE n l c f t))) (handH H g n l c f t) = true) : B21 lf cl (.at g 0) c f t H K = true := by
  rw [B21_B20]
  exact B20_ (cl := fun k => cl (k + 1)) (fun c H K => h31 c H K) h hl hs hk
def C20 (cl : Cl) : Prop := ∀ H g n l c f t K, Obj H g n l → l.length = 16 → Small l → K (.s (.int .i64 (handE n l c f t))) (handH H g n l c f t) = true → cl 20 [.s (.ptr (.at g 0)), .s (.int .i64 c), .s (.int .i64 f), .s (.int .i64 t)] H K = true
def C21 (cl : Cl) : Prop := ∀ H g n l c f t K, Obj H g n l → l.length = 16 → Small l → K (.s (.int .i64 (handE n l c f t))) (handH H g n l c f t) = true → cl 21 [.s (.ptr (.at g 0)), .s (.int .i64 c), .s (.int .i64 f), .s (.int .i64 t)] H K = true

/-! New. -/
def initL (k : Int) (i : Nat) : List (Int × Int) := (List.range 16).map fun (c : Nat) => (if c < i then Int.tmod c k else 0, 0)
theorem initL_length (k i) : (initL k i).length = 16 := by simp [initL]
theorem initL_set (k : Int) {i : Nat} (hi : i < 16) : (initL k i).set i (Int.tmod i k, 0) = initL k (i + 1) := by
  apply List.ext_getElem
  · simp [initL]
  · intro j h1 h2
    simp only [List.getElem_set, initL, List.getElem_map, List.getElem_range]
    by_cases hj : i = j
    · subst hj; simp
    · rw [if_neg hj]
      by_cases h3 : j < i
      · rw [if_pos h3, if_pos (by omega)]
      · rw [if_neg h3, if_neg (by omega)]
theorem enc_set0 {n : Int} {l : List (Int × Int)} {c : Nat} (h : c < l.length) (s : Int) (he : (l[c]).2 = 0) : (enc n l).set (1 + 2 * c) (.int .i64 s) = enc n (l.set c (s, 0)) := by
  have h1 : (enc n l).set (1 + 2 * c) (.int .i64 s) = (enc n l).take (1 + 2 * c) ++ ([.int .i64 s, .int .i64 0] ++ (enc n l).drop (1 + 2 * c + 2)) := by
    rw [List.set_eq_take_append_cons_drop, if_pos (by rw [enc_length]; omega)]
    congr 1
    have hlt : 1 + 2 * c + 1 < (enc n l).length := by rw [enc_length]; omega
    rw [List.drop_eq_getElem_cons hlt]
    have := enc_get1 (n := n) h
    rw [List.getElem?_eq_getElem hlt, he] at this
    simp only [Option.some.injEq] at this
    rw [this]
    rfl
  rw [h1, enc_set h]
def kN (n : Int) : Int := max 1 (min n 4)
theorem kN_pos (n) : 1 ≤ kN n ∧ kN n ≤ 4 := by simp only [kN]; omega
theorem new_core {lf : Nat} {H : AH} {k : Int} {K : AV → AH → Bool} (hlf : 17 ≤ lf) (hk1 : 1 ≤ k ∧ k ≤ 4) (hk : ∀ H' g', Le H H' → ¬ H.has g' → Obj H' g' k (initL k 16) → K (.s (.ptr (.at g' 0))) H' = true) :
    (newK H (.row (enc k (initL k 0))) fun g3 h4 => (loopX lf (fun (self7 : (AP × Int) → AH → Bool) (x5 : AP × Int) (h6 : AH) => pR x5 fun p8 r9 => ifA (iLt r9 (Int.ofNat 16)) (nilK p8 fun g12 o13 => fN (Nat.add o13 0) fun o14 => rowK h6 g12 fun cs15 => ldI cs15 o14 .i64 fun n16 => okK (!iEq n16 (Int.ofNat 0)) (fI (Int.tmod r9 n16) fun n17 => nilK p8 fun g18 o19 => fN (Nat.add o19 1) fun o20 => idxK r9 16 fun m21 => fN (Nat.add o20 (Nat.mul m21 2)) fun o22 => fN (Nat.add o22 0) fun o23 => sto1 h6 g18 o23 (AS.int .i64 n17) fun h24 => w64 (iAdd r9 (Int.ofNat 1)) fun n25 => self7 (p8, n25) h24)) (K (AV.s (AS.ptr p8)) h6)) ((.at g3 0), (Int.ofNat 0)) h4)) = true := by
  refine newK_w ?_
  refine loopX_w (fun x H' => x.1 = .at H.nx 0 ∧ ∃ i : Nat, x.2 = (i : Int) ∧ i ≤ 16 ∧ Le H H' ∧ Obj H' H.nx k (initL k i)) (fun x => 16 - x.2.toNat) ⟨rfl, 0, rfl, by omega, Le.new _ _, get_new _ _, has_new_self _ _⟩ (by simp; omega) ?_
  rintro self ⟨p, _⟩ H1 ⟨hp, i, hi, hle, hL, ho⟩ ih
  subst hp
  simp only at hi
  subst hi
  rw [pR_, iLt_dec]
  refine ifA_w (fun e => ?_) (fun e => ?_)
  · have e : i < 16 := by simp only [decide_eq_true_eq, Int.ofNat_eq_natCast] at e; omega
    refine nilK_w (fN_w (rowK_w ho.1 (ldI_w (n := k) rfl (okK_w ?_ (fI_w (nilK_w (fN_w (idxK_w (by omega) (by omega) (fN_w (fN_w ?_))))))))))
    · rw [iEq_beq]; simp; omega
    refine sto1_w ho.1 (by rw [enc_length, initL_length]; simp only [Nat.add_eq, Nat.mul_eq]; omega) ?_
    rw [iAdd_]
    refine w64_w (by simp only [Int.ofNat_eq_natCast]; omega) (by simp only [Int.ofNat_eq_natCast]; omega) (ih _ _ ⟨rfl, i + 1, by simp, by omega, hL.put (not_has_nx H) _, ?_, has_put ho.2⟩ ?_)
    · have h1 : 0 + 1 + (i : Int).toNat * 2 + 0 = 1 + 2 * i := by omega
      have h2 := enc_set0 (n := k) (l := initL k i) (c := i) (by rw [initL_length]; exact e) (Int.tmod i k) (by simp [initL])
      rw [initL_set k e] at h2
      rw [get_put]
      simp only [Nat.add_eq, Nat.mul_eq, h1, h2]
    · simp only [Int.ofNat_eq_natCast]; omega
  · have e : i = 16 := by simp only [decide_eq_false_iff_not, Int.ofNat_eq_natCast] at e; omega
    subst e
    exact hk _ _ hL (not_has_nx H) ho
theorem B17_ {lf : Nat} {cl : Cl} {n : Int} {H : AH} {K : AV → AH → Bool} (hlf : 17 ≤ lf) (hk : ∀ H' g', Le H H' → ¬ H.has g' → Obj H' g' (kN n) (initL (kN n) 16) → K (.s (.ptr (.at g' 0))) H' = true) : B17 lf cl n H K = true := by
  unfold B17
  rw [fI_eq, fI_eq, mxA_, mnA_]
  have e : min (max n (Int.ofNat 1)) (Int.ofNat 4) = kN n := by simp only [kN, Int.ofNat_eq_natCast]; omega
  rw [e]
  exact new_core hlf (kN_pos n) hk
theorem B18_ {lf : Nat} {cl : Cl} {n : Int} {H : AH} {K : AV → AH → Bool} (hlf : 17 ≤ lf) (hk : ∀ H' g', Le H H' → ¬ H.has g' → Obj H' g' (kN n) (initL (kN n) 16) → K (.s (.ptr (.at g' 0))) H' = true) : B18 lf cl n H K = true := by
  unfold B18
  rw [fI_eq, fI_eq, mxA_, mnA_]
  have e : max (Int.ofNat 1) (min n (Int.ofNat 4)) = kN n := by simp only [kN, Int.ofNat_eq_natCast]; omega
  rw [e]
  exact new_core hlf (kN_pos n) hk
def CNew (f : Nat) (cl : Cl) : Prop := ∀ H n K, (∀ H' g', Le H H' → ¬ H.has g' → Obj H' g' (kN n) (initL (kN n) 16) → K (.s (.ptr (.at g' 0))) H' = true) → cl f [.s (.int .i64 n)] H K = true
end Go.Proofs
