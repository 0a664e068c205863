import Derived.Test.YtghmpldiccffaaaGreatDG
import Derived.Test.YtghmpldiccffaaaGreatDX
import Derived.KernelRfl
import Derived.Test.YtghmpldiccffaaaGreatBlaw18
import Derived.Test.YtghmpldiccffaaaGreatVwRead3
section
/- RegionNumbers: the walk. -/
namespace Go.Proofs
open Go Go.Vw Go.Vw.Ev
set_option linter.unusedVariables false
set_option linter.unusedSimpArgs false

theorem tx_w {c : Nat} {K : Int → Int → Bool} (hc : c < 16) (hk : K (cellX c * 16) (cellY c * 16) = true) : (w64 (BitVec.toNat (BitVec.ofInt (IntKind.bits .i64) (c : Int) &&& BitVec.ofInt (IntKind.bits .i64) (Int.ofNat 1))) fun n40 => fI (Int.fdiv (c : Int) (2 ^ (min (Int.toNat (Int.ofNat 1)) (IntKind.bits .i64)))) fun n41 => w64 (BitVec.toNat (BitVec.ofInt (IntKind.bits .i64) n41 &&& BitVec.ofInt (IntKind.bits .i64) (Int.ofNat 2))) fun n42 => w64 (BitVec.toNat (BitVec.ofInt (IntKind.bits .i64) n40 ||| BitVec.ofInt (IntKind.bits .i64) n42)) fun n43 => w64 (iMul (Int.ofNat 16) n43) fun n44 => fI (Int.fdiv (c : Int) (2 ^ (min (Int.toNat (Int.ofNat 1)) (IntKind.bits .i64)))) fun n45 => w64 (BitVec.toNat (BitVec.ofInt (IntKind.bits .i64) n45 &&& BitVec.ofInt (IntKind.bits .i64) (Int.ofNat 1))) fun n46 => fI (Int.fdiv (c : Int) (2 ^ (min (Int.toNat (Int.ofNat 2)) (IntKind.bits .i64)))) fun n47 => w64 (BitVec.toNat (BitVec.ofInt (IntKind.bits .i64) n47 &&& BitVec.ofInt (IntKind.bits .i64) (Int.ofNat 2))) fun n48 => w64 (BitVec.toNat (BitVec.ofInt (IntKind.bits .i64) n46 ||| BitVec.ofInt (IntKind.bits .i64) n48)) fun n49 => w64 (iMul (Int.ofNat 16) n49) fun n50 => K n44 n50) = true := by
  have key : ∀ c : Nat, c < 16 → (w64 (BitVec.toNat (BitVec.ofInt (IntKind.bits .i64) (c : Int) &&& BitVec.ofInt (IntKind.bits .i64) (Int.ofNat 1))) fun n40 => fI (Int.fdiv (c : Int) (2 ^ (min (Int.toNat (Int.ofNat 1)) (IntKind.bits .i64)))) fun n41 => w64 (BitVec.toNat (BitVec.ofInt (IntKind.bits .i64) n41 &&& BitVec.ofInt (IntKind.bits .i64) (Int.ofNat 2))) fun n42 => w64 (BitVec.toNat (BitVec.ofInt (IntKind.bits .i64) n40 ||| BitVec.ofInt (IntKind.bits .i64) n42)) fun n43 => w64 (iMul (Int.ofNat 16) n43) fun n44 => fI (Int.fdiv (c : Int) (2 ^ (min (Int.toNat (Int.ofNat 1)) (IntKind.bits .i64)))) fun n45 => w64 (BitVec.toNat (BitVec.ofInt (IntKind.bits .i64) n45 &&& BitVec.ofInt (IntKind.bits .i64) (Int.ofNat 1))) fun n46 => fI (Int.fdiv (c : Int) (2 ^ (min (Int.toNat (Int.ofNat 2)) (IntKind.bits .i64)))) fun n47 => w64 (BitVec.toNat (BitVec.ofInt (IntKind.bits .i64) n47 &&& BitVec.ofInt (IntKind.bits .i64) (Int.ofNat 2))) fun n48 => w64 (BitVec.toNat (BitVec.ofInt (IntKind.bits .i64) n46 ||| BitVec.ofInt (IntKind.bits .i64) n48)) fun n49 => w64 (iMul (Int.ofNat 16) n49) fun n50 => K n44 n50) = K (cellX c * 16) (cellY c * 16) := by
    intro c hc
    match c, hc with
    | 0, _ => exact rfl
    | 1, _ => exact rfl
    | 2, _ => exact rfl
    | 3, _ => exact rfl
    | 4, _ => exact rfl
    | 5, _ => exact rfl
    | 6, _ => exact rfl
    | 7, _ => exact rfl
    | 8, _ => exact rfl
    | 9, _ => exact rfl
    | 10, _ => exact rfl
    | 11, _ => exact rfl
    | 12, _ => exact rfl
    | 13, _ => exact rfl
    | 14, _ => exact rfl
    | 15, _ => exact rfl
    | c + 16, h => omega
  rw [key c hc]; exact hk
theorem at_cell : ∀ c : Nat, c < 16 → On ⟨cellX c * 16, cellY c * 16⟩ = true ∧ cellOf ⟨cellX c * 16, cellY c * 16⟩ = c
  | 0, _ => by decide
  | 1, _ => by decide
  | 2, _ => by decide
  | 3, _ => by decide
  | 4, _ => by decide
  | 5, _ => by decide
  | 6, _ => by decide
  | 7, _ => by decide
  | 8, _ => by decide
  | 9, _ => by decide
  | 10, _ => by decide
  | 11, _ => by decide
  | 12, _ => by decide
  | 13, _ => by decide
  | 14, _ => by decide
  | 15, _ => by decide
  | c + 16, h => absurd h (by omega)
/-- Rows of bools that come in. -/
def InB (H : AH) (p : AP) (n : Nat) (bs : List Bool) : Prop := bs.length = n ∧ (n ≠ 0 → ∃ g, p = .at g 0 ∧ H.has g ∧ H.get g = some (.fix (bs.map .bool)))
theorem InB.le {H H' : AH} {p : AP} {n : Nat} {bs : List Bool} (h : InB H p n bs) (k : Le H H') : InB H' p n bs :=
  ⟨h.1, fun hn => (h.2 hn).imp fun g hg => ⟨hg.1, k.has g hg.2.1, (k.get g hg.2.1).trans hg.2.2⟩⟩
/-- What stands ahead of a round. -/
structure NS (me k : Int) (p : Pt) (i live : Nat) (s : RgSt) : Prop where
  id : s.id = me
  given : s.given = i
  t0 : 0 ≤ s.took
  t1 : s.took ≤ 2 * i
  ow : s.ow = owInit k
  h1 : s.hands = []
  h2 : s.last.hands = []
  ol : s.order.length ≤ 2 * i
  len : s.th.length = live
  pt : ∀ j t, aGet s.th j = some t → t.pt = p
  lt : ∀ j ∈ aKeys s.th, j < 4 * i
  li : live ≤ i
theorem NS.sm {me k : Int} {p : Pt} {i live : Nat} {s : RgSt} (h : NS me k p i live s) (hi : i ≤ 10) : Sm s :=
  ⟨by have := h.len; have := h.li; omega, by have := h.given; omega, by have := h.given; omega, by rw [h.h1]; decide, by rw [h.h2]; decide, by have := h.ol; omega, h.t0⟩
theorem owInit_at {k : Int} {c : Nat} (hc : c < 16) : owAt (owInit k) c = (Int.tmod c k, 0) := by
  unfold owAt owInit
  rw [if_pos (isC_iff.2 ⟨by omega, by omega⟩), Int.toNat_natCast]
  simp [hc]
theorem NS.mine {me k : Int} {p : Pt} {i live : Nat} {s : RgSt} (h : NS me k p i live s) (hon : On p = true) {c : Nat} (hc : c < 16) (hp : cellOf p = c) (hm : Int.tmod c k = me) : mineB s (ofC p) = true := by
  have e : ofC p = c := by unfold ofC; rw [if_pos hon, hp]
  unfold mineB hasB handB
  rw [e, h.h1, h.h2, h.ow, owInit_at hc, h.id, hm, isC_iff.2 ⟨by omega, by omega⟩]
  simp
theorem NS.full {me k : Int} {p : Pt} {i live : Nat} {s : RgSt} (h : NS me k p i live s) (hon : On p = true) {c : Nat} (hc : c < 16) (hp : cellOf p = c) : fullT s.th p = decide (8 ≤ live) := by
  have e : ofC p = c := by unfold ofC; rw [if_pos hon, hp]
  unfold fullT cellT inT
  rw [e, if_pos (isC_iff.2 ⟨by omega, by omega⟩), srtI_len]
  have : (aKeys s.th).filter (fun j => RIn (cellR c) (thOf s.th j).pt) = aKeys s.th := List.filter_eq_self.2 fun j hj => by
    obtain ⟨t, et⟩ : ∃ t, aGet s.th j = some t := by
      cases e : aGet s.th j with
      | none => exact absurd hj (aGet_none.1 e)
      | some t => exact ⟨t, rfl⟩
    have : (thOf s.th j).pt = p := by unfold thOf; rw [et]; exact h.pt j t et
    rw [this]
    exact (cell_in (by omega) (by omega) p).2 ⟨hon, hp⟩
  rw [this, aKeys, List.length_map, h.len]
theorem NS.no {me k : Int} {p : Pt} {i live : Nat} {s : RgSt} (h : NS me k p i live s) (hm : 0 ≤ me) : 4 * (i : Int) + me ∉ aKeys s.th := fun hj => by have := h.lt _ hj; omega
theorem NS.num {me k : Int} {p : Pt} {i live : Nat} {s : RgSt} (h : NS me k p i live s) (hi : i ≤ 10) (hm : 0 ≤ me ∧ me ≤ 3) : putN s = 4 * i + me := by
  unfold putN numE
  rw [h.id, h.given]
  omega
theorem NS.putE {me k : Int} {p : Pt} {i live : Nat} {s : RgSt} (h : NS me k p i live s) (hi : i < 10) (hm : 0 ≤ me ∧ me ≤ 3) (hon : On p = true) {c : Nat} (hc : c < 16) (hp : cellOf p = c) (ho : Int.tmod c k = me) : takeE s (putC p) = if 8 ≤ live then 16 else 0 := by
  have hck : checkE s.th (putC p) = if 8 ≤ live then 16 else 0 := by
    rw [check_put hon (by have := h.len; have := h.li; omega), h.full hon hc hp]
    by_cases h8 : 8 ≤ live <;> simp [h8]
  have h1 := h.t1
  unfold takeE
  rw [if_neg (by rw [isCm_put, on_near hon]; decide), if_neg (by omega)]
  unfold doesE
  rw [if_neg (fun e => e.2 (ofE_of hon)), if_neg (fun e => by rw [show (putC p).pt = p from rfl, h.mine hon hc hp ho] at e; cases e.2), if_neg (fun e => absurd (show (1 : Int) = 2 from e.2.1) (by decide)), hck]
  by_cases h8 : 8 ≤ live
  · rw [if_pos h8, if_pos (by decide)]
  · rw [if_neg h8, if_neg (by decide), if_neg (fun e => by have := h.num (by omega) hm; have := e.2; omega)]
theorem NS.put {me k : Int} {p : Pt} {i live : Nat} {s : RgSt} (h : NS me k p i live s) (hi : i < 10) (hm : 0 ≤ me ∧ me ≤ 3) (he : takeE s (putC p) = 0) :
    takeI s (putC p) = 4 * i + me ∧ NS me k p (i + 1) (live + 1) (takeS s (putC p)) ∧ (takeS s (putC p)).took ≤ 2 * i + 1 ∧ (takeS s (putC p)).order.length ≤ 2 * i + 1 ∧ (takeS s (putC p)).th = aSet s.th (4 * i + me) (putT (putC p) (4 * i + me)) := by
  have hn := h.num (by omega) hm
  have hno := h.no hm.1
  have hd : doesE s (putC p) = 0 := by
    unfold takeE at he
    split at he
    · cases he
    · split at he
      · cases he
      · exact he
  have eI : doesI s (putC p) = 4 * i + me := by unfold doesI; rw [if_neg (fun e => e hd), if_pos (show (putC p).kind = 1 from rfl), hn]
  have eS : takeS s (putC p) = upS { s with th := aSet s.th (4 * i + me) (putT (putC p) (4 * i + me)), given := s.given + 1 } (4 * i + me) (putC p) := by
    unfold takeS
    rw [if_neg (fun e => e he), eI]
    unfold doesS
    rw [if_neg (fun e => e hd), if_pos (show (putC p).kind = 1 from rfl), hn]
  rw [eS]
  have h1 := h.t1
  have h2 := h.ol
  have hk : aKeys (aSet s.th (4 * i + me) (putT (putC p) (4 * i + me))) = aKeys s.th ++ [4 * (i : Int) + me] := aKeys_set_new _ _ hno
  refine ⟨by unfold takeI; rw [if_neg (fun e => e he), eI], ⟨h.id, ?_, ?_, ?_, h.ow, h.h1, h.h2, ?_, ?_, ?_, ?_, by have := h.li; omega⟩, ?_, ?_, rfl⟩
  · show s.given + 1 = _; have := h.given; omega
  · show 0 ≤ s.took + 1; have := h.t0; omega
  · show s.took + 1 ≤ _; omega
  · show (s.order ++ [_]).length ≤ _; rw [List.length_append, List.length_singleton]; omega
  · have := congrArg List.length hk
    simp only [aKeys, List.length_map, List.length_append, List.length_singleton] at this
    have := h.len
    show (aSet s.th (4 * i + me) (putT (putC p) (4 * i + me))).length = _
    omega
  · intro j t hj
    by_cases e : j = 4 * (i : Int) + me
    · subst e
      have hj : aGet (aSet s.th (4 * i + me) (putT (putC p) (4 * i + me))) (4 * i + me) = some t := hj
      rw [aGet_set_same] at hj
      cases hj; rfl
    · have hj : aGet (aSet s.th (4 * i + me) (putT (putC p) (4 * i + me))) j = some t := hj
      rw [aGet_set_ne _ _ e] at hj
      exact h.pt j t hj
  · intro j hj
    change j ∈ aKeys (aSet s.th (4 * i + me) (putT (putC p) (4 * i + me))) at hj
    rw [hk] at hj
    rcases List.mem_append.1 hj with hj | hj
    · have := h.lt j hj; omega
    · rw [List.mem_singleton] at hj; omega
  · show s.took + 1 ≤ _; omega
  · show (s.order ++ [_]).length ≤ _; rw [List.length_append, List.length_singleton]; omega
theorem NS.drop {me k : Int} {p : Pt} {i live : Nat} {s : RgSt} {L : List (Int × Th)} (h : NS me k p (i + 1) (live + 1) s) (hi : i < 10) (hm : 0 ≤ me ∧ me ≤ 3) (hl : live ≤ i) (ht : s.took ≤ 2 * i + 1) (ho : s.order.length ≤ 2 * i + 1)
    (hth : s.th = aSet L (4 * i + me) (putT (putC p) (4 * i + me))) (hno : 4 * (i : Int) + me ∉ aKeys L) (hlt : ∀ j ∈ aKeys L, j < 4 * i) :
    takeE s (dropC (4 * i + me)) = 0 ∧ NS me k p (i + 1) live (takeS s (dropC (4 * i + me))) := by
  have hsome : (aGet s.th (4 * i + me)).isSome = true := by rw [hth, aGet_set_same]; rfl
  have hck : checkE s.th (dropC (4 * i + me)) = 0 := by rw [check_drop (by omega) (by omega), if_pos hsome]
  have hd : doesE s (dropC (4 * i + me)) = 0 := by
    unfold doesE
    rw [if_neg (fun e => absurd (show (4 : Int) = 1 from e.1) (by decide)), if_neg (fun e => absurd (show (4 : Int) = 1 from e.1) (by decide)), if_neg (fun e => absurd (show (4 : Int) = 2 from e.2.1) (by decide)), hck, if_neg (by decide), if_neg (fun e => absurd (show (4 : Int) = 1 from e.1) (by decide))]
  have he : takeE s (dropC (4 * i + me)) = 0 := by
    unfold takeE
    rw [if_neg (by rw [isCm_drop _ (by omega) (by omega)]; decide), if_neg (by omega), hd]
  have eS : takeS s (dropC (4 * i + me)) = upS { s with th := aDel s.th (4 * i + me) } (4 * i + me) (dropC (4 * i + me)) := by
    unfold takeS
    rw [if_neg (fun e => e he)]
    have eI : doesI s (dropC (4 * i + me)) = 4 * i + me := by unfold doesI; rw [if_neg (fun e => e hd), if_neg (show ¬ (dropC (4 * i + me)).kind = 1 from fun e => absurd (show (4 : Int) = 1 from e) (by decide))]; rfl
    rw [eI]
    unfold doesS
    rw [if_neg (fun e => e hd), if_neg (show ¬ (dropC (4 * i + me)).kind = 1 from fun e => absurd (show (4 : Int) = 1 from e) (by decide))]
    rfl
  refine ⟨he, ?_⟩
  rw [eS]
  have hk : aKeys (aDel s.th (4 * i + me)) = aKeys L := by
    rw [aKeys_del, hth, aKeys_set_new _ _ hno, List.filter_append]
    have e1 : (aKeys L).filter (fun j => decide (j ≠ 4 * (i : Int) + me)) = aKeys L := List.filter_eq_self.2 fun j hj => decide_eq_true fun e => hno (e ▸ hj)
    rw [e1]; simp
  have hlen : (aDel s.th (4 * i + me)).length = L.length := by
    have := congrArg List.length hk
    simpa [aKeys] using this
  have hL : L.length = live := by
    have h1 := h.len
    have h2 := congrArg List.length (aKeys_set_new L (putT (putC p) (4 * i + me)) hno)
    simp only [aKeys, List.length_map, List.length_append, List.length_singleton] at h2
    rw [hth] at h1
    omega
  refine ⟨h.id, h.given, ?_, ?_, h.ow, h.h1, h.h2, ?_, ?_, ?_, ?_, by omega⟩
  · show 0 ≤ s.took + 1; have := h.t0; omega
  · show s.took + 1 ≤ _; omega
  · show (s.order ++ [_]).length ≤ _; rw [List.length_append, List.length_singleton]; omega
  · show (aDel s.th (4 * i + me)).length = _; omega
  · intro j t hj
    have hj : aGet (aDel s.th (4 * i + me)) j = some t := hj
    by_cases e : j = 4 * (i : Int) + me
    · subst e; rw [aGet_del_same] at hj; cases hj
    · rw [aGet_del_ne _ e] at hj; exact h.pt j t hj
  · intro j hj
    change j ∈ aKeys (aDel s.th (4 * i + me)) at hj
    rw [hk] at hj
    have := hlt j hj; omega
theorem wat_put (p : Pt) : watB (putC p) = false := rfl
theorem wat_drop (k : Int) : watB (dropC k) = false := rfl
theorem B_law18_RegionNumbers_ {lf : Nat} {cl : Cl} (hlf : 1000 ≤ lf) (hkn : ∀ H K, cl i_law18_known [] H K = K (.s (.bool true)) H) (hnew : CRgNew cl) (how : CRgOwners cl) (htake : CTakeD cl) (hth : CRgThings cl) {a b : Int} (ha : 0 ≤ a ∧ a ≤ 255) (hb : 0 ≤ b ∧ b ≤ 255)
    {H : AH} {q : AP} {m : Nat} {qc : ACap} {bs : List Bool} (hI : InB H q m bs) (hmax : m ≤ 9223372036854775807) : B_law18_RegionNumbers lf cl a b q m qc 1 H isT = true := by
  unfold B_law18_RegionNumbers
  rw [hkn]
  refine arB_w ?_
  simp only [fB_eq]
  refine ifA_w (fun h => by cases h) (fun _ => ?_)
  have hb4 : 0 ≤ Int.tmod b 4 ∧ Int.tmod b 4 < 4 := by rw [Int.tmod_eq_emod_of_nonneg hb.1]; omega
  rw [fI_eq]
  show w64 (Int.tmod b 4) _ = true
  refine w64_w (by omega) (by omega) ?_
  rw [iAdd_]
  show w64 (Int.tmod b 4 + 1) _ = true
  refine w64_w (by omega) (by omega) (w64_w (by omega) (by omega) ?_)
  generalize hk : Int.tmod b 4 + 1 = k
  have hk1 : 1 ≤ k ∧ k ≤ 4 := by omega
  refine okK_w (by rw [iEq_dec, decide_eq_false (show ¬ k = Int.ofNat 0 by simp only [Int.ofNat_eq_natCast]; omega)]; rfl) ?_
  rw [fI_eq]
  have hme : 0 ≤ Int.tmod a k ∧ Int.tmod a k < k := by
    rw [Int.tmod_eq_emod_of_nonneg ha.1]
    exact ⟨Int.emod_nonneg _ (by omega), Int.emod_lt_of_pos _ (by omega)⟩
  generalize hmed : Int.tmod a k = me at *
  have hc4 : clamp4 k = k := by unfold clamp4; omega
  refine hnew _ _ _ _ fun H1 g O h1 rg hO => ?_
  rw [asP_]
  refine how _ _ _ _ _ rg fun _ H2 bo h2 hbo nbo gbo => ?_
  rw [asSl_]
  have eow : (newS me k).ow = owInit k := by show owInit (clamp4 k) = _; rw [hc4]
  rw [eow] at gbo
  refine tmp_w rfl rfl fun gp H3 h3 hgp ngp ggp => ?_
  have h13 := h2.trans h3
  have h03 := h1.trans h13
  have gbo3 := (h3.get _ hbo).trans gbo
  have hbo3 := h3.has _ hbo
  have nsO : NS me k ⟨0, 0⟩ 0 0 (newS me k) := ⟨by show min (max me 0) (clamp4 k - 1) = me; rw [hc4]; omega, rfl, Int.le_refl _, Int.le_refl _, eow, rfl, rfl, Nat.le_refl _, rfl, fun j t h => (by cases h), fun j h => (by cases h), Nat.le_refl _⟩
  have hbg : bo ≠ gp := fun e => ngp (e ▸ hbo)
  refine loopX_w (fun x Hx => ∃ (i : Nat) (p : Pt), x = ((q, m, qc, 1), me, .at g 0, (.at bo 0, 16, .lit 16, 2), .at gp 0, (i : Int)) ∧ i ≤ 16 ∧ Fr (fun a => a = gp) H3 Hx ∧ Hx.get gp = some (.row (ptC p)) ∧ (me < i → ∃ c : Nat, c < 16 ∧ p = ⟨cellX c * 16, cellY c * 16⟩ ∧ Int.tmod c k = me)) (fun x => 16 - x.2.2.2.2.2.toNat)
    ⟨0, ⟨0, 0⟩, rfl, by omega, Fr.refl _ _, ggp, fun h => by omega⟩ (by simp; omega) ?_
  rintro self x Hx ⟨i, p, rfl, hi, fx, gpx, hcell⟩ ih
  simp only [pR_, iLt_dec]
  refine ifA_w (fun hx => ?_) (fun hx => ?_)
  · have hx : i < 16 := by have := of_decide_eq_true hx; simp only [Int.ofNat_eq_natCast] at this; omega
    have gbx := (fx.get _ hbo3 hbg).trans gbo3
    simp only [nilK_at, fN_eq, Nat.add_eq, Nat.mul_eq, Nat.zero_add, Nat.add_zero]
    refine idxK_w (by omega) (by omega) ?_
    rw [Int.toNat_natCast]
    have hil : i < (owInit k).length := by simpa [owInit] using hx
    have hcel : (hdsC (owInit k))[i * 2]? = some (.int .i64 (Int.tmod i k)) := by
      have := flat_cell (f := hdC) hdC_len (l := owInit k) (i := i) (k := 0) hil (by decide)
      rw [show i * 2 = i * 2 + 0 from rfl]
      refine this.trans ?_
      simp [owInit, hdC]
    refine rowK_w gbx (ldI_w hcel ?_)
    rw [iEq_dec]
    refine ifA_w (fun hy => ?_) (fun hy => ?_)
    · have hy := of_decide_eq_true hy
      refine tx_w hx ?_
      refine stoN_we (ds := ptC ⟨cellX i * 16, cellY i * 16⟩) gpx rfl (by simp [ptC]) rfl ?_
      rw [iAdd_]
      exact w64_w (by simp only [Int.ofNat_eq_natCast]; omega) (by simp only [Int.ofNat_eq_natCast]; omega) (ih _ _ ⟨i + 1, ⟨cellX i * 16, cellY i * 16⟩, by simp, by omega, fx.put (.inl rfl) _, get_put _ _ _, fun _ => ⟨i, hx, rfl, hy⟩⟩ (by simp; omega))
    · have hy := of_decide_eq_false hy
      rw [iAdd_]
      refine w64_w (by simp only [Int.ofNat_eq_natCast]; omega) (by simp only [Int.ofNat_eq_natCast]; omega) (ih _ _ ⟨i + 1, p, by simp, by omega, fx, gpx, fun h => ?_⟩ (by simp; omega))
      refine hcell ?_
      rcases (by omega : me < (i : Int) ∨ me = i) with h1 | h1
      · exact h1
      · refine absurd ?_ hy
        rw [← h1, Int.tmod_eq_of_lt hme.1 hme.2]
  · have hx : i = 16 := by have := of_decide_eq_false hx; simp only [Int.ofNat_eq_natCast] at this; omega
    subst hx
    obtain ⟨c, hc, hp, hmc⟩ := hcell (by omega)
    obtain ⟨hon, hcp⟩ := at_cell c hc
    rw [← hp] at hon hcp
    have ngp0 : ¬ H.has gp := fun h => ngp (h1.trans h2 |>.has _ h)
    have leH : Le H Hx := ⟨fun a ha => fx.has a (h03.has a ha), fun a ha => (fx.get a (h03.has a ha) fun e => ngp0 (e ▸ ha)).trans (h03.get a ha)⟩
    have rgx := (rg.le h13).fr fx fun a ha e => ngp (h2.has _ (rg.has _ (e ▸ ha)))
    have gpO : ¬ O gp := fun h => ngp (h2.has _ (rg.has _ h))
    have hgpx := fx.has _ hgp
    clear gbo3 hbo3 hbg hcell hp nbo hbo gbo h2 h3 h13 rg ngp hgp ggp ih self fx h03 h1
    have hme3 : 0 ≤ me ∧ me ≤ 3 := by omega
    refine loopX_w (fun x Hy => ∃ (i live : Nat) (s : RgSt) (O' : Pn → Prop), x = ((q, m, qc, 1), me, .at g 0, .at gp 0, (live : Int), (i : Int)) ∧ i ≤ 10 ∧ Le H Hy ∧ RgS Hy g s O' ∧ (∀ a, O' a → ¬ H.has a) ∧ Hy.has gp ∧ Hy.get gp = some (.row (ptC p)) ∧ ¬ O' gp ∧ NS me k p i live s) (fun x => 20 - x.2.2.2.2.2.toNat)
      ⟨0, 0, _, O, rfl, by omega, leH, rgx, hO, hgpx, gpx, gpO, ⟨nsO.id, nsO.given, nsO.t0, nsO.t1, nsO.ow, nsO.h1, nsO.h2, nsO.ol, nsO.len, fun j t h => (by cases h), nsO.lt, nsO.li⟩⟩ (by simp; omega) ?_
    clear leH rgx gpx gpO hO hgpx nsO Hx
    rintro self x Hy ⟨i, live, s, O, rfl, hi, leH, rg, hO, hgp, ggp, gpO, ns⟩ ih
    simp only [pR_, fI_eq, mnA_, iLt_dec, iMul_, iAdd_, iSub_]
    refine ifA_w (fun hx => ?_) (fun hx => ?_)
    · have hx : i < m ∧ i < 10 := by have := of_decide_eq_true hx; simp only [Int.ofNat_eq_natCast] at this; omega
      have hli := ns.li
      simp only [nilK_at, fN_eq, Nat.add_eq, Nat.mul_eq, Nat.zero_add, Nat.add_zero, Nat.mul_one]
      refine rowK_w ggp (ldG_we (ys := ptC p) (Nat.le_refl 2) (by decide) rfl ?_)
      refine okK_w rfl (fL_w ?_)
      refine htake Hy g s O (putC p) _ rg (ns.sm hi) (wat_put p) (fun e => absurd (show (1 : Int) = 5 from e) (by decide)) fun H5 O5 f5 r5 o5 => ?_
      rw [tup2_]
      refine arI_w (arI_w ?_)
      have hE := ns.putE hx.2 hme3 hon hc hcp hmc
      rw [iLe_dec]
      have le5 : Le H H5 := ⟨fun a ha => f5.has a (leH.has a ha), fun a ha => (f5.get a (leH.has a ha) fun h => hO a h ha).trans (leH.get a ha)⟩
      refine ifA_w (fun h8 => ?_) (fun h8 => ?_)
      · have h8 : 8 ≤ live := by have := of_decide_eq_true h8; simp only [Int.ofNat_eq_natCast] at this; omega
        rw [hE, if_pos h8]
        rfl
      · have h8 : ¬ 8 ≤ live := by have := of_decide_eq_false h8; simp only [Int.ofNat_eq_natCast] at this; omega
        rw [if_neg h8] at hE
        obtain ⟨eI, ns5, t5, l5, th5⟩ := ns.put hx.2 hme3 hE
        rw [hE, eI]
        refine ifA_w (fun h => by cases h) (fun _ => ?_)
        refine w64_w (by simp only [Int.ofNat_eq_natCast]; omega) (by simp only [Int.ofNat_eq_natCast]; omega) ?_
        refine w64_w (by simp only [Int.ofNat_eq_natCast]; omega) (by simp only [Int.ofNat_eq_natCast]; omega) ?_
        rw [iEq_dec, decide_eq_true (show 4 * (i : Int) + me = Int.ofNat 4 * i + me from rfl)]
        refine ifA_w (fun h => by cases h) (fun _ => ?_)
        refine w64_w (by simp only [Int.ofNat_eq_natCast]; omega) (by simp only [Int.ofNat_eq_natCast]; omega) ?_
        obtain ⟨gq, rfl, hgq, hrow⟩ := (hI.le le5).2 (by omega)
        have hbl := hI.1
        have hib : i < bs.length := by omega
        simp only [nilK_at, fN_eq, Nat.add_eq, Nat.mul_eq, Nat.zero_add, Nat.mul_one]
        refine idxK_w (by omega) (by omega) ?_
        rw [Int.toNat_natCast]
        refine rowK_wf hrow (ldB_w (b := bs[i]'hib) (by simp [hib]) ?_)
        have hO5 : ∀ a, O5 a → ¬ H.has a := fun a ha h => (o5 a ha).elim (fun h' => hO a h' h) fun h' => h' (leH.has a h)
        have gp5 := (f5.get _ hgp gpO).trans ggp
        have hgp5 := f5.has _ hgp
        have gpO5 : ¬ O5 gp := fun h => (o5 _ h).elim gpO fun h' => h' hgp
        refine ifA_w (fun hd => ?_) (fun hd => ?_)
        · obtain ⟨hE6, ns6⟩ := ns5.drop hx.2 hme3 hli t5 l5 th5 (ns.no hme.1) ns.lt
          refine htake H5 g _ O5 (dropC (4 * i + me)) _ r5 (ns5.sm (by omega)) (wat_drop _) (fun e => absurd (show (4 : Int) = 5 from e) (by decide)) fun H6 O6 f6 r6 o6 => ?_
          rw [tup2_]
          refine arI_w (arI_w ?_)
          rw [hE6]
          refine ifA_w (fun h => by cases h) (fun _ => ?_)
          refine w64_w (by simp only [Int.ofNat_eq_natCast]; omega) (by simp only [Int.ofNat_eq_natCast]; omega) (w64_w (by simp only [Int.ofNat_eq_natCast]; omega) (by simp only [Int.ofNat_eq_natCast]; omega) ?_)
          refine ih _ _ ⟨i + 1, live, _, O6, by simp, by omega, ⟨fun a ha => f6.has a (le5.has a ha), fun a ha => (f6.get a (le5.has a ha) fun h => hO5 a h ha).trans (le5.get a ha)⟩, r6, fun a ha h => (o6 a ha).elim (fun h' => hO5 a h' h) fun h' => h' (le5.has a h), f6.has _ hgp5, (f6.get _ hgp5 gpO5).trans gp5, fun h => (o6 _ h).elim gpO5 fun h' => h' hgp5, ns6⟩ (by simp; omega)
        · refine w64_w (by simp only [Int.ofNat_eq_natCast]; omega) (by simp only [Int.ofNat_eq_natCast]; omega) ?_
          exact ih _ _ ⟨i + 1, live + 1, _, O5, by simp, by omega, le5, r5, hO5, hgp5, gp5, gpO5, ns5⟩ (by simp; omega)
    · refine hth Hy g s O _ rg (by have := ns.len; have := ns.li; omega) fun H5 p5 c5 z5 h5 sl => ?_
      rw [asSl_, iEq_dec, allT_len, ns.len, Int.ofNat_eq_natCast, decide_eq_true rfl]
      rfl
end Go.Proofs
end
section
/- Rows of bools that come in. -/
namespace Go.Proofs
open Go Go.Vw Go.Vw.Ev
set_option linter.unusedVariables false
theorem sl_bool : ∀ (n : Nat) (cs : List AS), LeavesV (List.replicate n [Leaf.bool]).flatten cs → ∃ l : List Bool, cs = l.map .bool ∧ l.length = n
  | 0, [], _ => ⟨[], rfl, rfl⟩
  | 0, _ :: _, h => h.elim
  | n + 1, cs, h => by
    rw [List.replicate_succ, List.flatten_cons] at h
    obtain ⟨x, r, rfl, h0, t0⟩ := leaf_cons h
    obtain ⟨l, rfl, hl⟩ := sl_bool n r t0
    cases x <;> first | exact h0.elim | skip
    rename_i b
    exact ⟨b :: l, rfl, by simp [hl]⟩
end Go.Proofs
end
