/- QuadFull: as many as there may be, and one more; behind a drop there is room. -/
import Derived.Test.YtplfaoobmdgiaaaDC
import Derived.Test.YtplfaoobmdgiaaaBQ
namespace Go.Proofs
open Go Go.Vw Go.Vw.Ev
set_option linter.unusedVariables false
set_option linter.unusedSimpArgs false

def CTrue (f : Nat) (cl : Cl) : Prop := ∀ H K, cl f [] H K = K (.s (.bool true)) H
theorem TR.on {H : AH} {g : Pn} {L : List (Int × Pt)} {O : Pn → Prop} (h : TR H g L O) : ∀ k ∈ aKeys L, On (posOf L k) = true := by
  obtain ⟨m, q, t, _⟩ := h
  exact fun k hk => on_sq.2 (t.inv.mem k (t.perm.mem_iff.2 hk))
theorem TR.nod {H : AH} {g : Pn} {L : List (Int × Pt)} {O : Pn → Prop} (h : TR H g L O) : (aKeys L).Nodup := by
  obtain ⟨m, q, t, _⟩ := h
  exact t.nodL
theorem rin_whole (p : Pt) : RIn ⟨0, 0, 64, 64⟩ p = On p := rfl
theorem inL_whole {H : AH} {g : Pn} {L : List (Int × Pt)} {O : Pn → Prop} (h : TR H g L O) : (inL L ⟨0, 0, 64, 64⟩).length = L.length := by
  unfold inL inSel
  rw [srtI_len, List.filter_eq_self.2 fun k hk => by rw [rin_whole]; exact h.on k hk]
  simp [aKeys]
theorem len_set_new {L : List (Int × Pt)} {id : Int} {p : Pt} (h : id ∉ aKeys L) : (aSet L id p).length = L.length + 1 := by
  have := congrArg List.length (aKeys_set_new L p h)
  simpa [aKeys] using this
theorem len_del {H : AH} {g : Pn} {L : List (Int × Pt)} {O : Pn → Prop} {id : Int} (h : TR H g L O) (hid : id ∈ aKeys L) : (aDel L id).length + 1 = L.length := by
  have h1 := perm_len (filter_perm h.nod hid)
  have h2 := congrArg List.length (aKeys_del L id)
  have e : (aKeys L).filter (fun x => !(x == id)) = (aKeys L).filter (fun j => decide (j ≠ id)) := by
    congr 1
    funext x
    by_cases h : x = id <;> simp [h]
  rw [e] at h1
  rw [← h2] at h1
  simp only [aKeys, List.length_map] at h1
  omega
theorem keys_del {L : List (Int × Pt)} {id k : Int} (h : k ∈ aKeys (aDel L id)) : k ≠ id ∧ k ∈ aKeys L := by
  rw [aKeys_del] at h
  have := List.mem_filter.1 h
  exact ⟨by simpa using this.2, this.1⟩
theorem putE_ok {L : List (Int × Pt)} {id : Int} {p : Pt} (h0 : 0 ≤ id) (hp : On p = true) (hk : id ∉ aKeys L) (hl : L.length < 200) : putE L id p = 0 := by
  unfold putE
  rw [if_neg (by omega), if_neg (by simp [hp]), if_neg (by rw [aGet_none.2 hk]; simp), if_neg (by omega)]
theorem putE_full {L : List (Int × Pt)} {id : Int} {p : Pt} (h0 : 0 ≤ id) (hp : On p = true) (hk : id ∉ aKeys L) (hl : 200 ≤ L.length) : putE L id p = 16 := by
  unfold putE
  rw [if_neg (by omega), if_neg (by simp [hp]), if_neg (by rw [aGet_none.2 hk]; simp), if_pos hl]
theorem tmod64 {n : Int} (h : 0 ≤ n) : 0 ≤ Int.tmod n 64 ∧ Int.tmod n 64 < 64 := by
  rw [Int.tmod_eq_emod_of_nonneg h]; omega
theorem B_law8_QuadFull_ {lf : Nat} {cl : Cl} (hlf : 1000 ≤ lf) (hkn : CTrue i_law8_known cl) (hnew : CNewQ cl) (hput : CPut cl) (hdrop : CDrop cl) (hlen : CLen cl) (hin : CInT cl) {n s : Int} (hn : 0 ≤ n ∧ n ≤ 255) (hs : 0 ≤ s ∧ s ≤ 65535) {H : AH} :
    B_law8_QuadFull lf cl n s H isT = true := by
  unfold B_law8_QuadFull
  rw [hkn]
  refine arB_w ?_
  rw [fB_eq]
  refine ifA_w (fun hx => absurd hx (by decide)) (fun _ => ?_)
  refine hnew _ _ fun H1 g O hL1 tr1 hz1 => ?_
  rw [asP_]
  refine loopX_w (fun x H2 => x.1 = n ∧ x.2.1 = s ∧ x.2.2.1 = .at g 0 ∧ ∃ i : Nat, x.2.2.2 = (i : Int) ∧ i ≤ 200 ∧ ∃ L O, TR H2 g L O ∧ L.length = i ∧ ∀ k, k ∈ aKeys L ↔ 0 ≤ k ∧ k < i) (fun x => 200 - x.2.2.2.toNat)
    ⟨rfl, rfl, rfl, 0, rfl, by omega, [], O, tr1, rfl, fun k => ⟨fun h => (by cases h), fun h => (by omega)⟩⟩ (by simp; omega) ?_
  clear tr1 hL1 hz1 O
  rintro self ⟨a, b, c, r⟩ H2 ⟨e1, e2, e3, i, e4, hi, L, O, tr, hlL, hkeys⟩ ih
  simp only at e1 e2 e3 e4
  subst e1 e2 e3 e4
  simp only [pR_, fB_eq, iLt_dec, iMul_, iAdd_, Int.ofNat_eq_natCast, Int.cast_ofNat_Int]
  refine ifA_w (fun hx => ?_) (fun hx => ?_)
  · have hx : i < 200 := by have := of_decide_eq_true hx; omega
    have d1 : Int.tdiv b 64 = b / 64 := Int.tdiv_eq_ediv_of_nonneg hs.1
    refine w64_w (by omega) (by omega) (w64_w (by omega) (by omega) (w64_w (by omega) (by omega) ?_))
    rw [fI_eq]
    refine w64_w (by omega) (by omega) ?_
    rw [wrapK_eq, d1]
    have hw : IntKind.wrap .u16 (b / 64) = b / 64 := by
      simp [IntKind.wrap, IntKind.bits, IntKind.signed]; omega
    rw [hw]
    refine w64_w (by omega) (by omega) (w64_w (by omega) (by omega) ?_)
    rw [fI_eq]
    have t1 := tmod64 (n := (i : Int) * 7 + b) (by omega)
    have t2 := tmod64 (n := (i : Int) * 13 + b / 64) (by omega)
    generalize Int.tmod ((i : Int) * 7 + b) 64 = px at *
    generalize Int.tmod ((i : Int) * 13 + b / 64) 64 = py at *
    have hon : On ⟨px, py⟩ = true := by unfold On; simp; omega
    have hid : (i : Int) ∉ aKeys L := fun h => by have := (hkeys _).1 h; omega
    have he := putE_ok (by omega : (0 : Int) ≤ i) hon hid (by omega)
    refine hput H2 g L O i ⟨px, py⟩ _ tr (by omega) fun H3 O3 f3 t3 o3 => ?_
    rw [he]
    refine arI_w ?_
    rw [iEq_beq]
    refine ifA_w (fun hx => absurd hx (by decide)) (fun _ => w64_w (by omega) (by omega) (ih _ _ ⟨rfl, rfl, rfl, i + 1, by simp, by omega, _, O3, t3, ?_, fun k => ?_⟩ (by simp; omega)))
    · unfold putL; rw [if_pos he, len_set_new hid, hlL]
    · unfold putL; rw [if_pos he, aKeys_set_new L _ hid, List.mem_append, hkeys]
      simp only [List.mem_singleton]
      omega
  · have hx : i = 200 := by have := of_decide_eq_false hx; omega
    subst hx
    have hon : On ⟨0, 0⟩ = true := rfl
    have hid : (1000 : Int) ∉ aKeys L := fun h => by have := (hkeys _).1 h; omega
    have he := putE_full (by omega : (0 : Int) ≤ 1000) hon hid (by omega)
    refine hput H2 g L O 1000 ⟨0, 0⟩ _ tr (by omega) fun H3 O3 f3 t3 o3 => ?_
    rw [he]
    have el : putL L 1000 ⟨0, 0⟩ = L := by unfold putL; rw [he]; rfl
    rw [el] at t3
    refine arI_w (w64_w (by omega) (by omega) ?_)
    rw [fI_eq]
    have hm : 0 ≤ Int.tmod a 200 ∧ Int.tmod a 200 < 200 := by rw [Int.tmod_eq_emod_of_nonneg hn.1]; omega
    generalize Int.tmod a 200 = dd at *
    have hdk : dd ∈ aKeys L := (hkeys dd).2 (by omega)
    refine hdrop H3 g L O3 dd _ t3 fun H4 O4 f4 t4 o4 => ?_
    have hsome : (aGet L dd).isSome = true := by
      cases h : aGet L dd with
      | none => exact absurd hdk (aGet_none.1 h)
      | some v => rfl
    rw [if_pos hsome]
    have hl4 := len_del t3 hdk
    have hid4 : (1000 : Int) ∉ aKeys (aDel L dd) := fun h => hid (keys_del h).2
    have he4 := putE_ok (by omega : (0 : Int) ≤ 1000) hon hid4 (by omega)
    refine arI_w (hput H4 g (aDel L dd) O4 1000 ⟨0, 0⟩ _ t4 (by omega) fun H5 O5 f5 t5 o5 => ?_)
    rw [he4]
    have el5 : putL (aDel L dd) 1000 ⟨0, 0⟩ = aSet (aDel L dd) 1000 ⟨0, 0⟩ := by unfold putL; rw [if_pos he4]
    rw [el5] at t5
    have hl5 : (aSet (aDel L dd) 1000 ⟨0, 0⟩).length = 200 := by rw [len_set_new hid4]; omega
    refine arI_w ?_
    refine ifA_w (fun _ => ?_) (fun hx => absurd hx (by decide))
    refine ifA_w (fun _ => ?_) (fun hx => absurd hx (by decide))
    refine ifA_w (fun _ => ?_) (fun hx => absurd hx (by decide))
    refine hlen H5 g _ O5 _ t5 (arI_w ?_)
    rw [hl5]
    refine ifA_w (fun _ => ?_) (fun hx => absurd hx (by decide))
    refine hin H5 g _ O5 ⟨0, 0, 64, 64⟩ _ t5 fun H6 p c z hL6 is6 cap6 hf6 => ?_
    rw [asSl_, inL_whole t5, hl5]
    rfl
end Go.Proofs
