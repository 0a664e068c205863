/- The evaluator is sound: what acts; regions; code; functions. -/
import Derived.Test.YtmdidmoffcinjaaGreatVwEvC
namespace Go.Vw.Ev
open Go Go.Vw Go.RowKit
def ClOk (P : Program) (w0 : World) (cl : Cl) : Prop :=
 ∀ f args H K φ hF h vals, cl f args H K = true → RVL φ args vals → RH φ H hF h →
  Tri P w0 f vals.toArray h (fun r h' => ∃ φ' v H', PExt φ φ' ∧ RV φ' v r ∧ RH φ' H' hF h' ∧ K v H' = true)
section
variable {φ : Phi} {P : Program} {w0 : World}
theorem RB_row {r : Rec} {cs : List AS} {c l : List Value} (hc : c = r.pre ++ l) (h2 : RSL φ cs l) (h3 : r.pre.length + l.length ≤ r.sz) : RB φ r (.row cs) (.row r.e c r.sz) := ⟨l, by rw [hc], h2, h3⟩
theorem RB_imap {r : Rec} {es : List (Int × AV)} {l : List (Int × Value)} (h : REL φ es l) : RB φ r (.imap es) (.imap l) := ⟨l, rfl, h⟩
theorem RB_pmap {r : Rec} {es : List (Int × AV)} {l : List (Int × Value)} (h : REL φ es l) : RB φ r (.pmap es) (.pmap l) := ⟨l, rfl, h⟩
theorem ofKP_ex {S : Option Kept} {st : Option Hp} {H : AH} {hF h : Hp} (hh : RH φ H hF h) (ki : KIo φ S st) {p : AP} {n z c : Nat} {a : Option Addr} (hs : RSl φ p n z c a) {K : Bool} (he : ofKP S H p K = true) :
  K = true ∧ ∀ hk, st = some hk → ∀ ad, a = some ad → hk ad.block = none := by
 unfold ofKP at he
 split at he
 ·cases st with
  | none => exact ⟨he, fun _ h => by cases h⟩
  | some hk => exact ki.elim
 ·split at he
  ·refine ⟨he, fun hk _ ad had => ?_⟩
   rw [hs.1] at had
   cases had
  ·obtain ⟨he, hof⟩ := ofKL_ex hh ki he
   refine ⟨he, fun hk hst ad had => ?_⟩
   obtain ⟨r, hx, h8, _⟩ := hs
   rw [h8] at had
   cases had
   exact hof r hx hk hst
  ·obtain ⟨he, hof⟩ := ofKL_ex hh ki he
   refine ⟨he, fun hk hst ad had => ?_⟩
   obtain ⟨_, r, o', hx, h8, _⟩ := hs
   rw [h8] at had
   cases had
   exact hof r hx hk hst
theorem updK_ex {u : AS} : ∀ {cs : List AS} {o : Nat} {K : List AS → Bool}, updK cs o u K = true → o < cs.length ∧ K (cs.set o u) = true
 | [], _, _, h => Bool.noConfusion h
 | a :: t, 0, K, h => ⟨by simp, h⟩
 | a :: t, o + 1, K, h => by
  obtain ⟨h1, h2⟩ := updK_ex (cs := t) (o := o) (K := fun t => K (a :: t)) h
  exact ⟨by simp; omega, h2⟩
theorem RSL.set {u : AS} {U : Value} (hu : RS φ u U) : ∀ (o : Nat) {cs : List AS} {l : List Value}, RSL φ cs l → RSL φ (cs.set o u) (l.set o U)
 | _, [], _, h => by simp only [RSL] at h; subst h; simp [RSL]
 | 0, x :: xs, _, h => by
  simp only [RSL] at h
  obtain ⟨v, vs, rfl, h2, h3⟩ := h
  simp only [List.set_cons_zero, RSL]
  exact ⟨U, vs, rfl, hu, h3⟩
 | o + 1, x :: xs, _, h => by
  simp only [RSL] at h
  obtain ⟨v, vs, rfl, h2, h3⟩ := h
  simp only [List.set_cons_succ, RSL]
  exact ⟨v, _, rfl, h2, RSL.set hu o h3⟩
theorem vcA_ok {v : AV} {V : Value} {cs : List AS} (h : vcA v = some cs) (hv : RV φ v V) : RSL φ cs (vcells V) := by
 cases v <;> simp only [vcA, Option.some.injEq, reduceCtorEq] at h
 ·rename_i x
  subst h
  simp only [RV] at hv
  have h1 := hv.oneCell
  have : vcells V = [V] := by cases V <;> first | rfl | (simp [Value.oneCell'] at h1)
  rw [this]
  simp only [RSL]
  exact ⟨V, [], rfl, hv, rfl⟩
 ·subst h
  simp only [RV] at hv
  obtain ⟨l, rfl, hl⟩ := hv
  exact hl
theorem flat_ok {za : List AS} {z : List Value} (h : RSL φ za z) : ∀ n, RSL φ (List.replicate n za).flatten (List.replicate n z).flatten
 | 0 => by simp [RSL]
 | n + 1 => by
  simp only [List.replicate_succ, List.flatten_cons]
  exact h.append (flat_ok h n)
theorem xEv_ex {cl : Cl} (hcl : ClOk P w0 cl) {S : Option Kept} {st : Option Hp} {H : AH} {hF h : Hp} (hh : RH φ H hF h) (ki : KIo φ S st) {ρA : AEnv} {ρ : Env} (hr : EnvR φ ρA ρ) {op : Op} {K : AV → AH → Bool}
  (he : xEv P cl S ρA op H K = true) (K' : Value → Hp → Prop) (hK' : ∀ φ' v V H' h', PExt φ φ' → RV φ' v V → RH φ' H' hF h' → K v H' = true → K' V h') : xOp P w0 st ρ op h K' := by
 have one : ∀ (t : TypeId) (cs : List AS) (l : List Value) (K1 : Pn → AH → Bool), newK H (.row cs) K1 = true → RSL φ cs l → ∀ b, h b = none →
   ∃ φ', PExt φ φ' ∧ φ' H.nx = some ⟨b, [], t, l.length, l.length, []⟩ ∧ RH φ' ⟨H.t.set H.nx (some (.row cs)), H.nx.succ⟩ hF (h.set b (.row t l l.length)) ∧ K1 H.nx ⟨H.t.set H.nx (some (.row cs)), H.nx.succ⟩ = true := by
  intro t cs l K1 hn hl b hb
  rw [newK_eq] at hn
  refine ⟨φ.put H.nx ⟨b, [], t, l.length, l.length, []⟩, hh.ext _, Phi.put_same _ _ _, ?_, hn⟩
  exact hh.new (r := ⟨b, [], t, l.length, l.length, []⟩) hb ⟨l, rfl, hl.mono (hh.ext _), by simp⟩
 unfold xEv at he
 split at he
 ·split at he
  ·rename_i z hz
   obtain ⟨zl, h1, h2⟩ := zcA_ok (φ := φ) hz
   unfold xOp
   simp only [h1]
   intro b hb
   obtain ⟨φ', hx, hn, hh', hk⟩ := one _ _ _ _ he h2 b hb
   exact hK' _ _ _ _ _ hx (by simp only [RV, RS, RP]; exact ⟨_, rfl, _, hn, rfl⟩) hh' hk
  ·exact absurd he (by decide)
 ·obtain ⟨v, he, hv⟩ := evA_ex hr he
  split at he
  ·rename_i cs hcs
   have h2 := vcA_ok hcs hv
   unfold xOp
   intro b hb
   obtain ⟨φ', hx, hn, hh', hk⟩ := one _ _ _ _ he h2 b hb
   exact hK' _ _ _ _ _ hx (by simp only [RV, RS, RP]; exact ⟨_, rfl, _, hn, rfl⟩) hh' hk
  ·exact absurd he (by decide)
 ·split at he
  ·rename_i e h1
   split at he
   ·rename_i i z za h2 h3 h4
    split at he
    ·rename_i h5
     obtain ⟨psA, he, hp⟩ := partsA_ex hr he
     obtain ⟨zl, hz1, hz2⟩ := zcA_ok (φ := φ) h4
     rw [h3] at hz1
     cases hz1
     obtain ⟨cs, l, he, hl, hs⟩ := segsA_ex hp he (flat_ok hz2 _)
     rw [fL_eq] at he
     obtain ⟨hlen, he⟩ := okK_ex he
     have hlen := Nat.eq_of_beq_eq_true hlen
     rw [ln_eq, ← hl.length] at hlen
     unfold xOp
     simp only [h1, h2, h3, h5]
     refine hs _ ?_
     intro b hb
     obtain ⟨φ', hx, hn, hh', hk⟩ := one e _ _ _ he hl b hb
     refine hK' _ _ _ _ _ hx ?_ hh' hk
     simp only [RV, RS]
     exact ⟨_, _, rfl, rfl, Nat.le_refl _, _, hn, rfl, by simp [hlen]⟩
    ·exact absurd he (by decide)
   ·exact absurd he (by decide)
  ·exact absurd he (by decide)
 ·split at he
  ·rename_i hpm
   unfold xOp
   simp only [hpm]
   intro b hb
   rw [newK_eq] at he
   refine hK' (φ.put H.nx ⟨b, [], 0, 0, 0, []⟩) _ _ _ _ (hh.ext _) ?_ (hh.new (r := ⟨b, [], 0, 0, 0, []⟩) (ab := .pmap []) hb ⟨[], rfl, by simp only [REL]⟩) he
   simp only [RV, RS]
   exact ⟨_, Phi.put_same _ _ _, rfl⟩
  ·rename_i hpm
   unfold xOp
   simp only [hpm]
   intro b hb
   rw [newK_eq] at he
   refine hK' (φ.put H.nx ⟨b, [], 0, 0, 0, []⟩) _ _ _ _ (hh.ext _) ?_ (hh.new (r := ⟨b, [], 0, 0, 0, []⟩) (ab := .imap []) hb ⟨[], rfl, by simp only [REL]⟩) he
   simp only [RV, RS]
   exact ⟨_, Phi.put_same _ _ _, rfl⟩
 ·rename_i t0 xo
  split at he
  ·rename_i dir el h1
   split at he
   ·rename_i i h2
    obtain ⟨v, he, hv⟩ := evA_ex hr he
    obtain ⟨kk, n, he, hn⟩ := asI_ex he hv
    obtain ⟨m, rfl, he⟩ := natK_ex he
    obtain ⟨hok, he⟩ := okK_ex he
    simp only [Bool.and_eq_true] at hok
    rw [newK_eq] at he
    unfold xOp
    simp only [h1, hn, h2]
    refine ⟨Nat.le_of_ble_eq_true hok.1, Nat.le_of_ble_eq_true hok.2, fun b hb => ?_⟩
    refine hK' (φ.put H.nx ⟨b, [], 0, 0, 0, []⟩) _ _ _ _ (hh.ext _) ?_ (hh.new (r := ⟨b, [], 0, 0, 0, []⟩) (ab := .chan m []) hb ⟨[], 0, 0, rfl, by simp only [RGL]⟩) he
    simp only [RV, RS]
    exact ⟨_, Phi.put_same _ _ _, rfl⟩
   ·exact absurd he (by decide)
  ·exact absurd he (by decide)
 ·rename_i t0 xo vo
  split at he
  ·rename_i i h1
   obtain ⟨x, he, hx⟩ := evA_ex hr he
   obtain ⟨v, he, hv⟩ := evA_ex hr he
   obtain ⟨p, ad, he, ha, hp⟩ := asP_ex he hx
   obtain ⟨y, o, r, rfl, he, hy, rfl⟩ := nilK_ex he hp
   obtain ⟨he, hof⟩ := ofK_ex hh ki he
   have off : H.t.get y ≠ none → (∀ c, h r.b ≠ some (.old c)) → ∀ X : Prop, X → offK st r.b X := by
    intro hgn hno X hX
    cases st with
    | none => exact hX
    | some hk => exact ⟨hof r hy hgn hno hk rfl, hX⟩
   unfold xOp
   simp only [h1, ha, nilCk]
   unfold stoV at he
   cases v with
   | s u =>
    dsimp only at he
    split at he
    ·rename_i hone
     unfold sto1 at he
     obtain ⟨cs, l, he, hg, hb, hl, hsz⟩ := rowW_ex hh hy he
     have hno : ∀ c, h r.b ≠ some (.old c) := fun c hc => by rw [hb] at hc; cases hc
     have hgn : H.t.get y ≠ none := by rw [hg]; simp
     obtain ⟨h2, he⟩ := updK_ex he
     rw [wrK_eq] at he
     rw [← hl.length] at h2
     refine off hgn hno _ ⟨r.e, r.pre ++ l, r.sz, hb, ?_⟩
     simp only [RV] at hv
     have h3 := hv.oneCell
     have hset : (r.pre ++ l).set (r.pre.length + o) (evalO ρ vo) = r.pre ++ l.set o (evalO ρ vo) := by
      rw [List.set_append_right _ _ (by omega), show r.pre.length + o - r.pre.length = o by omega]
     have fin := hK' φ _ undef _ _ (PExt.refl φ) (by simp only [RV]) (hh.wr hy hgn hno (RB_row hset (RSL.set hv o hl) (by rw [List.length_set]; exact hsz))) he
     generalize hV : evalO ρ vo = V at h3 fin hv ⊢
     cases V <;> first
      | (simp only [hone]; exact ⟨by rw [List.length_append]; omega, fin⟩)
      | (simp [Value.oneCell'] at h3)
    ·exact absurd he (by decide)
   | agg us =>
    dsimp only at he
    unfold stoN at he
    obtain ⟨cs, l, he, hg, hb, hl, hsz⟩ := rowW_ex hh hy he
    have hno : ∀ c, h r.b ≠ some (.old c) := fun c hc => by rw [hb] at hc; cases hc
    have hgn : H.t.get y ≠ none := by rw [hg]; simp
    obtain ⟨hc, he⟩ := okK_ex he
    simp only [Bool.and_eq_true] at hc
    have h2 : o + i.size ≤ ln cs := by simpa using hc.2
    have h3 : ln us = i.size := Nat.eq_of_beq_eq_true hc.1
    rw [ln_eq, ← hl.length] at h2
    rw [ln_eq] at h3
    rw [fL_eq, ap_eq, ap_eq, tk_eq, dr_eq, wrK_eq] at he
    refine off hgn hno _ ⟨r.e, r.pre ++ l, r.sz, hb, ?_⟩
    simp only [RV] at hv
    obtain ⟨ul, hu, hul⟩ := hv
    simp only [hu]
    have hlu := hul.length
    refine ⟨by rw [hlu, h3], hul.allOne, by rw [List.length_append]; omega, ?_⟩
    have hcat : (r.pre ++ l).take (r.pre.length + o) ++ ul.toList ++ (r.pre ++ l).drop (r.pre.length + o + i.size) = r.pre ++ (l.take o ++ (ul.toList ++ l.drop (o + i.size))) := by
     rw [List.take_append, List.take_of_length_le (l := r.pre) (by omega), List.drop_append, List.drop_eq_nil_of_le (as := r.pre) (by omega),
      show r.pre.length + o - r.pre.length = o by omega, show r.pre.length + o + i.size - r.pre.length = o + i.size by omega]
     simp only [List.append_assoc, List.nil_append]
    refine hK' φ _ undef _ _ (PExt.refl φ) (by simp only [RV]) (hh.wr hy hgn hno (RB_row hcat ((hl.take o).append (hul.append (hl.drop _))) ?_)) he
    simp only [List.length_append, List.length_take, List.length_drop, hlu, h3]
    omega
   | tup => exact absurd he (by simp)
   | undef => exact absurd he (by simp)
   | top => exact absurd he (by simp)
  ·exact absurd he (by decide)
 ·rename_i t0 mo ko vo
  split at he
  ·rename_i h1
   split at he
   ·rename_i h2
    obtain ⟨m, he, hm⟩ := evA_ex hr he
    obtain ⟨k, he, hk⟩ := evA_ex hr he
    obtain ⟨v, he, hv⟩ := evA_ex hr he
    obtain ⟨kk, key, he, hkey⟩ := asI_ex he hk
    obtain ⟨hkk, he⟩ := okK_ex he
    have hkk := ikEq_iff.1 hkk
    subst hkk
    obtain ⟨a, r, he, har, hmm⟩ := asMp_ex he hm
    obtain ⟨he, hof⟩ := ofK_ex hh ki he
    obtain ⟨es, l, he, hg, hb, hl⟩ := mapK_ex hh har he
    have hgn : H.t.get a ≠ none := by rw [hg]; simp
    have hno : ∀ c, h r.b ≠ some (.old c) := fun c hc => by rw [hb] at hc; cases hc
    rw [fL_eq, wrK_eq] at he
    unfold xOp
    simp only [h1, h2, hmm, hkey]
    refine ⟨r.b, l, rfl, hb, ?_⟩
    have fin := hK' φ _ undef _ _ (PExt.refl φ) (by simp only [RV]) (hh.wr har hgn hno (RB_imap (setA_ok hv hl))) he
    cases st with
    | none => exact fin
    | some hk => exact ⟨hof r har hgn hno hk rfl, fin⟩
   ·split at he
    ·rename_i h2
     obtain ⟨m, he, hm⟩ := evA_ex hr he
     obtain ⟨k, he, hk⟩ := evA_ex hr he
     obtain ⟨v, he, hv⟩ := evA_ex hr he
     obtain ⟨key, cs, he, hkey, hcs⟩ := asQ_ex he hk
     obtain ⟨a, r, he, har, hmm⟩ := asMp_ex he hm
     obtain ⟨he, hof⟩ := ofK_ex hh ki he
     obtain ⟨es, l, he, hg, hb, hl⟩ := mapP_ex hh har he
     have hgn : H.t.get a ≠ none := by rw [hg]; simp
     have hno : ∀ c, h r.b ≠ some (.old c) := fun c hc => by rw [hb] at hc; cases hc
     rw [fL_eq, wrK_eq] at he
     unfold xOp
     simp only [h1, hmm, hkey]
     refine ⟨h2, r.b, l, key, rfl, hb, hcs, ?_⟩
     have fin := hK' φ _ undef _ _ (PExt.refl φ) (by simp only [RV]) (hh.wr har hgn hno (RB_pmap (setA_ok hv hl))) he
     cases st with
     | none => exact fin
     | some hk => exact ⟨hof r har hgn hno hk rfl, fin⟩
    ·exact absurd he (by decide)
   ·exact absurd he (by decide)
  ·exact absurd he (by decide)
 ·rename_i c
  split at he
  ·rename_i fo hcal
   obtain ⟨fv, he, hfv⟩ := evA_ex hr he
   obtain ⟨args, he, hargs⟩ := argsA_ex hr he
   unfold callV at he
   split at he
   ·rename_i f first cap
    split at he
    ·exact absurd he (by decide)
    ·rename_i ts hts
     simp only [RV, RS] at hfv
     obtain ⟨a', c', hfv, hfa, hfc⟩ := hfv
     rw [ap_eq, ap_eq] at he
     have hall := (RVL.ofRSL hfa).append (hargs.append (RVL.ofRSL hfc))
     have ht := hcl _ _ _ _ φ hF h _ he hall hh
     unfold xOp
     simp only [hcal, hfv, hts]
     rw [← List.append_assoc] at ht
     refine ht.mono ?_
     rintro rr h' ⟨φ', v, H', hx, hv, hh', hk⟩
     cases S with
     | none =>
      cases st with
      | none =>
       obtain ⟨v', hk, hv', hs⟩ := shA_ex hv hk
       exact hs _ (hK' _ _ _ _ _ hx hv' hh' hk)
      | some _ => exact ki.elim
     | some S =>
      cases st with
      | none => exact ki.elim
      | some hkp =>
       obtain ⟨hsm, hk⟩ := okK_ex hk
       obtain ⟨v', hk, hv', hs⟩ := shA_ex hv hk
       exact ⟨kSame_ext hsm hh' (KI.mono hx ki), hs _ (hK' _ _ _ _ _ hx hv' hh' hk)⟩
   ·exact absurd he (by decide)
  ·rename_i hcal
   split at he
   ·rename_i t t2 x y h1 h2
    split at he
    ·rename_i e e2 h3 h4
     split at he
     ·rename_i i h5
      split at he
      ·rename_i z h6
       split at he
       ·rename_i h7
        obtain ⟨xv, he, hxv⟩ := evA_ex hr he
        obtain ⟨yv, he, hyv⟩ := evA_ex hr he
        obtain ⟨p, n, c1, z1, a1, k1, he, ha1, hc1, hn1, hs1, _⟩ := asSl_ex he hxv
        obtain ⟨p2, m, c2, z2, a2, k2, he, ha2, hc2, hn2, hs2, _⟩ := asSl_ex he hyv
        obtain ⟨ys, l, he, hys, hsl, hlen⟩ := elK_ex hh hs2 he
        unfold xOp
        simp only [hcal, h1, h2, List.map_cons, List.map_nil, ha1, ha2, h3, h4, h5, h6, h7]
        obtain ⟨he, hoff⟩ := ofKP_ex hh ki hs1 he
        have fin := appA_ex hh e hc1 hn1 hs1 hys hlen he K' fun φ' p1 n1 c1 z1 V H' h' hx hv hh' hk => hK' φ' _ V H' h' hx hv hh' hk
        cases st with
        | none => exact ⟨l, hsl, fin⟩
        | some hk => exact ⟨hoff hk rfl, l, hsl, fin⟩
       ·exact absurd he (by decide)
      ·exact absurd he (by decide)
     ·exact absurd he (by decide)
    ·exact absurd he (by decide)
   ·exact absurd he (by decide)
  ·rename_i hcal
   split at he
   ·rename_i t x h1 h2
    split at he
    ·rename_i el h3
     split at he
     ·rename_i z hz
      obtain ⟨zl, hz1, hz2⟩ := zcA_ok (φ := φ) hz
      obtain ⟨v, he, hv⟩ := evA_ex hr he
      obtain ⟨p, n, cc, z1, sa, k1, he, ha, hc1, hn1, hs1, _⟩ := asSl_ex he hv
      rw [clrA_eq0] at he
      unfold clrA0 at he
      unfold xOp
      simp only [hcal, h1, h2, List.map_cons, List.map_nil, h3, hz1, ha]
      cases n with
      | zero =>
       exact hK' φ _ _ _ _ (PExt.refl φ) (by simp only [RV, RVL]; exact ⟨#[], rfl, rfl⟩) hh he
      | succ n =>
       have he : okK (Nat.blt 0 (ln z)) _ = true := he
       obtain ⟨hz0, he⟩ := okK_ex he
       have hz0 : 0 < ln z := Nat.blt_eq ▸ hz0
       rw [ln_eq, ← hz2.length] at hz0
       cases p with
       | nil => exact Bool.noConfusion he
       | edge a o => exact Bool.noConfusion he
       | «at» y o =>
        have he : ofK S H y _ = true := he
        simp only [RSl] at hs1
        obtain ⟨r, hy, rfl, _⟩ := hs1
        obtain ⟨he, hof⟩ := ofK_ex hh ki he
        unfold stoN at he
        obtain ⟨cs, l, he, hg, hb, hl, hsz⟩ := rowW_ex hh hy he
        have hno : ∀ c, h r.b ≠ some (.old c) := fun c hc => by rw [hb] at hc; cases hc
        have hgn : H.t.get y ≠ none := by rw [hg]; simp
        obtain ⟨hc, he⟩ := okK_ex he
        simp only [Bool.and_eq_true] at hc
        have hul := flat_ok hz2 (n + 1)
        have hlu := hul.length
        have h3' : ln (List.replicate (n + 1) z).flatten = (n + 1) * ln z := Nat.eq_of_beq_eq_true hc.1
        have h2' : o + (n + 1) * ln z ≤ ln cs := Nat.le_of_ble_eq_true hc.2
        rw [← h3', ln_eq, ln_eq, ← hl.length, ← hlu] at h2'
        rw [← h3'] at he
        rw [fL_eq, ap_eq, ap_eq, tk_eq, dr_eq, ln_eq, ← hlu, wrK_eq] at he
        dsimp only [nilCk]
        have off : ∀ X : Prop, X → offK st r.b X := by
         intro X hX
         cases st with
         | none => exact hX
         | some hk => exact ⟨hof r hy hgn hno hk rfl, hX⟩
        refine off _ ⟨r.e, r.pre ++ l, r.sz, hb, hz0, hul.allOne, by rw [List.length_append]; omega, ?_⟩
        have hcat : (r.pre ++ l).take (r.pre.length + o) ++ (List.replicate (n + 1) zl).flatten ++ (r.pre ++ l).drop (r.pre.length + o + (List.replicate (n + 1) zl).flatten.length) = r.pre ++ (l.take o ++ ((List.replicate (n + 1) zl).flatten ++ l.drop (o + (List.replicate (n + 1) zl).flatten.length))) := by
         rw [List.take_append, List.take_of_length_le (l := r.pre) (by omega), List.drop_append, List.drop_eq_nil_of_le (as := r.pre) (by omega),
          show r.pre.length + o - r.pre.length = o by omega, show r.pre.length + o + (List.replicate (n + 1) zl).flatten.length - r.pre.length = o + (List.replicate (n + 1) zl).flatten.length by omega]
         simp only [List.append_assoc, List.nil_append]
        refine hK' φ _ _ _ _ (PExt.refl φ) (by simp only [RV, RVL]; exact ⟨#[], rfl, rfl⟩) (hh.wr hy hgn hno (RB_row hcat ((hl.take o).append (hul.append (hl.drop _))) ?_)) he
        simp only [List.length_append, List.length_take, List.length_drop]
        omega
     ·exact absurd he (by decide)
    ·exact absurd he (by decide)
   ·exact absurd he (by decide)
  ·rename_i hcal
   split at he
   ·rename_i t x h1 h2
    split at he
    ·rename_i dir el h3
     obtain ⟨v, he, hv⟩ := evA_ex hr he
     obtain ⟨a, r, he, har, hmm⟩ := asC_ex he hv
     obtain ⟨cap, xs, l, s, c, he, hg, hb, hl⟩ := chanK_ex hh har he
     unfold xOp
     simp only [hcal, h1, h2, List.map_cons, List.map_nil, h3, hmm]
     refine ⟨r.b, cap, l.toArray, false, s, c, rfl, hb, hK' φ _ _ _ _ (PExt.refl φ) ?_ hh he⟩
     simp only [RV, RS]
     rw [ln_eq, ← hl.length]
     rfl
    ·exact absurd he (by decide)
   ·exact absurd he (by decide)
  ·rename_i hcal
   split at he
   ·rename_i t ts m k h1 h2
    cases st with
    | some _ => exact ki.elim
    | none =>
    split at he
    ·rename_i h3
     split at he
     ·rename_i h4
      obtain ⟨m, he, hm⟩ := evA_ex hr he
      obtain ⟨k, he, hk⟩ := evA_ex hr he
      obtain ⟨kk, key, he, hkey⟩ := asI_ex he hk
      obtain ⟨hkk, he⟩ := okK_ex he
      have hkk := ikEq_iff.1 hkk
      subst hkk
      obtain ⟨a, r, he, har, hmm⟩ := asMp_ex he hm
      obtain ⟨es, l, he, hg, hb, hl⟩ := mapK_ex hh har he
      have hgn : H.t.get a ≠ none := by rw [hg]; simp
      have hno : ∀ c, h r.b ≠ some (.old c) := fun c hc => by rw [hb] at hc; cases hc
      rw [fL_eq, wrK_eq] at he
      unfold xOp
      simp only [hcal, h1, h2, List.map_cons, List.map_nil, h3, h4, hmm, hkey]
      exact ⟨r.b, l, rfl, hb, hK' φ _ _ _ _ (PExt.refl φ) (by simp only [RV, RVL]; exact ⟨#[], rfl, rfl⟩) (hh.wr har hgn hno (RB_imap (delA_ok hl))) he⟩
     ·split at he
      ·rename_i h4
       obtain ⟨m, he, hm⟩ := evA_ex hr he
       obtain ⟨k, he, hk⟩ := evA_ex hr he
       obtain ⟨key, cs, he, hkey, hcs⟩ := asQ_ex he hk
       obtain ⟨a, r, he, har, hmm⟩ := asMp_ex he hm
       obtain ⟨es, l, he, hg, hb, hl⟩ := mapP_ex hh har he
       have hgn : H.t.get a ≠ none := by rw [hg]; simp
       have hno : ∀ c, h r.b ≠ some (.old c) := fun c hc => by rw [hb] at hc; cases hc
       rw [fL_eq, wrK_eq] at he
       unfold xOp
       simp only [hcal, h1, h2, List.map_cons, List.map_nil, h3, hmm, hkey]
       exact ⟨h4, r.b, l, key, rfl, hb, hcs, hK' φ _ _ _ _ (PExt.refl φ) (by simp only [RV, RVL]; exact ⟨#[], rfl, rfl⟩) (hh.wr har hgn hno (RB_pmap (delA_ok hl))) he⟩
      ·exact absurd he (by decide)
     ·exact absurd he (by decide)
    ·exact absurd he (by decide)
   ·exact absurd he (by decide)
  ·exact absurd he (by decide)
 ·exact absurd he (by decide)
end
end Go.Vw.Ev
