/- The evaluator's operations without effect: what it takes is what the conditions ask. -/
import Derived.Test.YtmdidmoffcinjaaGreatVwEvL
namespace Go.Vw.Ev
open Go Go.Vw
def EnvR (φ : Phi) (ρA : AEnv) (ρ : Env) : Prop := ∀ i, RV φ (ρA i) (ρ i)
theorem EnvR.mono {φ φ' : Phi} (hx : PExt φ φ') {ρA : AEnv} {ρ : Env} (h : EnvR φ ρA ρ) : EnvR φ' ρA ρ := fun i => (h i).mono hx
theorem EnvR.put {φ : Phi} {ρA : AEnv} {ρ : Env} (h : EnvR φ ρA ρ) {v : AV} {V : Value} (hv : RV φ v V) (d : Nat) : EnvR φ (ρA.put d v) (ρ.put d V) := by
 intro i
 simp only [AEnv.put, Env.put]
 cases Nat.beq i d
 ·exact h i
 ·exact hv
section
variable {φ : Phi} {P : Program}
theorem evA_ex {ρA : AEnv} {ρ : Env} (hr : EnvR φ ρA ρ) {x : Operand} {K : AV → Bool} (h : evA ρA x K = true) : ∃ v, K v = true ∧ RV φ v (evalO ρ x) := by
 cases x with
 | tmp t => exact ⟨_, h, hr t⟩
 | const v =>
  simp only [evA] at h
  split at h
  ·rename_i a ha
   exact ⟨a, h, ofV_ok ha⟩
  ·exact absurd h (by decide)
 | global g => exact absurd h (by simp [evA])
 | func f =>
  refine ⟨_, h, ?_⟩
  simp only [RV, RS, evalO]
  exact ⟨#[], #[], rfl, by simp [RSL], by simp [RSL]⟩
theorem asI_ex {v : AV} {V : Value} {K : IntKind → Int → Bool} (h : asI v K = true) (hv : RV φ v V) : ∃ k n, K k n = true ∧ V = .int k n := by
 unfold asI at h
 split at h
 ·simp only [RV, RS] at hv
  exact ⟨_, _, h, hv⟩
 ·exact absurd h (by decide)
theorem asB_ex {v : AV} {V : Value} {K : Bool → Bool} (h : asB v K = true) (hv : RV φ v V) : ∃ b, K b = true ∧ V = .bool b := by
 unfold asB at h
 split at h
 ·simp only [RV, RS] at hv
  exact ⟨_, h, hv⟩
 ·exact absurd h (by decide)
theorem asP_ex {v : AV} {V : Value} {K : AP → Bool} (h : asP v K = true) (hv : RV φ v V) : ∃ p a, K p = true ∧ V = .pointer a ∧ RP φ p a := by
 unfold asP at h
 split at h
 ·simp only [RV, RS] at hv
  obtain ⟨a, h1, h2⟩ := hv
  exact ⟨_, a, h, h1, h2⟩
 ·exact absurd h (by decide)
theorem asStr_ex {v : AV} {V : Value} {K : List Nat → Bool} (h : asStr v K = true) (hv : RV φ v V) : ∃ (s : List Nat) (b : ByteArray), K s = true ∧ V = .string b ∧ b.data.toList.map UInt8.toNat = s := by
 unfold asStr at h
 split at h
 ·simp only [RV, RS] at hv
  obtain ⟨a, h1, h2⟩ := hv
  exact ⟨_, a, h, h1, h2⟩
 ·exact absurd h (by decide)
theorem asG_ex {v : AV} {V : Value} {K : List AS → Bool} (h : asG v K = true) (hv : RV φ v V) : ∃ cs l, K cs = true ∧ V = .agg l ∧ RSL φ cs l.toList := by
 unfold asG at h
 split at h
 ·simp only [RV] at hv
  obtain ⟨a, h1, h2⟩ := hv
  exact ⟨_, a, h, h1, h2⟩
 ·exact absurd h (by decide)
theorem nilK_ex {p : AP} {a : Option Addr} {K : Pn → Nat → Bool} (h : nilK p K = true) (hp : RP φ p a) :
  ∃ x o r, p = .at x o ∧ K x o = true ∧ φ x = some r ∧ a = some ⟨r.b, r.pre.length + o, none⟩ := by
 cases p with
 | «at» x o =>
  obtain ⟨r, h1, h2⟩ := hp
  exact ⟨_, _, r, rfl, h, h1, h2⟩
 | nil => exact Bool.noConfusion h
 | edge x o => exact Bool.noConfusion h
theorem okK_ex {b K : Bool} (h : okK b K = true) : b = true ∧ K = true := by
 cases b
 ·exact Bool.noConfusion h
 ·exact ⟨rfl, h⟩
theorem natK_ex {j : Int} {K : Nat → Bool} (h : natK j K = true) : ∃ m : Nat, j = (m : Int) ∧ K m = true := by
 cases j with
 | ofNat m => exact ⟨m, rfl, h⟩
 | negSucc m => exact absurd h (by simp [natK])
theorem rowK_get {H : AH} {a : Pn} {K : List AS → Bool} (h : rowK H a K = true) : ∃ cs, (H.t.get a = some (.row cs) ∨ H.t.get a = some (.fix cs)) ∧ K cs = true := by
 unfold rowK at h
 cases hg : H.t.get a with
 | none => rw [hg] at h; exact Bool.noConfusion h
 | some b =>
  rw [hg] at h
  cases b with
  | row cs => exact ⟨cs, .inl rfl, h⟩
  | imap es => exact Bool.noConfusion h
  | fix cs => exact ⟨cs, .inr rfl, h⟩
  | chan cap xs => exact Bool.noConfusion h
  | one x => exact Bool.noConfusion h
  | pmap es => exact Bool.noConfusion h
theorem rowW_get {H : AH} {a : Pn} {K : List AS → Bool} (h : rowW H a K = true) : ∃ cs, H.t.get a = some (.row cs) ∧ K cs = true := by
 unfold rowW at h
 cases hg : H.t.get a with
 | none => rw [hg] at h; exact Bool.noConfusion h
 | some b =>
  rw [hg] at h
  cases b with
  | row cs => exact ⟨cs, rfl, h⟩
  | imap es => exact Bool.noConfusion h
  | fix cs => exact Bool.noConfusion h
  | chan cap xs => exact Bool.noConfusion h
  | one x => exact Bool.noConfusion h
  | pmap es => exact Bool.noConfusion h
theorem idxK_ex {j : Int} {n : Nat} {K : Nat → Bool} (h : idxK j n K = true) : ∃ m : Nat, j = (m : Int) ∧ m < n ∧ K m = true := by
 cases j with
 | ofNat m =>
  obtain ⟨h1, h2⟩ := okK_ex h
  exact ⟨m, rfl, Nat.lt_of_succ_le (Nat.le_of_ble_eq_true h1), h2⟩
 | negSucc m => exact absurd h (by simp [idxK])
theorem asSl_ex {v : AV} {V : Value} {K : AP → Nat → ACap → Nat → Bool} (h : asSl v K = true) (hv : RV φ v V) :
  ∃ p n c z a c', K p n c z = true ∧ V = .slice a n c' ∧ RC φ c c' ∧ n ≤ c' ∧ RSl φ p n z c' a ∧ v = .s (.slice p n c z) := by
 unfold asSl at h
 split at h
 ·simp only [RV, RS] at hv
  obtain ⟨a, c', h1, h2, h3, h4⟩ := hv
  exact ⟨_, _, _, _, a, c', h, h1, h2, h3, h4, rfl⟩
 ·exact absurd h (by decide)
theorem inB_iff {b : Int} : inB b = true ↔ -9223372036854775808 ≤ b ∧ b ≤ 9223372036854775807 := by
 unfold inB
 rw [Bool.and_eq_true, Nat.ble_eq, Nat.ble_eq]
 omega
theorem pairV_C {a b : Int} (h : inB b = true) : pairV (pairC a b) = .agg #[.int .i64 a, .int .i64 b] := by
 have := inB_iff.1 h
 have h1 : (a * 18446744073709551616 + (b + 9223372036854775808)) / 18446744073709551616 = a := by omega
 have h2 : (a * 18446744073709551616 + (b + 9223372036854775808)) % 18446744073709551616 - 9223372036854775808 = b := by omega
 unfold pairV pairC
 rw [h1, h2]
theorem asQ_ex {v : AV} {V : Value} {K : Int → Bool} (h : asQ v K = true) (hv : RV φ v V) : ∃ key cs, K key = true ∧ V = .agg cs ∧ Value.agg cs = pairV key := by
 unfold asQ at h
 split at h
 ·rename_i a b
  obtain ⟨h1, h2⟩ := okK_ex h
  rw [fI_eq] at h2
  simp only [RV] at hv
  obtain ⟨l, rfl, hl⟩ := hv
  simp only [RSL, RS] at hl
  obtain ⟨x, xs, e1, rfl, y, ys, rfl, rfl, rfl⟩ := hl
  refine ⟨_, l, h2, rfl, ?_⟩
  rw [pairV_C h1]
  congr 1
  exact Array.ext' e1
 ·exact absurd h (by decide)
theorem asMp_ex {v : AV} {V : Value} {K : Pn → Bool} (h : asMp v K = true) (hv : RV φ v V) : ∃ a r, K a = true ∧ φ a = some r ∧ V = .map (some r.b) := by
 unfold asMp at h
 split at h
 ·simp only [RV, RS] at hv
  obtain ⟨r, h1, h2⟩ := hv
  exact ⟨_, r, h, h1, h2⟩
 ·exact absurd h (by decide)
theorem asC_ex {v : AV} {V : Value} {K : Pn → Bool} (h : asC v K = true) (hv : RV φ v V) : ∃ a r, K a = true ∧ φ a = some r ∧ V = .chan (some r.b) := by
 unfold asC at h
 split at h
 ·simp only [RV, RS] at hv
  obtain ⟨r, h1, h2⟩ := hv
  exact ⟨_, r, h, h1, h2⟩
 ·exact absurd h (by decide)
theorem asT_ex {v : AV} {V : Value} {K : List AV → Bool} (h : asT v K = true) (hv : RV φ v V) : ∃ vs l, K vs = true ∧ V = .tuple l ∧ RVL φ vs l.toList := by
 unfold asT at h
 split at h
 ·simp only [RV] at hv
  obtain ⟨l, h1, h2⟩ := hv
  exact ⟨_, l, h, h1, h2⟩
 ·exact absurd h (by decide)
theorem arI_ex {v : AV} {k : IntKind} {K : Int → Bool} (h : arI v k K = true) : ∃ n, v = .s (.int k n) ∧ K n = true := by
 unfold arI at h
 split at h
 ·obtain ⟨h1, h2⟩ := okK_ex h
  rw [← ikEq_iff.1 h1]
  exact ⟨_, rfl, h2⟩
 ·exact absurd h (by decide)
theorem arB_ex {v : AV} {K : Bool → Bool} (h : arB v K = true) : ∃ b, v = .s (.bool b) ∧ K b = true := by
 unfold arB at h
 split at h
 ·rw [fB_eq] at h
  exact ⟨_, rfl, h⟩
 ·exact absurd h (by decide)
theorem arM_ex {v : AV} {K : Option Pn → Bool} (h : arM v K = true) : ∃ p, v = .s (.map p) ∧ K p = true := by
 unfold arM at h
 split at h
 ·exact ⟨_, rfl, h⟩
 ·exact absurd h (by decide)
theorem arC_ex {v : AV} {K : Option Pn → Bool} (h : arC v K = true) : ∃ p, v = .s (.chan p) ∧ K p = true := by
 unfold arC at h
 split at h
 ·exact ⟨_, rfl, h⟩
 ·exact absurd h (by decide)
theorem arStr_ex {v : AV} {K : List Nat → Bool} (h : asStr v K = true) : ∃ p, v = .s (.str p) ∧ K p = true := by
 unfold asStr at h
 split at h
 ·exact ⟨_, rfl, h⟩
 ·exact absurd h (by decide)
theorem arP_ex {v : AV} {K : AP → Bool} (h : asP v K = true) : ∃ p, v = .s (.ptr p) ∧ K p = true := by
 unfold asP at h
 split at h
 ·exact ⟨_, rfl, h⟩
 ·exact absurd h (by decide)
theorem arG_ex {v : AV} {K : List AS → Bool} (h : asG v K = true) : ∃ p, v = .agg p ∧ K p = true := by
 unfold asG at h
 split at h
 ·exact ⟨_, rfl, h⟩
 ·exact absurd h (by decide)
theorem arSl_ex {v : AV} {K : AP → Nat → ACap → Nat → Bool} (h : asSl v K = true) : ∃ p n c z, v = .s (.slice p n c z) ∧ K p n c z = true := by
 unfold asSl at h
 split at h
 ·exact ⟨_, _, _, _, rfl, h⟩
 ·exact absurd h (by decide)
theorem hd_ex {l : List AV} {K : AV → List AV → Bool} (h : hd l K = true) : ∃ x r, l = x :: r ∧ K x r = true := by
 cases l with
 | nil => exact Bool.noConfusion h
 | cons x r => exact ⟨x, r, rfl, h⟩
theorem endK_ex {l : List AV} {K : Bool} (h : endK l K = true) : l = [] ∧ K = true := by
 cases l with
 | nil => exact ⟨rfl, h⟩
 | cons x r => exact Bool.noConfusion h
theorem ld_of {cs : List AS} {l : List Value} (hl : RSL φ cs l) {o : Nat} {x : AS} (hx : nth cs o = some x) :
  ∃ V, RS φ x V ∧ ∀ (hp : Hp) (b : Nat) (pre : List Value), (∃ s, hp.row? b = some (pre ++ (l ++ s))) → Ld hp b (pre.length + o) V := by
 rw [nth_eq] at hx
 obtain ⟨v, hv, hr⟩ := hl.get hx
 refine ⟨v, hr, fun hp b pre ⟨s, hb⟩ => ⟨_, hb, ?_⟩⟩
 have hlt := (List.getElem?_eq_some_iff.1 hv).1
 rw [List.getElem?_append_right (by omega), List.getElem?_append_left (by omega)]
 simpa using hv
theorem lds_of {l : List Value} {o m : Nat} (hm : o + m ≤ l.length) (hp : Hp) (b : Nat) (pre : List Value) (hb : ∃ s, hp.row? b = some (pre ++ (l ++ s))) :
  Lds hp b (pre.length + o) m ((l.drop o).take m) := by
 obtain ⟨s, hb⟩ := hb
 refine ⟨_, hb, by rw [List.length_append, List.length_append]; omega, ?_⟩
 have : (pre ++ (l ++ s)).drop (pre.length + o) = (l ++ s).drop o := by
  rw [List.drop_append, List.drop_eq_nil_of_le (as := pre) (by omega)]
  simp
 rw [this, List.drop_append_of_le_length (by omega), List.take_append_of_le_length (by rw [List.length_drop]; omega)]
theorem ldG_ex {cs : List AS} {l : List Value} (hl : RSL φ cs l) {o m : Nat} {K : List AS → Bool} (h : ldG cs o m K = true) :
  ∃ ys, K ys = true ∧ RSL φ ys ((l.drop o).take m) ∧ o + m ≤ l.length ∧ 0 < m := by
 unfold ldG at h
 rw [fL_eq, tk_eq, dr_eq] at h
 split at h
 ·rename_i hb
  simp only [Bool.and_eq_true] at hb
  obtain ⟨hb, hm⟩ := hb
  have hb := Nat.eq_of_beq_eq_true hb
  have hm : 0 < m := by simpa using hm
  rw [ln_eq] at hb
  have hlen := hl.length
  simp only [List.length_take, List.length_drop] at hb
  exact ⟨_, h, (hl.drop o).take m, by omega, hm⟩
 ·exact absurd h (by decide)
theorem ldN_ex {cs : List AS} {l : List Value} (hl : RSL φ cs l) {o m : Nat} {K : List AS → Bool} (h : ldN cs o m K = true) :
  ∃ ys, K ys = true ∧ RSL φ ys ((l.drop o).take m) ∧ o + m ≤ l.length := by
 rw [ldN_eq0] at h
 unfold ldN0 at h
 split at h
 ·rename_i hm
  have hm := Nat.eq_of_beq_eq_true hm
  subst hm
  split at h
  ·rename_i hb
   have hb : o ≤ ln cs := by simpa using hb
   rw [ln_eq] at hb
   have hlen := hl.length
   exact ⟨[], h, by simp [RSL], by omega⟩
  ·exact absurd h (by decide)
 ·obtain ⟨ys, h1, h2, h3, _⟩ := ldG_ex hl h
  exact ⟨ys, h1, h2, h3⟩
theorem ldI_ex {cs : List AS} {o : Nat} {k : IntKind} {K : Int → Bool} (h : ldI cs o k K = true) : ∃ n, nth cs o = some (.int k n) ∧ K n = true := by
 unfold ldI at h
 cases hn : nth cs o with
 | none => rw [hn] at h; exact Bool.noConfusion h
 | some x =>
  rw [hn] at h
  cases x with
  | int k' n =>
   obtain ⟨hk, h⟩ := okK_ex h
   rw [← ikEq_iff.1 hk]
   exact ⟨n, rfl, h⟩
  | _ => exact Bool.noConfusion h
theorem ldA_ex {d : Option TypeDesc} {m : Nat} {cs : List AS} {o : Nat} {K : AV → Bool} (h : ldA d m cs o K = true) {l : List Value} (hl : RSL φ cs l) :
  ∃ v V, K v = true ∧ RV φ v V ∧ ∃ d', d = some d' ∧ ∀ (hp : Hp) (b : Nat) (pre : List Value), (∃ s, hp.row? b = some (pre ++ (l ++ s))) → ∀ K' : Value → Prop, K' V → anyOf d (ldv (isAggD d) hp b (pre.length + o) m) K' := by
 unfold ldA at h
 split at h
 ·rename_i k
  obtain ⟨n, hn, h⟩ := ldI_ex h
  obtain ⟨V, hV, hld⟩ := ld_of hl hn
  simp only [RS] at hV
  subst hV
  exact ⟨_, .int k n, h, by simp [RV, RS], _, rfl, fun hp b pre hb K' hK => ⟨n, hld hp b pre hb, hK⟩⟩
 ·unfold ldB at h
  split at h
  ·rename_i b hn
   rw [fB_eq] at h
   obtain ⟨V, hV, hld⟩ := ld_of hl hn
   simp only [RS] at hV
   subst hV
   exact ⟨_, .bool b, h, by simp [RV, RS], _, rfl, fun hp b pre hb K' hK => ⟨_, hld hp b pre hb, hK⟩⟩
  ·exact absurd h (by decide)
 ·unfold ldStr at h
  split at h
  ·rename_i b hn
   obtain ⟨V, hV, hld⟩ := ld_of hl hn
   have hV0 := hV
   simp only [RS] at hV
   obtain ⟨s, rfl, _⟩ := hV
   exact ⟨_, _, h, by simpa only [RV] using hV0, _, rfl, fun hp b pre hb K' hK => ⟨_, hld hp b pre hb, hK⟩⟩
  ·exact absurd h (by decide)
 ·unfold ldP at h
  split at h
  ·rename_i b hn
   obtain ⟨V, hV, hld⟩ := ld_of hl hn
   have hV0 := hV
   simp only [RS] at hV
   obtain ⟨s, rfl, _⟩ := hV
   exact ⟨_, _, h, by simpa only [RV] using hV0, _, rfl, fun hp b pre hb K' hK => ⟨_, hld hp b pre hb, hK⟩⟩
  ·exact absurd h (by decide)
 ·unfold ldSl at h
  split at h
  ·rename_i hn
   obtain ⟨V, hV, hld⟩ := ld_of hl hn
   have hV0 := hV
   simp only [RS] at hV
   obtain ⟨s, c, rfl, _⟩ := hV
   exact ⟨_, _, h, by simpa only [RV] using hV0, _, rfl, fun hp b pre hb K' hK => ⟨_, _, _, hld hp b pre hb, hK⟩⟩
  ·exact absurd h (by decide)
 ·unfold ldM at h
  split at h
  ·rename_i p hn
   obtain ⟨V, hV, hld⟩ := ld_of hl hn
   have hV0 := hV
   simp only [RS] at hV
   have : ∃ r, V = .map r := by
    cases p with
    | none => exact ⟨_, hV⟩
    | some x => obtain ⟨r, _, h2⟩ := hV; exact ⟨_, h2⟩
   obtain ⟨r, rfl⟩ := this
   exact ⟨_, _, h, by simpa only [RV] using hV0, _, rfl, fun hp b pre hb K' hK => ⟨_, hld hp b pre hb, hK⟩⟩
  ·exact absurd h (by decide)
 ·unfold ldC at h
  split at h
  ·rename_i p hn
   obtain ⟨V, hV, hld⟩ := ld_of hl hn
   have hV0 := hV
   simp only [RS] at hV
   have : ∃ r, V = .chan r := by
    cases p with
    | none => exact ⟨_, hV⟩
    | some x => obtain ⟨r, _, h2⟩ := hV; exact ⟨_, h2⟩
   obtain ⟨r, rfl⟩ := this
   exact ⟨_, _, h, by simpa only [RV] using hV0, _, rfl, fun hp b pre hb K' hK => ⟨_, hld hp b pre hb, hK⟩⟩
  ·exact absurd h (by decide)
 ·obtain ⟨ys, hk, hys, hle, _⟩ := ldG_ex hl h
  exact ⟨_, .agg ((l.drop o).take m).toArray, hk, by simp only [RV]; exact ⟨_, rfl, by simpa using hys⟩, _, rfl, fun hp b pre hb K' hK => ⟨_, lds_of hle hp b pre hb, hK⟩⟩
 ·obtain ⟨ys, hk, hys, hle, _⟩ := ldG_ex hl h
  exact ⟨_, .agg ((l.drop o).take m).toArray, hk, by simp only [RV]; exact ⟨_, rfl, by simpa using hys⟩, _, rfl, fun hp b pre hb K' hK => ⟨_, lds_of hle hp b pre hb, hK⟩⟩
 ·rename_i d' hd1 hd2 hd3 hd4 hd5 hd6 hd7 hd8 hd9
  unfold ldX at h
  split at h
  ·rename_i x hn
   obtain ⟨V, hV, hld⟩ := ld_of hl hn
   refine ⟨_, V, h, by simpa only [RV] using hV, d', rfl, fun hp b pre hb K' hK => ?_⟩
   cases d' <;> first
    | exact ⟨V, hld hp b pre hb, hK⟩
    | exact (hd1 _ rfl).elim
    | exact (hd2 rfl).elim
    | exact (hd3 rfl).elim
    | exact (hd4 _ rfl).elim
    | exact (hd5 _ rfl).elim
    | exact (hd6 _ _ rfl).elim
    | exact (hd7 _ _ rfl).elim
    | exact (hd8 _ rfl).elim
    | exact (hd9 _ _ rfl).elim
  ·exact absurd h (by decide)
 ·exact absurd h (by decide)
end
end Go.Vw.Ev
