import Derived.Test.YtmdidmoffcinjaaGreatVwHeap
namespace Go.Vw
open Go Go.RowKit
section
variable {P : Program} {w0 : World}
def KKof (w0 : World) (st : Option Hp) (w w' : World) : Prop := match st with | none => w' = w | some h0 => KeepH w0 h0 w w'
theorem KKof.refl (st : Option Hp) (w : World) : KKof w0 st w w := by cases st <;> simp [KKof, KeepH.refl]
theorem stabK_ex {st : Option Hp} {h : Hp} {b : Nat} {K : Prop} (hk : stabK st h b K) : (∀ h0, st = some h0 → h0 b = h b) ∧ K := by
 unfold stabK at hk
 split at hk
 ·exact ⟨fun _ hh => (by cases hh), hk⟩
 ·exact ⟨fun _ hh => (by cases hh; exact hk.1), hk.2⟩
theorem rOp_sound {st : Option Hp} {ρ : Env} {o : Oper} {h : Hp} {K : Value → Prop} {w : World} (hv : View w0 h w) (hr : rOp P st ρ o.op h K) :
  ∃ v, (∀ w', KKof w0 st w w' → (execOp (evalO ρ) o).run P w' = .ok (.value v) w') ∧ K v := by
 unfold rOp at hr
 unfold execOp
 split at hr
 ·-- load
  rename_i t x e
  rw [e]
  split at hr
  ·rename_i i d hi hd
   split at hr
   ·rename_i a ha
    obtain ⟨b, o', rfl, hs⟩ := nilCk_ex hr
    obtain ⟨hs, hk⟩ := stabK_ex hs
    obtain ⟨v, hld, hk⟩ := anyOf_ex hk
    refine ⟨v, fun w' hw' => ?_, hk⟩
    have hrow : ∀ c, h.row? b = some c → rowAt w' b c := by
     intro c hc
     cases st with
     | none => simp only [KKof] at hw'; subst hw'; exact view_row hv hc
     | some h0 =>
      cases hb : h b with
      | none => simp [Hp.row?, hb] at hc
      | some k => exact blkAt_row hc hb (hw' b k (by rw [hs h0 rfl]; exact hb) (hv.blk b k hb))
    have := ldv_run hd hi hld hrow
    simp [Instr.loadAt, Instr.sureAddr, ha, this]
   ·exact hr.elim
  ·exact hr.elim
 ·-- lookup
  rename_i t m k ok e
  rw [e]
  split at hr
  ·rename_i kt et _ ht
   split at hr
   ·rename_i z r key hkt hz hm hkey
    obtain ⟨b, es, rfl, hb, hk⟩ := hr
    obtain ⟨hs, hk⟩ := stabK_ex hk
    have hblk : ∀ w', KKof w0 st w w' → BlkAt w0 w' b (.imap es) := by
     intro w' hw'
     cases st with
     | none => simp only [KKof] at hw'; subst hw'; exact hv.blk b _ hb
     | some h0 => exact hw' b _ (by rw [hs h0 rfl]; exact hb) (hv.blk b _ hb)
    have hmain : ∀ (okk : Bool) w', KKof w0 st w w' → (Instr.lookup t (.map (some b)) (.int .i64 key) okk).run P w' =
      .ok (if okk then .tuple #[(lkup es key).getD z, .bool (lkup es key).isSome] else (lkup es key).getD z) w' := by
     intro okk w' hw'
     obtain ⟨_, es', clk, hw, hes, _⟩ := hblk w' hw'
     have hes' : es'.toList.map entE = es.map encE := hes
     have hf := findKey_int hkt hes' key w'
     have hlk := findE_lkup key es 0
     have hget : (getObj b).run P w' = .ok (.map es' clk) w' := by simp [getObj, Sem.run, hw]
     simp only [Instr.lookup, Sem.run_bind, run_underlying_of ht, Result.andThen_ok, hget, Sem.run_pure, checkKey_int hkt, hf]
     cases hfe : findE key es 0 with
     | none =>
      rw [hfe] at hlk
      simp at hlk
      cases okk <;> simp [run_zeroValue_of hz, ← hlk]
     | some x =>
      rw [hfe] at hlk
      simp at hlk
      cases okk <;> simp [← hlk]
    cases ok with
    | false =>
     obtain ⟨v, rfl, hk⟩ := anyOf_ex hk
     refine ⟨_, fun w' hw' => ?_, hk⟩
     simp [hm, hkey, hmain false w' hw']
    | true =>
     obtain ⟨v, rfl, hk⟩ := anyOf_ex hk
     refine ⟨_, fun w' hw' => ?_, hk⟩
     simp [hm, hkey, hmain true w' hw']
   ·rename_i fs z r cs hkt hz hm hkey
    obtain ⟨hpt, b, es, key, rfl, hb, hcs, hk⟩ := hr
    obtain ⟨hs, hk⟩ := stabK_ex hk
    have hblk : ∀ w', KKof w0 st w w' → BlkAt w0 w' b (.pmap es) := by
     intro w' hw'
     cases st with
     | none => simp only [KKof] at hw'; subst hw'; exact hv.blk b _ hb
     | some h0 => exact hw' b _ (by rw [hs h0 rfl]; exact hb) (hv.blk b _ hb)
    have hmain : ∀ (okk : Bool) w', KKof w0 st w w' → (Instr.lookup t (.map (some b)) (.agg cs) okk).run P w' =
      .ok (if okk then .tuple #[(lkup es key).getD z, .bool (lkup es key).isSome] else (lkup es key).getD z) w' := by
     intro okk w' hw'
     obtain ⟨_, es', clk, hw, hes, _⟩ := hblk w' hw'
     have hes' : es'.toList.map entE = es.map (fun x => (pairV x.1, x.2)) := hes
     have hf := findKey_pair hpt hes' key w'
     have hlk := findE_lkup key es 0
     have hget : (getObj b).run P w' = .ok (.map es' clk) w' := by simp [getObj, Sem.run, hw]
     rw [hcs]
     simp only [Instr.lookup, Sem.run_bind, run_underlying_of ht, Result.andThen_ok, hget, Sem.run_pure, checkKey_pair hpt, hf]
     cases hfe : findE key es 0 with
     | none =>
      rw [hfe] at hlk
      simp at hlk
      cases okk <;> simp [run_zeroValue_of hz, ← hlk]
     | some x =>
      rw [hfe] at hlk
      simp at hlk
      cases okk <;> simp [← hlk]
    cases ok with
    | false =>
     obtain ⟨v, rfl, hk⟩ := anyOf_ex hk
     refine ⟨_, fun w' hw' => ?_, hk⟩
     simp [hm, hkey, hmain false w' hw']
    | true =>
     obtain ⟨v, rfl, hk⟩ := anyOf_ex hk
     refine ⟨_, fun w' hw' => ?_, hk⟩
     simp [hm, hkey, hmain true w' hw']
   ·exact hr.elim
  ·exact hr.elim
 ·-- len of a map
  rename_i c e
  rw [e]
  split at hr
  ·rename_i t r hc hat hav
   split at hr
   ·rename_i kt et ht
    obtain ⟨b, es, rfl, hb, hk⟩ := hr
    obtain ⟨hs, hk⟩ := stabK_ex hk
    have ha : c.argTypes = #[t] := by apply Array.ext'; simpa using hat
    have hvv : c.args.map (evalO ρ) = #[.map (some b)] := by apply Array.ext'; simpa using hav
    refine ⟨_, fun w' hw' => ?_, hk⟩
    have hbl : BlkAt w0 w' b (.imap es) := by
     cases st with
     | none => simp only [KKof] at hw'; subst hw'; exact hv.blk b _ hb
     | some h0 => exact hw' b _ (by rw [hs h0 rfl]; exact hb) (hv.blk b _ hb)
    obtain ⟨_, es', clk, hw, hes, _⟩ := hbl
    have hget : (getObj b).run P w' = .ok (.map es' clk) w' := by simp [getObj, Sem.run, hw]
    have hlen : es'.size = es.length := by simpa using congrArg List.length hes
    simp [resolve, hc, hvv, ha, invoke, builtin, Builtin.len_, run_underlying_of ht, hget, goInt, hlen]
   ·exact hr.elim
  ·exact hr.elim
 ·exact hr.elim
end
end Go.Vw
