import Derived.Test.YtmdidmoffcinjaaGreatVwSel
namespace Go.Vw
open Go Go.RowKit Go.Conc
section
variable {P : Program} {w0 : World}
def conQ (n : Nat) (w0 : World) (Q : Exit → Env → Hp → Prop) (e : Exit) (a : Act) (w : World) : Prop := ∃ ρ h, Q e ρ h ∧ Rep n ρ a ∧ View w0 h w
theorem view_setChan {h : Hp} {w : World} (hv : View w0 h w) {b cap s r : Nat} {buf : Array Value} {o : Obj} (hb : h b = some (.obj o)) :
  View w0 (h.set b (.obj (.chan cap buf false s r false))) (w.setChan b cap buf false s r false) := by
 obtain ⟨hlow, hat⟩ := hv.blk b _ hb
 refine view_setObj hv hlow ⟨hlow, ?_⟩
 have := (Array.getElem?_eq_some_iff.1 hat).1
 simp [this]
theorem sel_sound {id n : Nat} {ops : Array Oper} {Q : Exit → Env → Hp → Prop} {ρ : Env} {h : Hp} {a : Act} {w : World} {c : SelectCase} {d : Option Tmp} {r : List Oper}
  (hsel : selOf ops.toList = some (c, d, r)) (hq : selV P c ρ h fun v h' => put n ρ d v fun ρ' => vOps P w0 n ops.toList (Q .normal) r ρ' h') (hr : Rep n ρ a) (hv : View w0 h w) :
  wpN P (Code.region id ops false) (conQ n w0 Q) a w := by
 unfold selOf at hsel
 split at hsel
 ·cases hsel
 ·rename_i o rest hops
  split at hsel
  ·rename_i cs hop
   split at hsel
   ·rename_i c' hg hcs
    simp only [Option.some.injEq, Prod.mk.injEq] at hsel
    obtain ⟨rfl, rfl, rfl⟩ := hsel
    have ho : ops[0]? = some o := by rw [← Array.getElem?_toList, hops]; rfl
    have hcs' : cs = #[c'] := by apply Array.ext'; simpa using hcs
    have hn : List.range ops.size = 0 :: List.range' 1 rest.length := by
     rw [List.range_eq_range', ← Array.length_toList, hops]; rfl
    have hw : Region.wanted o (yielded ops a.tmps) = true := by unfold Region.wanted; rw [hg]
    unfold selV at hq
    split at hq
    ·rename_i z b hz hb
     obtain ⟨cap, buf, s, rr, hbk, hq⟩ := hq
     have hat := (hv.blk b _ hbk).2
     have hzr := run_zeroValue_of hz w
     have fin : ∀ {v h' w'}, put n ρ o.dst v (fun ρ' => vOps P w0 n ops.toList (Q .normal) rest ρ' h') → View w0 h' w' →
       (∀ (b : Frame) (k : List Item) (cs : List Frame), b.kind ≠ .early → step P (lone (b.at a (.inRegion ops (0 :: List.range' 1 rest.length) :: k)) cs w) = .next (lone ((b.at a (.inRegion ops (0 :: List.range' 1 rest.length) :: k)).finish v) cs w')) →
       wpN P (Code.region id ops false) (conQ n w0 Q) a w := by
      intro v h' w' hp hv' hs
      refine wpN_first hn (d := o.dst) (by rw [ho]; rfl) hs ?_
      obtain ⟨ρ', hk, hr'⟩ := put_ex hr hp
      exact vOps_wpOps (P := P) (w0 := w0) (n := n) (ops := ops) (Q := Q) rest 1 (fun j => by rw [← Array.getElem?_toList, hops, Nat.add_comm]; rfl) ρ' h' _ _ hr' hv' hk
     split at hq
     ·rename_i x hx
      have hcm : ∀ (b' : Frame) (k : List Item) (cs' : List Frame), b'.kind ≠ .early → stepG P true (G (b'.at a (.inRegion ops (0 :: List.range' 1 rest.length) :: k)) cs') w = .comm (G (b'.at a (.inRegion ops (0 :: List.range' 1 rest.length) :: k)) cs') #[scase b (evalO ρ x) z] false .select w _ :=
       fun b' k cs' hb' => stepG_comm ho hw hb' (by rw [hr.eval]; unfold execOp; rw [hop]; simp [hcs', hzr, hx, hb, scase])
      by_cases hroom : buf.size < cap
      ·exact fin (hq.1 hroom) (view_setChan hv hbk) fun b' k cs' hb' => step_lone_select_send_room (hcm b' k cs' hb') hat hroom
      ·exact fin (hq.2 (by omega)) hv fun b' k cs' hb' => step_lone_select_send_full (hcm b' k cs' hb') hat (by omega)
     ·rename_i hx
      have hcm : ∀ (b' : Frame) (k : List Item) (cs' : List Frame), b'.kind ≠ .early → stepG P true (G (b'.at a (.inRegion ops (0 :: List.range' 1 rest.length) :: k)) cs') w = .comm (G (b'.at a (.inRegion ops (0 :: List.range' 1 rest.length) :: k)) cs') #[rcase b z] false .select w _ :=
       fun b' k cs' hb' => stepG_comm ho hw hb' (by rw [hr.eval]; unfold execOp; rw [hop]; simp [hcs', hzr, hx, hb, rcase])
      by_cases hsome : 0 < buf.size
      ·exact fin (hq.1 hsome) (view_setChan hv hbk) fun b' k cs' hb' => step_lone_select_recv_buf (hcm b' k cs' hb') hat hsome
      ·have he : buf = #[] := by apply Array.eq_empty_of_size_eq_zero; omega
       refine fin (hq.2 he) hv fun b' k cs' hb' => step_lone_select_default (hcm b' k cs' hb') (by rw [hat, he])
    ·exact hq.elim
   ·cases hsel
  ·cases hsel
theorem vc_sound (hmix : P.follows .mixedOrders = true) {ann : Nat → LoopAnn} {rh : Nat → RegHint} {n : Nat} : ∀ (c : Code) (Q : Exit → Env → Hp → Prop) (ρ : Env) (h : Hp) (a : Act) (w : World),
  vc P w0 ann rh n c Q ρ h → Rep n ρ a → View w0 h w → wpN P c (conQ n w0 Q) a w := by
 intro c
 induction c with
 | skip => exact fun Q ρ h a w hq hr hv => toN (wp_skip ⟨ρ, h, hq, hr, hv⟩)
 | label l => exact fun Q ρ h a w hq hr hv => toN (wp_label ⟨ρ, h, hq, hr, hv⟩)
 | exit id => exact fun Q ρ h a w hq hr hv => toN (wp_exit ⟨ρ, h, hq, hr, hv⟩)
 | ret => exact fun Q ρ h a w hq hr hv => toN (wp_ret ⟨ρ, h, hq, hr, hv⟩)
 | goto l => exact fun Q ρ h a w hq => False.elim (by unfold vc at hq; exact hq)
 | refuse s => exact fun Q ρ h a w hq => False.elim (by unfold vc at hq; exact hq)
 | rangeFunc f p x y => exact fun Q ρ h a w hq => False.elim (by unfold vc at hq; exact hq)
 | region id ops draw =>
  intro Q ρ h a w hq hr hv
  unfold vc at hq
  cases draw with
  | false =>
   dsimp only at hq
   split at hq
   ·refine toN (wp_region ?_)
    have := vOps_wpOps (P := P) (w0 := w0) (n := n) (ops := ops) (Q := Q) ops.toList 0 (fun j => by simp) ρ h a w hr hv hq
    rw [List.range_eq_range', ← Array.length_toList]
    exact this
   ·rename_i c d r hsel
    exact sel_sound hsel hq hr hv
  | true =>
   dsimp only at hq
   split at hq
   ·rename_i hc
    simp only [regChk, Bool.and_eq_true] at hc
    obtain ⟨⟨⟨⟨hsel, hall⟩, hlen⟩, hbf⟩, hord⟩ := hc
    have key : ∀ hk : Hp, vDraw P w0 n ops.toList (rh id).kp (rh id).st hk (Q .normal) (rh id).order ρ h → wpN P (Code.region id ops true) (conQ n w0 Q) a w := by
     intro hk hq
     refine toN (wp_region_any hmix (anyS_wpAny _ _ _ _ (P := P) (cl := clOf P (rh id).xm ops) (kp := ((rh id).kp).testBit) (Keep := KeepH w0 hk) ?_))
     have hv' : View w0 h { w with drawn := w.drawn + 1 } := view_drew hv
     have := vDraw_anyS (xm := (rh id).xm) (P := P) (w0 := w0) (n := n) (ops := ops) (Q := Q) (h0 := hk) (bf := befs ops.toList) (kp := (rh id).kp) (st := (rh id).st) (befOk_of hbf) hsel (rh id).order [] []
      (Array.replicate ops.size false) ρ h a { w with drawn := w.drawn + 1 } hord ?_ ?_ ?_ hr hv' hq |>.1 rfl
     ·rw [Nat.eq_of_beq_eq_true hlen] at this
      exact this
     ·refine ⟨by simp, by simp, fun j hj => ?_⟩
      simp [hj]
     ·intro j hj
      exfalso
      rcases Nat.lt_or_ge j ops.size with h' | h'
      ·simp [h'] at hj
      ·simp [Array.getElem?_eq_none (show (Array.replicate ops.size false).size ≤ j by simpa using h')] at hj
     ·intro j hj
      have := (List.all_eq_true.1 hall) j (List.mem_range.2 hj)
      exact .inr (by simpa using this)
    split at hq
    ·exact key h hq
    ·obtain ⟨hk, _, hq⟩ := hq
     exact key hk hq
   ·exact hq.elim
 | seq x y ihx ihy =>
  intro Q ρ h a w hq hr hv
  unfold vc at hq
  refine wpN_seq (wpN_mono (ihx _ ρ h a w hq hr hv) ?_)
  rintro e a' w' ⟨ρ', h', hk, hr', hv'⟩
  cases e with
  | normal => exact ihy Q ρ' h' a' w' hk hr' hv'
  | _ => exact ⟨ρ', h', hk, hr', hv'⟩
 | cond c x y ihx ihy =>
  intro Q ρ h a w hq hr hv
  unfold vc at hq
  split at hq
  ·rename_i t ht
   have hq' := bcase_if hq
   refine wpN_cond (t := t) (by rw [hr.eval]; exact ht) ?_
   cases t
   ·exact ihy Q ρ h a w (by simpa using hq') hr hv
   ·exact ihx Q ρ h a w (by simpa using hq') hr hv
  ·exact hq.elim
 | block id b ih =>
  intro Q ρ h a w hq hr hv
  unfold vc at hq
  refine wpN_block (wpN_mono (ih _ ρ h a w hq hr hv) ?_)
  rintro e a' w' ⟨ρ', h', hk, hr', hv'⟩
  cases e with
  | exit id' =>
   simp only [blockQ] at hk
   simp only [Exit.inBlock]
   by_cases hi : id' = id
   ·subst hi
    rw [Nat.beq_refl] at hk
    rw [if_pos rfl]
    exact ⟨ρ', h', hk, hr', hv'⟩
   ·have : Nat.beq id' id = false := by
     cases hx : Nat.beq id' id
     ·rfl
     ·exact absurd (Nat.eq_of_beq_eq_true hx) hi
    rw [this] at hk
    rw [if_neg hi]
    exact ⟨ρ', h', hk, hr', hv'⟩
  | _ => exact ⟨ρ', h', hk, hr', hv'⟩
 | scope b ih =>
  intro Q ρ h a w hq hr hv
  unfold vc at hq
  refine wpN_scope (wpN_mono (ih _ ρ h a w hq hr hv) ?_)
  rintro e a' w' ⟨ρ', h', hk, hr', hv'⟩
  cases e with
  | goto l => exact hk.elim
  | _ => exact ⟨ρ', h', hk, hr', hv'⟩
 | loop b ih =>
  intro Q ρ h a w hq hr hv
  unfold vc at hq
  split at hq
  ·exact hq.elim
  ·rename_i id hid
   obtain ⟨hinit, hround⟩ := hq
   obtain ⟨x, hx, hI⟩ := (ann id).e.ok ρ _ hinit
   refine wpN_loop (fun m a w => ∃ ρ h x, (ann id).e.enc x ρ = ρ ∧ (ann id).I x h ∧ (ann id).mu x h = m ∧ Rep n ρ a ∧ View w0 h w) (m := (ann id).mu x h) ⟨ρ, h, x, hx, hI, rfl, hr, hv⟩ ?_
   rintro m a w ⟨ρ, h, x, hx, hI, rfl, hr, hv⟩
   have := hround ρ x h hI
   rw [hx] at this
   refine wpN_mono (ih _ ρ h a w this hr hv) ?_
   rintro e a' w' ⟨ρ', h', hk, hr', hv'⟩
   cases e with
   | normal =>
    obtain ⟨x', hx', hI', hlt⟩ := (ann id).e.ok ρ' _ hk
    exact ⟨_, ⟨ρ', h', x', hx', hI', rfl, hr', hv'⟩, hlt⟩
   | _ => exact ⟨ρ', h', hk, hr', hv'⟩
theorem resCell_run {h : Hp} {w : World} (hv : View w0 h w) {t : TypeId} {p : Value} {K : Value → Prop} (hk : resOf.resCell P t p h K) :
  ∃ v a, p = .pointer (some a) ∧ (loadVar t a).run P w = .ok v w ∧ K v := by
 unfold resOf.resCell at hk
 split at hk
 ·rename_i i d a hi hd
  obtain ⟨b, o, rfl, hk⟩ := nilCk_ex hk
  obtain ⟨v, hld, hk⟩ := anyOf_ex hk
  exact ⟨v, _, rfl, ldv_run hd hi hld (fun c hc => view_row hv hc), hk⟩
 ·exact hk.elim
theorem resOf_run {fn : Func} {rs : List ResultVar} (hrs : fn.results.toList = rs) {n : Nat} {ρ : Env} {a : Act} (hr : Rep n ρ a) {h : Hp} {w : World} (hv : View w0 h w) {K : Value → Prop} (hk : resOf P rs ρ h K) :
  ∃ v, (results fn a.tmps).run P w = .ok v w ∧ K v := by
 have hres : fn.results = rs.toArray := by apply Array.ext'; simpa using hrs
 unfold resOf at hk
 have hval : ∀ i, a.tmps[i]?.getD undef = ρ i := fun i => by simpa using hr.val i
 split at hk
 ·exact ⟨_, by simp [results, hres], hk⟩
 ·exact ⟨_, by simp [results, hres, hval], hk⟩
 ·obtain ⟨v, ad, hp, hl, hk⟩ := resCell_run hv hk
  exact ⟨v, by simp [results, hres, hval, hp, asAddr, hl], hk⟩
 ·exact ⟨_, by simp [results, hres, hval], hk⟩
 ·obtain ⟨v, ad, hp, hl, hk⟩ := resCell_run hv hk
  exact ⟨_, by simp [results, hres, hval, hp, asAddr, hl], hk⟩
 ·obtain ⟨v, ad, hp, hl, hk⟩ := resCell_run hv hk
  exact ⟨_, by simp [results, hres, hval, hp, asAddr, hl], hk⟩
 ·obtain ⟨v, ad, hp, hl, hk⟩ := resCell_run hv hk
  obtain ⟨v2, ad2, hp2, hl2, hk⟩ := resCell_run hv hk
  exact ⟨_, by simp [results, hres, hval, hp, hp2, asAddr, hl, hl2], hk⟩
 ·exact ⟨_, by simp [results, hres, hval], hk⟩
 ·obtain ⟨v, ad, hp, hl, hk⟩ := resCell_run hv hk
  exact ⟨_, by simp [results, hres, hval, hp, asAddr, hl], hk⟩
 ·exact hk.elim
theorem callsN {f : FuncId} {fn : Func} {c : Code} {args : Array Value} {w : World} {R : Ending → World → Prop}
  (hf : P.funcs[f]? = some fn) (hb : fn.body = some c)
  (h : wpN P c (bodyPost P fn R) { tmps := args ++ Array.replicate (fn.ntmps - args.size) undef, defers := [] } w) : Calls P f args w R := by
 intro cs
 let b : Frame := { (default : Frame) with fn := f, kind := .normal }
 have henter : Frame.enter P f args .normal = b.at { tmps := args ++ Array.replicate (fn.ntmps - args.size) undef, defers := [] } [.code c] := by
  simp [Frame.enter, Frame.at, hf, hb, b]
 obtain ⟨e, a', w', hq, harr⟩ := h b [] cs (by simp [b])
 rw [← henter] at harr
 cases e with
 | normal =>
  obtain ⟨hd, v, hr, hR⟩ := hq
  exact ⟨.returned v, w', _, hR, Steps.trans harr (.one step_end), rfl, rfl, hd, rfl, fn, hf, hr⟩
 | ret =>
  obtain ⟨hd, v, hr, hR⟩ := hq
  obtain ⟨todo, hs⟩ := harr
  exact ⟨.returned v, w', _, hR, hs, rfl, rfl, hd, rfl, fn, hf, hr⟩
 | panic chain =>
  obtain ⟨hd, hR⟩ := hq
  obtain ⟨todo, hs⟩ := harr
  exact ⟨.panicked chain, w', _, hR, hs, rfl, rfl, hd, fn, hf⟩
 | exit id => exact hq.elim
 | goto l => exact hq.elim
 | outgrown => exact ⟨.outgrown, w', b, hq, harr.resolve_left (by simp [b]), rfl, trivial⟩
theorem Tri.mono {f : FuncId} {args : Array Value} {h : Hp} {Q Q' : Value → Hp → Prop} (ht : Tri P w0 f args h Q) (hq : ∀ r h', Q r h' → Q' r h') : Tri P w0 f args h Q' :=
 fun w hv => (ht w hv).mono fun _ _ ⟨r, h', he, hr, hv'⟩ => ⟨r, h', he, hq r h' hr, hv'⟩
end
end Go.Vw
