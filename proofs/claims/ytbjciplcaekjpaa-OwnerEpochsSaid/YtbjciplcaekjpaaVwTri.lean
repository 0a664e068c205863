import Derived.Test.YtbjciplcaekjpaaVwSound
namespace Go.Vw
open Go Go.RowKit
section
variable {P : Program} {w0 : World}

def conQ (n : Nat) (w0 : World) (Q : Exit → Env → Hp → Prop) (e : Exit) (a : Act) (w : World) : Prop := ∃ ρ h, Q e ρ h ∧ Rep n ρ a ∧ View w0 h w

theorem least (p : Nat → Prop) (h : ∃ m, p m) : ∃ m, p m ∧ ∀ k, p k → m ≤ k := by
  obtain ⟨m, hm⟩ := h
  induction m using Nat.strongRecOn with
  | _ m ih =>
    by_cases hx : ∃ k, k < m ∧ p k
    · obtain ⟨k, hk, hpk⟩ := hx
      exact ih k hk hpk
    · exact ⟨m, hm, fun k hk => Nat.le_of_not_lt fun hlt => hx ⟨k, hlt, hk⟩⟩

/-- A loop, by what holds at its head with a number. -/
theorem wp_loop_num {c : Code} {Q : Exit → Act → World → Prop} {a : Act} {w : World} (S : Nat → Act → World → Prop) {m : Nat} (h0 : S m a w)
    (round : ∀ m a w, S m a w → c.wp P (Exit.then (fun a' w' => ∃ m', S m' a' w' ∧ m' < m) Q) a w) : (Code.loop c).wp P Q a w := by
  classical
  let μ : Act → World → Nat := fun a w => if h : ∃ m, S m a w then Classical.choose (least (fun m => S m a w) h) else 0
  have hμ : ∀ a w m, S m a w → S (μ a w) a w ∧ μ a w ≤ m := by
    intro a w m hm
    have hx : ∃ m, S m a w := ⟨m, hm⟩
    have hs := Classical.choose_spec (least (fun m => S m a w) hx)
    simp only [μ, dif_pos hx]
    exact ⟨hs.1, hs.2 m hm⟩
  refine wp_loop (fun a w => ∃ m, S m a w) μ ⟨m, h0⟩ ?_
  rintro a w ⟨m, hm⟩
  obtain ⟨h1, h2⟩ := hμ a w m hm
  refine wp_mono (round _ a w h1) ?_
  intro e a' w' hq
  cases e with
  | normal =>
    obtain ⟨m', hm', hlt⟩ := hq
    exact ⟨⟨m', hm'⟩, Nat.lt_of_le_of_lt (hμ a' w' m' hm').2 hlt⟩
  | _ => exact hq

theorem vc_sound (hmix : P.follows .mixedOrders = true) {ann : Nat → LoopAnn} {rh : Nat → RegHint} {n : Nat} : ∀ (c : Code) (Q : Exit → Env → Hp → Prop) (ρ : Env) (h : Hp) (a : Act) (w : World),
    vc P w0 ann rh n c Q ρ h → Rep n ρ a → View w0 h w → c.wp P (conQ n w0 Q) a w := by
  intro c
  induction c with
  | skip => exact fun Q ρ h a w hq hr hv => wp_skip ⟨ρ, h, hq, hr, hv⟩
  | label l => exact fun Q ρ h a w hq hr hv => wp_label ⟨ρ, h, hq, hr, hv⟩
  | exit id => exact fun Q ρ h a w hq hr hv => wp_exit ⟨ρ, h, hq, hr, hv⟩
  | ret => exact fun Q ρ h a w hq hr hv => wp_ret ⟨ρ, h, hq, hr, hv⟩
  | goto l => exact fun Q ρ h a w hq => False.elim (by unfold vc at hq; exact hq)
  | refuse s => exact fun Q ρ h a w hq => False.elim (by unfold vc at hq; exact hq)
  | rangeFunc f p x y => exact fun Q ρ h a w hq => False.elim (by unfold vc at hq; exact hq)
  | region id ops draw =>
    intro Q ρ h a w hq hr hv
    unfold vc at hq
    cases draw with
    | false =>
      refine wp_region ?_
      have := vOps_wpOps (P := P) (w0 := w0) (n := n) (ops := ops) (Q := Q) ops.toList 0 (fun j => by simp) ρ h a w hr hv hq
      rw [List.range_eq_range', ← Array.length_toList]
      exact this
    | true =>
      dsimp only at hq
      split at hq
      · rename_i hc
        simp only [regChk, Bool.and_eq_true] at hc
        obtain ⟨⟨⟨⟨hsel, hall⟩, hlen⟩, hbf⟩, hord⟩ := hc
        have key : ∀ hk : Hp, vDraw P w0 n ops.toList (rh id).kp (rh id).st hk (Q .normal) (rh id).order ρ h → (Code.region id ops true).wp P (conQ n w0 Q) a w := by
          intro hk hq
          refine wp_region_any hmix (anyS_wpAny _ _ _ _ (P := P) (cl := clOf P ops) (kp := ((rh id).kp).testBit) (Keep := KeepH w0 hk) ?_)
          have hv' : View w0 h { w with drawn := w.drawn + 1 } := view_drew hv
          have := vDraw_anyS (P := P) (w0 := w0) (n := n) (ops := ops) (Q := Q) (h0 := hk) (bf := befs ops.toList) (kp := (rh id).kp) (st := (rh id).st) (befOk_of hbf) hsel (rh id).order []
            (Array.replicate ops.size false) ρ h a { w with drawn := w.drawn + 1 } hord ?_ ?_ ?_ hr hv' hq
          · rw [Nat.eq_of_beq_eq_true hlen] at this
            exact this
          · refine ⟨by simp, by simp, fun j hj => ?_⟩
            simp [hj]
          · intro j hj
            exfalso
            rcases Nat.lt_or_ge j ops.size with h' | h'
            · simp [h'] at hj
            · simp [Array.getElem?_eq_none (show (Array.replicate ops.size false).size ≤ j by simpa using h')] at hj
          · intro j hj
            have := (List.all_eq_true.1 hall) j (List.mem_range.2 hj)
            exact .inr (by simpa using this)
        split at hq
        · exact key h hq
        · obtain ⟨hk, _, hq⟩ := hq
          exact key hk hq
      · exact hq.elim
  | seq x y ihx ihy =>
    intro Q ρ h a w hq hr hv
    unfold vc at hq
    refine wp_seq (wp_mono (ihx _ ρ h a w hq hr hv) ?_)
    rintro e a' w' ⟨ρ', h', hk, hr', hv'⟩
    cases e with
    | normal => exact ihy Q ρ' h' a' w' hk hr' hv'
    | _ => exact ⟨ρ', h', hk, hr', hv'⟩
  | cond c x y ihx ihy =>
    intro Q ρ h a w hq hr hv
    unfold vc at hq
    split at hq
    · rename_i t ht
      have hq' := bcase_if hq
      refine wp_cond (t := t) (by rw [hr.eval]; exact ht) ?_
      cases t
      · exact ihy Q ρ h a w (by simpa using hq') hr hv
      · exact ihx Q ρ h a w (by simpa using hq') hr hv
    · exact hq.elim
  | block id b ih =>
    intro Q ρ h a w hq hr hv
    unfold vc at hq
    refine wp_block (wp_mono (ih _ ρ h a w hq hr hv) ?_)
    rintro e a' w' ⟨ρ', h', hk, hr', hv'⟩
    cases e with
    | exit id' =>
      simp only [blockQ] at hk
      simp only [Exit.inBlock]
      by_cases hi : id' = id
      · subst hi
        rw [Nat.beq_refl] at hk
        rw [if_pos rfl]
        exact ⟨ρ', h', hk, hr', hv'⟩
      · have : Nat.beq id' id = false := by
          cases hx : Nat.beq id' id
          · rfl
          · exact absurd (Nat.eq_of_beq_eq_true hx) hi
        rw [this] at hk
        rw [if_neg hi]
        exact ⟨ρ', h', hk, hr', hv'⟩
    | _ => exact ⟨ρ', h', hk, hr', hv'⟩
  | scope b ih =>
    intro Q ρ h a w hq hr hv
    unfold vc at hq
    refine wp_scope_straight (wp_mono (ih _ ρ h a w hq hr hv) ?_)
    rintro e a' w' ⟨ρ', h', hk, hr', hv'⟩
    cases e with
    | goto l => exact hk.elim
    | _ => exact ⟨ρ', h', hk, hr', hv'⟩
  | loop b ih =>
    intro Q ρ h a w hq hr hv
    unfold vc at hq
    split at hq
    · exact hq.elim
    · rename_i id hid
      obtain ⟨hinit, hround⟩ := hq
      obtain ⟨x, hx, hI⟩ := (ann id).e.ok ρ _ hinit
      refine wp_loop_num (fun m a w => ∃ ρ h x, (ann id).e.enc x ρ = ρ ∧ (ann id).I x h ∧ (ann id).mu x h = m ∧ Rep n ρ a ∧ View w0 h w) (m := (ann id).mu x h) ⟨ρ, h, x, hx, hI, rfl, hr, hv⟩ ?_
      rintro m a w ⟨ρ, h, x, hx, hI, rfl, hr, hv⟩
      have := hround ρ x h hI
      rw [hx] at this
      refine wp_mono (ih _ ρ h a w this hr hv) ?_
      rintro e a' w' ⟨ρ', h', hk, hr', hv'⟩
      cases e with
      | normal =>
        obtain ⟨x', hx', hI', hlt⟩ := (ann id).e.ok ρ' _ hk
        exact ⟨_, ⟨ρ', h', x', hx', hI', rfl, hr', hv'⟩, hlt⟩
      | _ => exact ⟨ρ', h', hk, hr', hv'⟩

theorem resCell_run {h : Hp} {w : World} (hv : View w0 h w) {t : TypeId} {p : Value} {K : Value → Prop} (hk : resOf.resCell P t p h K) :
    ∃ v a, p = .pointer (some a) ∧ (loadVar t a).run P w = .ok v w ∧ K v := by
  unfold resOf.resCell at hk
  split at hk
  · rename_i i d a hi hd
    obtain ⟨b, o, rfl, hk⟩ := nilCk_ex hk
    obtain ⟨v, hld, hk⟩ := anyOf_ex hk
    exact ⟨v, _, rfl, ldv_run hd hi hld (fun c hc => view_row hv hc), hk⟩
  · exact hk.elim

theorem resOf_run {fn : Func} {rs : List ResultVar} (hrs : fn.results.toList = rs) {n : Nat} {ρ : Env} {a : Act} (hr : Rep n ρ a) {h : Hp} {w : World} (hv : View w0 h w) {K : Value → Prop} (hk : resOf P rs ρ h K) :
    ∃ v, (results fn a.tmps).run P w = .ok v w ∧ K v := by
  have hres : fn.results = rs.toArray := by apply Array.ext'; simpa using hrs
  unfold resOf at hk
  have hval : ∀ i, a.tmps[i]?.getD undef = ρ i := fun i => by simpa using hr.val i
  split at hk
  · exact ⟨_, by simp [results, hres], hk⟩
  · exact ⟨_, by simp [results, hres, hval], hk⟩
  · obtain ⟨v, ad, hp, hl, hk⟩ := resCell_run hv hk
    exact ⟨v, by simp [results, hres, hval, hp, asAddr, hl], hk⟩
  · exact ⟨_, by simp [results, hres, hval], hk⟩
  · obtain ⟨v, ad, hp, hl, hk⟩ := resCell_run hv hk
    exact ⟨_, by simp [results, hres, hval, hp, asAddr, hl], hk⟩
  · obtain ⟨v, ad, hp, hl, hk⟩ := resCell_run hv hk
    exact ⟨_, by simp [results, hres, hval, hp, asAddr, hl], hk⟩
  · obtain ⟨v, ad, hp, hl, hk⟩ := resCell_run hv hk
    obtain ⟨v2, ad2, hp2, hl2, hk⟩ := resCell_run hv hk
    exact ⟨_, by simp [results, hres, hval, hp, hp2, asAddr, hl, hl2], hk⟩
  · exact ⟨_, by simp [results, hres, hval], hk⟩
  · obtain ⟨v, ad, hp, hl, hk⟩ := resCell_run hv hk
    exact ⟨_, by simp [results, hres, hval, hp, asAddr, hl], hk⟩
  · exact hk.elim

/-- A function's condition is enough for its call. -/
theorem tri_of_vc (hmix : P.follows .mixedOrders = true) {f : FuncId} {fn : Func} (hf : P.funcs[f]? = some fn) (ann : Nat → LoopAnn) (rh : Nat → RegHint) {args : List Value} (hlen : args.length ≤ fn.ntmps)
    {h : Hp} {Q : Value → Hp → Prop} (hq : vcFn P w0 ann rh fn args h Q) : Tri P w0 f args.toArray h Q := by
  intro w hv
  unfold vcFn at hq
  split at hq
  · exact hq.elim
  · rename_i c hb
    refine calls_of_wp hf hb ?_
    have hrep : Rep fn.ntmps (env0 args) { tmps := args.toArray ++ Array.replicate (fn.ntmps - args.toArray.size) undef, defers := [] } := by
      refine ⟨by simp; omega, fun i => ?_, rfl⟩
      simp only [env0, Array.getD_eq_getD_getElem?, Array.getElem?_append, List.size_toArray, List.getElem?_toArray, List.getD_eq_getElem?_getD]
      by_cases hi : i < args.length
      · rw [if_pos hi]
      · rw [if_neg hi, List.getElem?_eq_none (by omega)]
        by_cases hj : i - args.length < fn.ntmps - args.length
        · simp [hj]
        · rw [Array.getElem?_eq_none (by simp; omega)]
    refine wp_mono (vc_sound hmix c _ (env0 args) h _ w hq hrep hv) ?_
    rintro e a' w' ⟨ρ', h', hk, hr', hv'⟩
    have fin : resOf P fn.results.toList ρ' h' (fun v => Q v h') → a'.defers = [] ∧ ∃ v, (results fn a'.tmps).run P w' = .ok v w' ∧ ∃ r h', Ending.returned v = .returned r ∧ Q r h' ∧ View w0 h' w' := by
      intro hres
      obtain ⟨v, hv1, hq1⟩ := resOf_run rfl hr' hv' hres
      exact ⟨hr'.defers, v, hv1, v, h', rfl, hq1, hv'⟩
    cases e with
    | normal => exact fin hk
    | ret => exact fin hk
    | exit id => exact hk.elim
    | goto l => exact hk.elim
    | panic ch => exact hk.elim
    | outgrown => exact hk.elim

theorem Tri.mono {f : FuncId} {args : Array Value} {h : Hp} {Q Q' : Value → Hp → Prop} (ht : Tri P w0 f args h Q) (hq : ∀ r h', Q r h' → Q' r h') : Tri P w0 f args h Q' :=
  fun w hv => (ht w hv).mono fun _ _ ⟨r, h', he, hr, hv'⟩ => ⟨r, h', he, hq r h' hr, hv'⟩
end
end Go.Vw
