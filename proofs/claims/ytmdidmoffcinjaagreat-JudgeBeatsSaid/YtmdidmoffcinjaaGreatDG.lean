import Derived.Test.YtmdidmoffcinjaaGreatDX
import Derived.Test.YtmdidmoffcinjaaGreatDT
import Derived.Test.YtmdidmoffcinjaaGreatBR
import Derived.Test.YtmdidmoffcinjaaGreatDCopyT
section
/- Regions: rows of cells that a call owns; hands; owners; numbers. -/
namespace Go.Proofs
open Go Go.Vw Go.Vw.Ev
set_option linter.unusedVariables false
set_option linter.unusedSimpArgs false

/-! Rows of like cells. -/
theorem flat_len {α : Type} {f : α → List AS} {sz : Nat} (hf : ∀ a, (f a).length = sz) : ∀ l : List α, (l.flatMap f).length = l.length * sz
  | [] => by simp
  | a :: l => by rw [List.flatMap_cons, List.length_append, hf, flat_len hf l, List.length_cons, Nat.add_mul]; omega
theorem flat_at {α : Type} {f : α → List AS} {sz : Nat} (hf : ∀ a, (f a).length = sz) : ∀ (l : List α) (i : Nat) (h : i < l.length), ((l.flatMap f).drop (i * sz)).take sz = f l[i]
  | a :: l, 0, _ => by
    rw [List.flatMap_cons, Nat.zero_mul, List.drop_zero, ← hf a, List.take_left]; rfl
  | a :: l, i + 1, h => by
    have := flat_at hf l i (by simpa using h)
    rw [List.flatMap_cons, show (i + 1) * sz = (f a).length + i * sz by rw [hf, Nat.add_mul]; omega, ← List.drop_drop, List.drop_left, this]
    rfl
theorem flat_cell {α : Type} {f : α → List AS} {sz : Nat} (hf : ∀ a, (f a).length = sz) {l : List α} {i k : Nat} (h : i < l.length) (hk : k < sz) : (l.flatMap f)[i * sz + k]? = (f l[i])[k]? := by
  rw [← flat_at hf l i h, List.getElem?_take_of_lt hk, List.getElem?_drop]
/-- So many cells that a call owns, at p. -/
def SR (sz : Nat) (H : AH) (p : AP) (n z : Nat) (cs : List AS) : Prop := cs.length = n * sz ∧ ((n = 0 ∧ p = .nil) ∨ ∃ b, p = .at b 0 ∧ z = sz ∧ H.has b ∧ H.get b = some (.row cs))
theorem SR.nil {sz : Nat} {H : AH} {z : Nat} : SR sz H .nil 0 z [] := ⟨by simp, .inl ⟨rfl, rfl⟩⟩
theorem SR.fr {sz : Nat} {F : Pn → Prop} {H H' : AH} {p : AP} {n z : Nat} {cs : List AS} (h : SR sz H p n z cs) (k : Fr F H H') (hf : ∀ a, ownP p a → ¬ F a) : SR sz H' p n z cs :=
  ⟨h.1, h.2.imp (fun h => h) fun ⟨b, e, hz, hb, gb⟩ => ⟨b, e, hz, k.has b hb, (k.get b hb (hf b ⟨0, e⟩)).trans gb⟩⟩
theorem SR.le {sz : Nat} {H H' : AH} {p : AP} {n z : Nat} {cs : List AS} (h : SR sz H p n z cs) (k : Le H H') : SR sz H' p n z cs := h.fr (k.fr fun _ => False) fun _ _ h => h
theorem SR.has {sz : Nat} {H : AH} {p : AP} {n z : Nat} {cs : List AS} (h : SR sz H p n z cs) (a : Pn) (ha : ownP p a) : H.has a := by
  obtain ⟨o, rfl⟩ := ha
  rcases h.2 with ⟨_, e⟩ | ⟨b, e, _, hb, _⟩
  · cases e
  · cases e; exact hb
theorem SR.at {sz : Nat} {H : AH} {p : AP} {n z : Nat} {cs : List AS} (h : SR sz H p n z cs) (hn : 0 < n) : ∃ b, p = .at b 0 ∧ H.has b ∧ H.get b = some (.row cs) := by
  rcases h.2 with ⟨h0, _⟩ | ⟨b, e, _, hb, gb⟩
  · omega
  · exact ⟨b, e, hb, gb⟩
theorem Sl.sr {H0 H : AH} {p : AP} {n z sz : Nat} {cs : List AS} (h : Sl H0 H p n z cs sz) : SR sz H p n z cs := ⟨h.len, h.rep.imp (fun h => h) fun ⟨g, h1, h2, h3, h4, _⟩ => ⟨g, h1, h2, h4, h3⟩⟩
theorem appS_w {sz bytes : Nat} {H : AH} {p : AP} {n z m : Nat} {cs ys : List AS} {c : ACap} {K : AP → Nat → ACap → Nat → AH → Bool} (h : SR sz H p n z cs) (hy : ys.length = m * sz) (hpos : 0 < m) (hb : (n + m) * bytes ≤ 140737488355328) (hb2 : n + m ≤ 140737488355328)
    (hk : ∀ g' H', ¬ H.has g' → Fr (ownP p) H H' → SR sz H' (.at g' 0) (n + m) sz (cs ++ ys) → K (.at g' 0) (n + m) (.of g' 0) sz H' = true) : appA H p n z sz bytes ys m c K = true := by
  rw [appA_eq0]
  unfold appA0
  refine fN_w (okK_w (by rw [Nat.ble_eq_true_of_le hb, Nat.ble_eq_true_of_le hb2]; rfl) ?_)
  have hm0 : Nat.beq m 0 = false := by
    cases h : Nat.beq m 0
    · rfl
    · have := Nat.eq_of_beq_eq_true h; omega
  rw [hm0]
  dsimp only
  have hl : (cs ++ ys).length = (n + m) * sz := by rw [List.length_append, h.1, hy, Nat.add_mul]
  rcases h.2 with ⟨rfl, rfl⟩ | ⟨b, rfl, rfl, hh, hg⟩
  · have h0 : cs = [] := List.length_eq_zero_iff.1 (by rw [h.1]; simp)
    subst h0
    refine newK_w (hk _ _ (not_has_nx H) ((Le.new H _).fr _) ⟨hl, .inr ⟨_, rfl, rfl, has_new_self _ _, ?_⟩⟩)
    rw [get_new]; rfl
  · dsimp only
    refine okK_w (Nat.beq_refl _) ?_
    rw [rowW_row hg]
    refine ldN_w (ys := cs) (by rw [h.1]; omega) (by rw [List.drop_zero, ← h.1, List.take_length]) (fL_w ?_)
    rw [ap_eq, wrK_none]
    refine newK_w (hk _ _ (fun hx => not_has_nx (H.del b) (has_del hx)) ⟨fun a ha => has_new (has_del ha), fun a ha hn => ?_⟩ ⟨hl, .inr ⟨_, rfl, rfl, has_new_self _ _, get_new _ _⟩⟩)
    exact (get_new_has (has_del ha)).trans (get_del_ne fun e => hn ⟨0, by rw [e]⟩)
/-! Hands; owners. -/
def hdC (h : Int × Int) : List AS := [.int .i64 h.1, .int .i64 h.2]
def hdsC (l : List (Int × Int)) : List AS := l.flatMap hdC
theorem hds_n {sz : Nat} {α : Type} {f : α → List AS} (hf : ∀ a, (f a).length = sz) (hsz : 0 < sz) {H : AH} {p : AP} {n z : Nat} {l : List α} (h : SR sz H p n z (l.flatMap f)) : l.length = n := by
  have := h.1
  rw [flat_len hf] at this
  exact Nat.eq_of_mul_eq_mul_right hsz this
/-- A map of owners at g. -/
structure OM (H : AH) (g : Pn) (n : Int) (l : List (Int × Int)) : Prop where
  has : H.has g
  get : H.get g = some (.row (.int .i64 n :: hdsC l))
  len : l.length = 16
theorem OM.fr {F : Pn → Prop} {H H' : AH} {g : Pn} {n : Int} {l : List (Int × Int)} (h : OM H g n l) (k : Fr F H H') (hf : ¬ F g) : OM H' g n l := ⟨k.has g h.has, (k.get g h.has hf).trans h.get, h.len⟩
theorem OM.le {H H' : AH} {g : Pn} {n : Int} {l : List (Int × Int)} (h : OM H g n l) (k : Le H H') : OM H' g n l := h.fr (k.fr fun _ => False) fun h => h
def watB (c : Cm) : Bool := decide (6 ≤ c.kind) && decide (c.kind ≤ 8)
def CWat (cl : Cl) : Prop := ∀ c H K, (∀ H', Le H H' → K (.s (.bool (watB c))) H' = true) → cl i_cmd_Watches [.agg (cmC c)] H K = true
theorem B_cmd_Watches_ {lf : Nat} {cl : Cl} {c : Cm} {H : AH} {K : AV → AH → Bool} (hk : ∀ H', Le H H' → K (.s (.bool (watB c))) H' = true) : B_cmd_Watches lf cl (cmC c) H K = true := by
  unfold B_cmd_Watches
  refine new_w fun g H1 h1 hg ng gg => ?_
  refine rowK_w gg (ldI_w (n := c.kind) rfl ?_)
  have := hk H1 h1
  unfold watB at this
  simp only [fB_eq, iLe_dec, Int.ofNat_eq_natCast]
  refine ifA_w (fun hx => ?_) (fun hx => ?_)
  · refine rowK_w gg (ldI_w (n := c.kind) rfl ?_)
    rw [show decide (6 ≤ c.kind) = true from hx, Bool.true_and] at this
    exact this
  · rw [show decide (6 ≤ c.kind) = false from hx, Bool.false_and] at this
    exact this
structure Wt where
  on : Bool
  ses : Int
  start : Int
  r : Rc
def wtC (w : Wt) : List AS := [.bool w.on, .int .i64 w.ses, .int .i64 w.start, .int .i64 w.r.x0, .int .i64 w.r.y0, .int .i64 w.r.x1, .int .i64 w.r.y1]
def wtsC (l : List Wt) : List AS := l.flatMap wtC
theorem wtC_len (w : Wt) : (wtC w).length = 7 := rfl
def wt0 : Wt := ⟨false, 0, 0, ⟨0, 0, 0, 0⟩⟩
/-- A book of watchers at g. -/
structure BK (H : AH) (g : Pn) (l : List Wt) : Prop where
  has : H.has g
  get : H.get g = some (.row (wtsC l))
  len : l.length = 4
theorem BK.fr {F : Pn → Prop} {H H' : AH} {g : Pn} {l : List Wt} (h : BK H g l) (k : Fr F H H') (hf : ¬ F g) : BK H' g l := ⟨k.has g h.has, (k.get g h.has hf).trans h.get, h.len⟩
def CBkNew (cl : Cl) : Prop := ∀ H K, (∀ H' g, Le H H' → BK H' g (List.replicate 4 wt0) → ¬ H.has g → K (.s (.ptr (.at g 0))) H' = true) → cl i_watch_New [] H K = true
theorem B_watch_New_ {lf : Nat} {cl : Cl} {H : AH} {K : AV → AH → Bool} (hk : ∀ H' g, Le H H' → BK H' g (List.replicate 4 wt0) → ¬ H.has g → K (.s (.ptr (.at g 0))) H' = true) : B_watch_New lf cl H K = true := by
  unfold B_watch_New
  exact new_w fun g H1 h1 hg ng gg => hk _ _ h1 ⟨hg, gg, rfl⟩ ng
end Go.Proofs
end
section
/- A region: what stands in its row; whose a cell is; things' commands. -/
namespace Go.Proofs
open Go Go.Vw Go.Vw.Ev
set_option linter.unusedVariables false
set_option linter.unusedSimpArgs false

/-! The row. -/
def c48 (f : Nat → AS) : List AS := (List.range 48).map f
structure Tkn where
  beat : Int
  srv : Int
  id : Int
  c : Cm
def tkC (t : Tkn) : List AS := .int .i64 t.beat :: .int .i64 t.srv :: .int .i64 t.id :: cmC t.c
theorem tkC_len (t : Tkn) : (tkC t).length = 25 := rfl
structure Nt where
  src : Int
  beat : Int
  moved : List Th
  hands : List (Int × Int)
  given : List Th
  watch : List Cm
structure RgSt where
  id : Int
  n : Int
  beat : Int
  given : Int
  took : Int
  th : List (Int × Th)
  ow : List (Int × Int)
  wat : List Wt
  was : List Th
  watch : List Cm
  hands : List (Int × Int)
  order : List Tkn
  last : Nt
/-- A slice in a row that the row owns. -/
def SF {α : Type} (sz : Nat) (fc : α → List AS) (H : AH) (x : AS) (l : List α) : Prop := ∃ p c z, x = .slice p l.length c z ∧ CapOk c l.length ∧ SR sz H p l.length z (l.flatMap fc)
def ownA (x : AS) (a : Pn) : Prop := match x with
  | .slice p _ _ _ => ownP p a
  | _ => False
theorem SF.fr {α : Type} {sz : Nat} {fc : α → List AS} {F : Pn → Prop} {H H' : AH} {x : AS} {l : List α} (h : SF sz fc H x l) (k : Fr F H H') (hf : ∀ a, ownA x a → ¬ F a) : SF sz fc H' x l := by
  obtain ⟨p, c, z, rfl, hc, sr⟩ := h
  exact ⟨p, c, z, rfl, hc, sr.fr k hf⟩
theorem SF.has {α : Type} {sz : Nat} {fc : α → List AS} {H : AH} {x : AS} {l : List α} (h : SF sz fc H x l) (a : Pn) (ha : ownA x a) : H.has a := by
  obtain ⟨p, c, z, rfl, hc, sr⟩ := h
  exact sr.has a ha
theorem SF.nil {α : Type} {sz : Nat} {fc : α → List AS} {H : AH} {z : Nat} : SF sz fc H (.slice .nil 0 (.lit 0) z) ([] : List α) := ⟨.nil, .lit 0, z, rfl, Nat.le_refl 0, SR.nil⟩
/-- The same, for reading alone. -/
def SW {α : Type} (sz : Nat) (fc : α → List AS) (H : AH) (x : AS) (l : List α) : Prop := ∃ p c z, x = .slice p l.length c z ∧ SR sz H p l.length z (l.flatMap fc)
theorem SW.fr {α : Type} {sz : Nat} {fc : α → List AS} {F : Pn → Prop} {H H' : AH} {x : AS} {l : List α} (h : SW sz fc H x l) (k : Fr F H H') (hf : ∀ a, ownA x a → ¬ F a) : SW sz fc H' x l := by
  obtain ⟨p, c, z, rfl, sr⟩ := h
  exact ⟨p, c, z, rfl, sr.fr k hf⟩
theorem SW.nil {α : Type} {sz : Nat} {fc : α → List AS} {H : AH} {z : Nat} : SW sz fc H (.slice .nil 0 (.lit 0) z) ([] : List α) := ⟨.nil, .lit 0, z, rfl, SR.nil⟩
/-- What a region's row holds: f its cells, Q its blocks by the row's places. -/
structure RB (H : AH) (s : RgSt) (f : Nat → AS) (Q : Nat → Pn → Prop) : Prop where
  i0 : f 0 = .int .i64 s.id
  i1 : f 1 = .int .i64 s.n
  i2 : f 2 = .int .i64 s.beat
  i34 : f 34 = .int .i64 s.given
  i37 : f 37 = .int .i64 s.took
  i39 : f 39 = .int .i64 s.last.src
  i40 : f 40 = .int .i64 s.last.beat
  s4 : SW 11 thC H (f 4) s.was
  s35 : SF 22 cmC H (f 35) s.watch
  s36 : SF 2 hdC H (f 36) s.hands
  s38 : SF 25 tkC H (f 38) s.order
  s41 : SF 11 thC H (f 41) s.last.moved
  s42 : SF 2 hdC H (f 42) s.last.hands
  s43 : SF 11 thC H (f 43) s.last.given
  s44 : SF 22 cmC H (f 44) s.last.watch
  tab : ∃ gt, f 45 = .ptr (.at gt 0) ∧ TT H gt s.th (Q 45)
  own : ∃ go, f 46 = .ptr (.at go 0) ∧ OM H go s.n s.ow ∧ ∀ a, Q 46 a ↔ a = go
  book : ∃ gb, f 47 = .ptr (.at gb 0) ∧ BK H gb s.wat ∧ ∀ a, Q 47 a ↔ a = gb
  q4 : ∀ a, Q 4 a ↔ ownA (f 4) a
  q35 : ∀ a, Q 35 a ↔ ownA (f 35) a
  q36 : ∀ a, Q 36 a ↔ ownA (f 36) a
  q38 : ∀ a, Q 38 a ↔ ownA (f 38) a
  q41 : ∀ a, Q 41 a ↔ ownA (f 41) a
  q42 : ∀ a, Q 42 a ↔ ownA (f 42) a
  q43 : ∀ a, Q 43 a ↔ ownA (f 43) a
  q44 : ∀ a, Q 44 a ↔ ownA (f 44) a
  dis : ∀ i j a, Q i a → Q j a → i = j
  qh : ∀ i a, Q i a → H.has a
  pl : (c48 f).all plain = true
theorem RB.fr {F : Pn → Prop} {H H' : AH} {s : RgSt} {f : Nat → AS} {Q : Nat → Pn → Prop} (r : RB H s f Q) (k : Fr F H H') (hf : ∀ i a, i ≠ 0 → Q i a → ¬ F a) : RB H' s f Q :=
  { r with
    s4 := r.s4.fr k fun a h => hf 4 a (by decide) ((r.q4 a).2 h)
    s35 := r.s35.fr k fun a h => hf 35 a (by decide) ((r.q35 a).2 h)
    s36 := r.s36.fr k fun a h => hf 36 a (by decide) ((r.q36 a).2 h)
    s38 := r.s38.fr k fun a h => hf 38 a (by decide) ((r.q38 a).2 h)
    s41 := r.s41.fr k fun a h => hf 41 a (by decide) ((r.q41 a).2 h)
    s42 := r.s42.fr k fun a h => hf 42 a (by decide) ((r.q42 a).2 h)
    s43 := r.s43.fr k fun a h => hf 43 a (by decide) ((r.q43 a).2 h)
    s44 := r.s44.fr k fun a h => hf 44 a (by decide) ((r.q44 a).2 h)
    tab := r.tab.imp fun gt h => ⟨h.1, h.2.fr k fun a ha => hf 45 a (by decide) ha⟩
    own := r.own.imp fun go h => ⟨h.1, h.2.1.fr k (hf 46 go (by decide) ((h.2.2 go).2 rfl)), h.2.2⟩
    book := r.book.imp fun gb h => ⟨h.1, h.2.1.fr k (hf 47 gb (by decide) ((h.2.2 gb).2 rfl)), h.2.2⟩
    qh := fun i a h => k.has a (r.qh i a h) }
/-- A region at g, its blocks O. -/
def RgS (H : AH) (g : Pn) (s : RgSt) (O : Pn → Prop) : Prop := ∃ f Q, RB H s f Q ∧ H.has g ∧ H.get g = some (.row (c48 f)) ∧ (∀ a, Q 0 a ↔ a = g) ∧ ∀ a, O a ↔ ∃ i, Q i a
theorem RgS.fr {F : Pn → Prop} {H H' : AH} {g : Pn} {s : RgSt} {O : Pn → Prop} (h : RgS H g s O) (k : Fr F H H') (hf : ∀ a, O a → ¬ F a) : RgS H' g s O := by
  obtain ⟨f, Q, r, hg, gg, q0, ho⟩ := h
  exact ⟨f, Q, r.fr k fun i a _ hi => hf a ((ho a).2 ⟨i, hi⟩), k.has g hg, (k.get g hg (hf g ((ho g).2 ⟨0, (q0 g).2 rfl⟩))).trans gg, q0, ho⟩
theorem RgS.le {H H' : AH} {g : Pn} {s : RgSt} {O : Pn → Prop} (h : RgS H g s O) (k : Le H H') : RgS H' g s O := h.fr (k.fr fun _ => False) fun _ _ h => h
theorem RgS.has {H : AH} {g : Pn} {s : RgSt} {O : Pn → Prop} (h : RgS H g s O) (a : Pn) (ha : O a) : H.has a := by
  obtain ⟨f, Q, r, hg, gg, q0, ho⟩ := h
  obtain ⟨i, hi⟩ := (ho a).1 ha
  exact r.qh i a hi
/-- What is not too great. -/
structure Sm (s : RgSt) : Prop where
  th : s.th.length < 9000
  g0 : 0 ≤ s.given
  g1 : s.given ≤ 1000000
  hl : s.hands.length < 10000
  lhl : s.last.hands.length < 10000
  ol : s.order.length ≤ 1000000
  t0 : 0 ≤ s.took
end Go.Proofs
end
section
/- A region: a new one; what is taken; all things, all owners. -/
namespace Go.Proofs
open Go Go.Vw Go.Vw.Ev
set_option linter.unusedVariables false
set_option linter.unusedSimpArgs false

def row0 (id n : Int) (gt go gb : Pn) : List AS := [AS.int .i64 id, AS.int .i64 n, AS.int .i64 (Int.ofNat 0), AS.slice AP.nil 0 (.lit 0) 1, AS.slice AP.nil 0 (.lit 0) 1, AS.slice AP.nil 0 (.lit 0) 1, AS.bool false, AS.int .i64 (Int.ofNat 0), AS.int .i64 (Int.ofNat 0), AS.int .i64 (Int.ofNat 0), AS.int .i64 (Int.ofNat 0), AS.int .i64 (Int.ofNat 0), AS.int .i64 (Int.ofNat 0), AS.bool false, AS.int .i64 (Int.ofNat 0), AS.int .i64 (Int.ofNat 0), AS.int .i64 (Int.ofNat 0), AS.int .i64 (Int.ofNat 0), AS.int .i64 (Int.ofNat 0), AS.int .i64 (Int.ofNat 0), AS.bool false, AS.int .i64 (Int.ofNat 0), AS.int .i64 (Int.ofNat 0), AS.int .i64 (Int.ofNat 0), AS.int .i64 (Int.ofNat 0), AS.int .i64 (Int.ofNat 0), AS.int .i64 (Int.ofNat 0), AS.bool false, AS.int .i64 (Int.ofNat 0), AS.int .i64 (Int.ofNat 0), AS.int .i64 (Int.ofNat 0), AS.int .i64 (Int.ofNat 0), AS.int .i64 (Int.ofNat 0), AS.int .i64 (Int.ofNat 0), AS.int .i64 (Int.ofNat 0), AS.slice AP.nil 0 (.lit 0) 1, AS.slice AP.nil 0 (.lit 0) 1, AS.int .i64 (Int.ofNat 0), AS.slice AP.nil 0 (.lit 0) 1, AS.int .i64 (Int.ofNat 0), AS.int .i64 (Int.ofNat 0), AS.slice AP.nil 0 (.lit 0) 1, AS.slice AP.nil 0 (.lit 0) 1, AS.slice AP.nil 0 (.lit 0) 1, AS.slice AP.nil 0 (.lit 0) 1, AS.ptr (.at gt 0), AS.ptr (.at go 0), AS.ptr (.at gb 0)]
def f0 (id n : Int) (gt go gb : Pn) : Nat → AS := fun i => (row0 id n gt go gb).getD i (.bool false)
end Go.Proofs
end
section
/- Regions: clones; watchers; a cell handed on. -/
namespace Go.Proofs
open Go Go.Vw Go.Vw.Ev
set_option linter.unusedVariables false
set_option linter.unusedSimpArgs false

section
variable {lf : Nat} {cl : Cl} {H : AH} {p : AP} {n z : Nat} {c : ACap} {cs : List AS} {K : AV → AH → Bool}
end
/-! Watchers. -/
def clipR (r : Rc) : Rc := RMeet r ⟨0, 0, 64, 64⟩
def CClip (cl : Cl) : Prop := ∀ r H K, (∀ H', Le H H' → K (.agg (rcC (clipR r))) H' = true) → cl i_watch_Clip [.agg (rcC r)] H K = true
theorem B_watch_Clip_ {lf : Nat} {cl : Cl} (hm : CRcRc i_geom_Meet RMeet cl) {r : Rc} {H : AH} {K : AV → AH → Bool} (hk : ∀ H', Le H H' → K (.agg (rcC (clipR r))) H' = true) : B_watch_Clip lf cl (rcC r) H K = true := by
  unfold B_watch_Clip
  refine new_w fun g1 H1 h1 hg1 ng1 gg1 => ?_
  refine new_w fun gn H2 h2 hh2 n2 g2 => ?_
  refine rowK_w ((h2.get _ hg1).trans gg1) (ldG_we (ys := rcC r) (Nat.le_refl 4) (by decide) rfl ?_)
  refine hm r ⟨0, 0, 64, 64⟩ _ _ fun H3 h3 => ?_
  rw [asG_]
  have g3 := (h3.get _ hh2).trans g2
  refine stoN_we (ds := rcC (clipR r)) g3 rfl (by simp) (by simp [rcC, clipR]) (rowK_w (get_put _ _ _) (ldG_we (ys := rcC (clipR r)) (Nat.le_refl 4) (by decide) rfl ?_))
  exact hk _ (((h1.trans h2).trans h3).put (fun h => n2 (h1.has _ h)) _)
theorem BK.le {H H' : AH} {g : Pn} {l : List Wt} (h : BK H g l) (k : Le H H') : BK H' g l := h.fr (k.fr fun _ => False) fun h => h
noncomputable def bkE (l : List Wt) (c : Cm) : Int :=
  if IsCm c = false ∨ watB c = false then 11 else
  if c.kind = 6 then (if c.session ≤ (l.getD c.client.toNat wt0).ses then 20 else 0) else
  if (l.getD c.client.toNat wt0).on = false ∨ c.session ≠ (l.getD c.client.toNat wt0).ses then 20 else 0
noncomputable def bkL (l : List Wt) (c : Cm) (beat : Int) : List Wt :=
  if bkE l c ≠ 0 then l else
  l.set c.client.toNat (if c.kind = 6 then ⟨true, c.session, beat, clipR c.r⟩ else if c.kind = 7 then { l.getD c.client.toNat wt0 with r := clipR c.r } else { l.getD c.client.toNat wt0 with on := false, r := ⟨0, 0, 0, 0⟩ })
theorem client_lt {c : Cm} (h : IsCm c = true) : 0 ≤ c.client ∧ c.client < 4 := by
  unfold IsCm whoB at h
  simp only [Bool.and_eq_true, decide_eq_true_eq] at h
  exact ⟨h.2.2.1.1, h.2.2.1.2.1⟩
theorem wts_splitA {α : Type} {l : List α} {i : Nat} (h : i < l.length) : l = l.take i ++ l[i] :: l.drop (i + 1) ∧ (l.take i).length = i := ⟨by rw [← List.drop_eq_getElem_cons h, List.take_append_drop], by simp; omega⟩
theorem set_split {α : Type} {A B : List α} {w v : α} {i : Nat} (h : A.length = i) : (A ++ w :: B).set i v = A ++ v :: B := by
  subst h
  rw [List.set_append_right _ _ (Nat.le_refl _), Nat.sub_self]; rfl
theorem flat_put {α : Type} {f : α → List AS} {sz k m : Nat} (hf : ∀ a, (f a).length = sz) {A B : List α} {w v : α} {i : Nat} {us : List AS} (h : A.length = i) (hkm : k + m ≤ sz) (he : (f w).take k ++ (us ++ (f w).drop (k + m)) = f v) :
    ((A ++ w :: B).flatMap f).take (i * sz + k) ++ (us ++ ((A ++ w :: B).flatMap f).drop (i * sz + k + m)) = (A ++ v :: B).flatMap f := by
  have la : (A.flatMap f).length = i * sz := by rw [flat_len hf, h]
  have e : ∀ X : List α, (A ++ X).flatMap f = A.flatMap f ++ X.flatMap f := fun X => List.flatMap_append
  rw [e, e, List.flatMap_cons, List.flatMap_cons, ← la, List.take_length_add_append, Nat.add_assoc, ← List.drop_drop (i := k + m) (j := (A.flatMap f).length), List.drop_left, List.take_append_of_le_length (by rw [hf]; omega), List.drop_append_of_le_length (by rw [hf]; omega), ← he]
  simp
theorem sub_put {α : Type} {f : α → List AS} {sz k m : Nat} (hf : ∀ a, (f a).length = sz) {l : List α} {v : α} {i : Nat} {us : List AS} (hi : i < l.length) (hkm : k + m ≤ sz) (he : (f l[i]).take k ++ (us ++ (f l[i]).drop (k + m)) = f v) :
    (l.flatMap f).take (i * sz + k) ++ (us ++ (l.flatMap f).drop (i * sz + k + m)) = (l.set i v).flatMap f := by
  obtain ⟨e, el⟩ := wts_splitA hi
  have h1 := flat_put (f := f) hf (A := l.take i) (B := l.drop (i + 1)) (w := l[i]) (v := v) el hkm he
  rw [← e] at h1
  rw [h1]
  congr 1
  conv => rhs; rw [e]
  exact (set_split el).symm
/-- A watcher's command. -/
def CBkDo (cl : Cl) : Prop := ∀ H g l c beat K, BK H g l → (∀ H', Fr (fun a => a = g) H H' → BK H' g (bkL l c beat) → K (.s (.int .i64 (bkE l c))) H' = true) → cl i_watch_Book_Do [.s (.ptr (.at g 0)), .agg (cmC c), .s (.int .i64 beat)] H K = true
theorem B_watch_Book_Do_ {lf : Nat} {cl : Cl} (his : CIsCm cl) (hwat : CWat cl) (hclip : CClip cl) {H : AH} {g : Pn} {l : List Wt} {c : Cm} {beat : Int} {K : AV → AH → Bool} (bk : BK H g l)
    (hk : ∀ H', Fr (fun a => a = g) H H' → BK H' g (bkL l c beat) → K (.s (.int .i64 (bkE l c))) H' = true) : B_watch_Book_Do lf cl (.at g 0) (cmC c) beat H K = true := by
  unfold B_watch_Book_Do
  have keep : ∀ {H'} {e : Int}, Le H H' → bkE l c = e → e ≠ 0 → K (.s (.int .i64 e)) H' = true := by
    intro H' e hl he hn
    have := hk H' (hl.fr _) (by unfold bkL; rw [he, if_pos hn]; exact bk.le hl)
    rwa [he] at this
  refine new_w fun gc H1 h1 hgc ngc ggc => ?_
  refine rowK_w ggc (ldG_we (ys := cmC c) (lb rfl) (by decide) rfl ?_)
  refine his _ _ _ fun H2 h2 => arB_w ?_
  have h12 := h1.trans h2
  simp only [fB_eq, iEq_dec, iLe_dec]
  refine ifA_w (fun hx => keep h12 (e := 11) (by unfold bkE; rw [if_pos (.inl (by simpa using hx))]) (by decide)) (fun hx => ?_)
  have hIs : IsCm c = true := by simpa using hx
  have gc2 := (h2.get _ hgc).trans ggc
  have hgc2 := h2.has _ hgc
  refine rowK_w gc2 (ldG_we (ys := cmC c) (lb rfl) (by decide) rfl ?_)
  refine hwat _ _ _ fun H3 h3 => arB_w ?_
  have h13 := h12.trans h3
  refine ifA_w (fun hx => keep h13 (e := 11) (by unfold bkE; rw [if_pos (.inr (by simpa using hx))]) (by decide)) (fun hx => ?_)
  have hW : watB c = true := by simpa using hx
  have gc3 := (h3.get _ hgc2).trans gc2
  have hgc3 := h3.has _ hgc2
  obtain ⟨c0, c4⟩ := client_lt hIs
  have n11 : ¬ (IsCm c = false ∨ watB c = false) := fun h => by rcases h with h | h <;> simp_all
  have hll := bk.len
  have hi : c.client.toNat < l.length := by omega
  have hlen : (wtsC l).length = 28 := by rw [wtsC, flat_len wtC_len, bk.len]
  have hgw : ∀ {x : Wt}, l.getD c.client.toNat wt0 = l[c.client.toNat] := fun {_} => by simp [hi]
  generalize hj : c.client.toNat = j at *
  have gb3 := (h13.get _ bk.has).trans bk.get
  have hgb3 := h13.has _ bk.has
  have hne : g ≠ gc := fun e => ngc (e ▸ bk.has)
  have cell : ∀ k, k < 7 → (wtsC l)[j * 7 + k]? = (wtC l[j])[k]? := fun k hk => flat_cell wtC_len hi hk
  refine rowK_w gc3 (ldI_w (n := c.client) rfl ?_)
  simp only [nilK_at, fN_eq, Nat.add_eq, Nat.mul_eq, Nat.zero_add, Nat.add_zero]
  refine idxK_w c0 (by omega) ?_
  rw [hj]
  have fin : ∀ {H4 : AH} {v : Wt}, Fr (fun a => a = g) H H4 → H4.get g = some (.row ((l.set j v).flatMap wtC)) → bkE l c = 0 → v = (if c.kind = 6 then ⟨true, c.session, beat, clipR c.r⟩ else if c.kind = 7 then { l[j] with r := clipR c.r } else { l[j] with on := false, r := ⟨0, 0, 0, 0⟩ }) → K (.s (.int .i64 (Int.ofNat 0))) H4 = true := by
    intro H4 v f4 g4 e0 ev
    have := hk H4 f4 (by
      unfold bkL
      rw [e0, if_neg (fun h => h rfl), hj, hgw (x := wt0), ← ev]
      exact ⟨f4.has _ bk.has, g4, by rw [List.length_set]; exact bk.len⟩)
    rwa [e0] at this
  have f3 := h13.fr (fun a => a = g)
  refine rowK_w gc3 (ldI_w (n := c.kind) rfl ?_)
  refine ifA_w (fun h6 => ?_) (fun h6 => ?_)
  · have h6 : c.kind = 6 := of_decide_eq_true h6
    refine rowK_w gc3 (ldI_w (n := c.session) rfl ?_)
    refine rowK_w gb3 (ldI_w (n := l[j].ses) (by rw [cell 1 (by decide)]; rfl) ?_)
    refine ifA_w (fun hs => keep h13 (e := 20) (by unfold bkE; rw [if_neg n11, if_pos h6, hj, hgw (x := wt0), if_pos (of_decide_eq_true hs)]) (by decide)) (fun hs => ?_)
    have e0 : bkE l c = 0 := by unfold bkE; rw [if_neg n11, if_pos h6, hj, hgw (x := wt0), if_neg (of_decide_eq_false hs)]
    refine getK_w gc3 (rowK_w gc3 (ldI_w (n := c.session) rfl ?_))
    refine rowK_w gc3 (ldG_we (ys := rcC c.r) (lb rfl) (by decide) rfl ?_)
    refine hclip _ _ _ fun H4 h4 => ?_
    refine okK_w (kSame_row ((h4.get _ hgc3).trans gc3) (leafy_cm c) rfl) ?_
    rw [asG_]
    refine okK_w rfl (fL_w ?_)
    have hput := sub_put (f := wtC) (k := 0) (m := 7) wtC_len (v := ⟨true, c.session, beat, clipR c.r⟩) (us := wtC ⟨true, c.session, beat, clipR c.r⟩) hi (by decide) (by simp [wtC])
    refine stoN_we (ds := (l.set j ⟨true, c.session, beat, clipR c.r⟩).flatMap wtC) ((h4.get _ hgb3).trans gb3) rfl (by rw [hlen]; omega) hput ?_
    exact fin (((h13.trans h4).fr (fun a => a = g)).put (.inl rfl) _) (get_put _ _ _) e0 (by rw [if_pos h6])
  · have h6 : ¬ c.kind = 6 := of_decide_eq_false h6
    refine joinX_w (fun x Hx => Hx = H3 ∧ ∃ b : Bool, x = (.at gc 0, .at g (j * 7), b) ∧ (b = true ↔ (l[j].on = false ∨ c.session ≠ l[j].ses))) ?_ ?_
    · rintro x Hx ⟨rfl, b, rfl, hb⟩
      simp only [pR_, nilK_at, fN_eq, Nat.add_eq, Nat.zero_add, Nat.add_zero]
      refine ifA_w (fun hx => keep h13 (e := 20) (by unfold bkE; rw [if_neg n11, if_neg h6, hj, hgw (x := wt0), if_pos (hb.1 hx)]) (by decide)) (fun hx => ?_)
      have e0 : bkE l c = 0 := by unfold bkE; rw [if_neg n11, if_neg h6, hj, hgw (x := wt0), if_neg (fun h => by have := hb.2 h; rw [hx] at this; cases this)]
      refine rowK_w gc3 (ldI_w (n := c.kind) rfl ?_)
      refine ifA_w (fun h7 => ?_) (fun h7 => ?_)
      · have h7 : c.kind = 7 := of_decide_eq_true h7
        refine rowK_w gc3 (ldG_we (ys := rcC c.r) (lb rfl) (by decide) rfl ?_)
        refine hclip _ _ _ fun H4 h4 => ?_
        rw [asG_]
        have hput := sub_put (f := wtC) (k := 3) (m := 4) wtC_len (v := { l[j] with r := clipR c.r }) (us := rcC (clipR c.r)) hi (by decide) (by simp [wtC, rcC])
        refine stoN_we (ds := (l.set j { l[j] with r := clipR c.r }).flatMap wtC) ((h4.get _ hgb3).trans gb3) rfl (by rw [hlen]; omega) hput ?_
        exact fin (((h13.trans h4).fr (fun a => a = g)).put (.inl rfl) _) (get_put _ _ _) e0 (by rw [if_neg h6, if_pos h7])
      · have h7 : ¬ c.kind = 7 := of_decide_eq_false h7
        refine sto1_w gb3 (by rw [hlen]; omega) ?_
        have hset : (wtsC l).set (j * 7) (.bool false) = ((l.set j { l[j] with on := false }).flatMap wtC) := by
          have hput := sub_put (f := wtC) (k := 0) (m := 1) wtC_len (v := { l[j] with on := false }) (us := [.bool false]) hi (by decide) (by simp [wtC])
          rw [← hput, List.set_eq_take_append_cons_drop, if_pos (by rw [hlen]; omega)]
          simp [wtsC]
        rw [hset]
        have hi2 : j < (l.set j { l[j] with on := false }).length := by rw [List.length_set]; exact hi
        have hput := sub_put (f := wtC) (k := 3) (m := 4) wtC_len (v := { l[j] with on := false, r := ⟨0, 0, 0, 0⟩ }) (us := rcC ⟨0, 0, 0, 0⟩) hi2 (by decide) (by simp [wtC, rcC])
        rw [List.set_set] at hput
        refine stoN_we (ds := (l.set j { l[j] with on := false, r := ⟨0, 0, 0, 0⟩ }).flatMap wtC) (get_put _ _ _) rfl (by rw [flat_len wtC_len, List.length_set]; omega) hput ?_
        exact fin (((h13.fr (fun a => a = g)).put (.inl rfl) _).put (.inl rfl) _) (get_put _ _ _) e0 (by rw [if_neg h6, if_neg h7])
    · intro J hJ
      refine rowK_w gb3 (ldB_w (b := l[j].on) (by have := cell 0 (by decide); rw [Nat.add_zero] at this; rw [this]; rfl) ?_)
      refine ifA_w (fun hx => hJ _ _ ⟨rfl, true, rfl, ⟨fun _ => .inl (by simpa using hx), fun _ => rfl⟩⟩) (fun hx => ?_)
      refine rowK_w gc3 (ldI_w (n := c.session) rfl ?_)
      refine rowK_w gb3 (ldI_w (n := l[j].ses) (by rw [cell 1 (by decide)]; rfl) ?_)
      refine hJ _ _ ⟨rfl, _, rfl, ?_⟩
      have hon : l[j].on = true := by simpa using hx
      rw [hon]
      simp
end Go.Proofs
end
section
/- Regions: what a note must be; a cell handed on. -/
namespace Go.Proofs
open Go Go.Vw Go.Vw.Ev
set_option linter.unusedVariables false
set_option linter.unusedSimpArgs false

end Go.Proofs
end
section
/- Regions: notes, in the order of servers; those that are heard. -/
namespace Go.Proofs
open Go Go.Vw Go.Vw.Ev
set_option linter.unusedVariables false
set_option linter.unusedSimpArgs false

/-! Notes as they stand in a row. -/
structure Rw where
  src : Int
  beat : Int
  m : AS
  h : AS
  g : AS
  w : AS
def rwC (r : Rw) : List AS := [.int .i64 r.src, .int .i64 r.beat, r.m, r.h, r.g, r.w]
structure NOf (H : AH) (r : Rw) (nt : Nt) : Prop where
  src : r.src = nt.src
  beat : r.beat = nt.beat
  m : SF 11 thC H r.m nt.moved
  h : SF 2 hdC H r.h nt.hands
  g : SF 11 thC H r.g nt.given
  w : SF 22 cmC H r.w nt.watch
def ownNt (r : Rw) (a : Pn) : Prop := ownA r.m a ∨ ownA r.h a ∨ ownA r.g a ∨ ownA r.w a
theorem NOf.fr {F : Pn → Prop} {H H' : AH} {r : Rw} {nt : Nt} (n : NOf H r nt) (k : Fr F H H') (hf : ∀ a, ownNt r a → ¬ F a) : NOf H' r nt :=
  ⟨n.src, n.beat, n.m.fr k fun a h => hf a (.inl h), n.h.fr k fun a h => hf a (.inr (.inl h)), n.g.fr k fun a h => hf a (.inr (.inr (.inl h))), n.w.fr k fun a h => hf a (.inr (.inr (.inr h)))⟩
theorem NOf.le {H H' : AH} {r : Rw} {nt : Nt} (n : NOf H r nt) (k : Le H H') : NOf H' r nt := n.fr (k.fr fun _ => False) fun _ _ h => h
theorem NOf.has {H : AH} {r : Rw} {nt : Nt} (n : NOf H r nt) (a : Pn) (h : ownNt r a) : H.has a := by
  rcases h with h | h | h | h
  · exact n.m.has a h
  · exact n.h.has a h
  · exact n.g.has a h
  · exact n.w.has a h
end Go.Proofs
end
section
/- Regions: what a note must be; what is heard; a note's copy; what comes. -/
namespace Go.Proofs
open Go Go.Vw Go.Vw.Ev
set_option linter.unusedVariables false
set_option linter.unusedSimpArgs false

theorem SF.plain {α : Type} {sz : Nat} {fc : α → List AS} {H : AH} {x : AS} {l : List α} (h : SF sz fc H x l) : plain x = true := by
  obtain ⟨p, c, z, rfl, _, sr⟩ := h
  rcases sr.2 with ⟨_, rfl⟩ | ⟨b, rfl, _⟩ <;> rfl
theorem NOf.plain {H : AH} {r : Rw} {nt : Nt} (n : NOf H r nt) : (rwC r).all Go.Vw.Ev.plain = true := by
  simp only [rwC, List.all_cons, List.all_nil, n.m.plain, n.h.plain, n.g.plain, n.w.plain]
  rfl
/-- Lists that are not too long. -/
structure SmN (nt : Nt) : Prop where
  m : nt.moved.length < 1000
  h : nt.hands.length < 1000
  g : nt.given.length < 1000
  w : nt.watch.length < 1000
end Go.Proofs
end
section
/- Regions: what is heard. -/
namespace Go.Proofs
open Go Go.Vw Go.Vw.Ev
set_option linter.unusedVariables false
set_option linter.unusedSimpArgs false

def lastR (f : Nat → AS) (s : RgSt) : Rw := ⟨s.last.src, s.last.beat, f 41, f 42, f 43, f 44⟩
theorem RB.last {H : AH} {s : RgSt} {f : Nat → AS} {Q : Nat → Pn → Prop} (r : RB H s f Q) : NOf H (lastR f s) s.last := ⟨rfl, rfl, r.s41, r.s42, r.s43, r.s44⟩
end Go.Proofs
end
section
/- Regions: what comes. -/
namespace Go.Proofs
open Go Go.Vw Go.Vw.Ev
set_option linter.unusedVariables false
set_option linter.unusedSimpArgs false

theorem SR.el {sz : Nat} {H : AH} {p : AP} {n z : Nat} {cs : List AS} {K : List AS → Bool} (sr : SR sz H p n z cs) (hk : K cs = true) : elK H p n sz K = true := by
  rcases sr.2 with ⟨rfl, rfl⟩ | ⟨b, rfl, _, _, gb⟩
  · have : cs = [] := List.length_eq_zero_iff.1 (by rw [sr.1]; simp)
    subst this
    rw [elK_eq0]
    exact okK_w rfl hk
  · exact elK_w gb (by rw [sr.1]; omega) (by rw [List.drop_zero, ← sr.1, List.take_length]) hk
theorem appT_w {sz bytes : Nat} {H : AH} {p : AP} {n z m : Nat} {cs ys : List AS} {c : ACap} {K : AP → Nat → ACap → Nat → AH → Bool} (h : SR sz H p n z cs) (hc : CapOk c n) (hy : ys.length = m * sz) (hb : (n + m) * bytes ≤ 140737488355328) (hb2 : n + m ≤ 140737488355328)
    (hk : ∀ p' c' z' H', Fr (ownP p) H H' → SR sz H' p' (n + m) z' (cs ++ ys) → CapOk c' (n + m) → (∀ a, ownP p' a → ownP p a ∨ ¬ H.has a) → K p' (n + m) c' z' H' = true) : appA H p n z sz bytes ys m c K = true := by
  rcases Nat.eq_zero_or_pos m with h0 | h0
  · subst h0
    have hy0 : ys = [] := List.length_eq_zero_iff.1 (by rw [hy]; simp)
    subst hy0
    rw [appA_eq0]
    unfold appA0
    refine fN_w (okK_w (by rw [Nat.ble_eq_true_of_le hb, Nat.ble_eq_true_of_le hb2]; rfl) ?_)
    exact hk _ _ _ _ (Fr.refl _ _) (by rw [List.append_nil]; exact h) hc fun a ha => .inl ha
  · exact appS_w h hy h0 hb hb2 fun g' H' ng f sr => hk _ _ _ _ f sr trivial fun a ⟨o, e⟩ => by cases e; exact .inr ng
end Go.Proofs
end
