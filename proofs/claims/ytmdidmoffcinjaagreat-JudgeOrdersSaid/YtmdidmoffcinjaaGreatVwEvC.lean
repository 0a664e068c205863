/- The evaluator on code and functions: definitions. -/
import Derived.Test.YtmdidmoffcinjaaGreatVwEvY
namespace Go.Vw.Ev
open Go Go.Vw
noncomputable section
structure EncA (X : Type) where
 enc : X → AEnv → AEnv
 dec : AEnv → (X → Bool) → Bool
 ok : ∀ ρ p, dec ρ p = true → ∃ x, p x = true ∧ ∀ base i, enc x base i = base i ∨ enc x base i = ρ i
 mo : ∀ ρ (p q : X → Bool), (∀ x, p x = true → q x = true) → dec ρ p = true → dec ρ q = true
theorem put_or {base ρ : AEnv} {s : Nat} {v : AV} (h : ρ s = v) (i : Nat) : base.put s v i = base i ∨ base.put s v i = ρ i := by
 unfold AEnv.put
 cases hx : Nat.beq i s
 ·exact .inl rfl
 ·rw [Nat.eq_of_beq_eq_true hx, h]
  exact .inr rfl
def EncA.unit : EncA Unit := ⟨fun _ ρ => ρ, fun _ p => p (), fun _ _ h => ⟨(), h, fun _ _ => .inl rfl⟩, fun _ _ _ h => h _⟩
def EncA.int (k : IntKind) (s : Nat) : EncA Int :=
 ⟨fun x ρ => ρ.put s (.s (.int k x)), fun ρ p => match ρ s with | .s (.int k' x) => okK (ikEq k' k) (p x) | _ => false,
  fun ρ p h => by
  split at h
  ·rename_i k' x hv
   obtain ⟨hk, h2⟩ := okK_ex h
   have := ikEq_iff.1 hk
   subst this
   exact ⟨x, h2, fun base i => put_or hv i⟩
  ·exact absurd h (by decide),
  fun ρ p q h => by
  split
  ·rename_i k' x _; cases ikEq k' k <;> first | exact h _ | exact id
  ·exact id⟩
def EncA.bool (s : Nat) : EncA Bool :=
 ⟨fun x ρ => ρ.put s (.s (.bool x)), fun ρ p => match ρ s with | .s (.bool x) => p x | _ => false,
  fun ρ p h => by
  split at h
  ·rename_i x hv; exact ⟨x, h, fun base i => put_or hv i⟩
  ·exact absurd h (by decide),
  fun ρ p q h => by split <;> first | exact h _ | exact id⟩
def EncA.ptr (s : Nat) : EncA AP :=
 ⟨fun x ρ => ρ.put s (.s (.ptr x)), fun ρ p => match ρ s with | .s (.ptr x) => p x | _ => false,
  fun ρ p h => by
  split at h
  ·rename_i x hv; exact ⟨x, h, fun base i => put_or hv i⟩
  ·exact absurd h (by decide),
  fun ρ p q h => by split <;> first | exact h _ | exact id⟩
def EncA.slice (s : Nat) : EncA (AP × Nat × ACap × Nat) :=
 ⟨fun x ρ => ρ.put s (.s (.slice x.1 x.2.1 x.2.2.1 x.2.2.2)), fun ρ p => match ρ s with | .s (.slice a n c z) => p (a, n, c, z) | _ => false,
  fun ρ p h => by
  split at h
  ·rename_i a n c z hv; exact ⟨(a, n, c, z), h, fun base i => put_or hv i⟩
  ·exact absurd h (by decide),
  fun ρ p q h => by split <;> first | exact h _ | exact id⟩
def EncA.agg (s : Nat) : EncA (List AS) :=
 ⟨fun x ρ => ρ.put s (.agg x), fun ρ p => match ρ s with | .agg x => p x | _ => false,
  fun ρ p h => by
  split at h
  ·rename_i x hv; exact ⟨x, h, fun base i => put_or hv i⟩
  ·exact absurd h (by decide),
  fun ρ p q h => by split <;> first | exact h _ | exact id⟩
def EncA.val (s : Nat) : EncA AV := ⟨fun x ρ => ρ.put s x, fun ρ p => p (ρ s), fun ρ _ h => ⟨ρ s, h, fun _ i => put_or rfl i⟩, fun _ _ _ h => h _⟩
def EncA.pair {X Y : Type} (a : EncA X) (b : EncA Y) : EncA (X × Y) :=
 ⟨fun x ρ => a.enc x.1 (b.enc x.2 ρ), fun ρ p => a.dec ρ fun x => b.dec ρ fun y => p (x, y),
  fun ρ p h => by
  obtain ⟨x, h, hx⟩ := a.ok ρ _ h
  obtain ⟨y, h, hy⟩ := b.ok ρ _ h
  refine ⟨(x, y), h, fun base i => ?_⟩
  rcases hx (b.enc y base) i with e | e
  ·show a.enc x (b.enc y base) i = _ ∨ a.enc x (b.enc y base) i = _
   rw [e]
   exact hy base i
  ·exact .inr e,
  fun ρ p q h => a.mo _ _ _ fun _ => b.mo _ _ _ fun _ => h _⟩
structure LoopA where
 X : Type
 e : EncA X
def topE : AEnv := fun _ => .top
def pR {A B : Type} (x : A × B) (f : A → B → Bool) : Bool := Prod.rec (motive := fun _ => Bool) f x
def joinX {X : Type} (F : X → AH → Bool) (body : (X → AH → Bool) → Bool) : Bool := body F
def loopX {X : Type} (n : Nat) (step : (X → AH → Bool) → X → AH → Bool) : X → AH → Bool :=
 Nat.rec (motive := fun _ => X → AH → Bool) (fun _ _ => false) (fun _ ih => step ih) n
def thenA (next : AEnv → AH → Bool) (Q : Exit → AEnv → AH → Bool) (e : Exit) (ρ : AEnv) (h : AH) : Bool :=
 match (motive := Exit → T3) e with
 | .normal => next ρ h
 | e => Q e ρ h
def blockA (id : Nat) (Q : Exit → AEnv → AH → Bool) : Exit → AEnv → AH → Bool
 | .exit id', ρ, h => match Nat.beq id' id with | true => Q .normal ρ h | false => Q (.exit id') ρ h
 | e, ρ, h => Q e ρ h
def scopeA (Q : Exit → AEnv → AH → Bool) (e : Exit) (ρ : AEnv) (h : AH) : Bool :=
 match (motive := Exit → T3) e with
 | .goto _ => false
 | e => Q e ρ h
abbrev Cl := Nat → List AV → AH → (AV → AH → Bool) → Bool
section
variable (P : Program)
def evC (cl : Cl) (ann : Nat → LoopA) (rh : Nat → RegHint) (jn : Option Nat → Option LoopA) (lf n : Nat) : Code → (Exit → AEnv → AH → Bool) → AEnv → AH → Bool
 | .skip, Q, ρ, h => Q .normal ρ h
 | .label _, Q, ρ, h => Q .normal ρ h
 | .exit id, Q, ρ, h => Q (.exit id) ρ h
 | .ret, Q, ρ, h => Q .ret ρ h
 | .region id ops draw, Q, ρ, h =>
  match draw with
  | false => match selOf ops.toList with
   | none => opsA P cl n ops.toList (Q .normal) ops.toList ρ h
   | some (c, d, r) => selA P c ρ h fun v h => putA n ρ d v fun ρ => opsA P cl n ops.toList (Q .normal) r ρ h
  | true => match regChk P ops (rh id) with
   | true => match Nat.beq (rh id).kp 0 && Nat.beq (rh id).st 0 with
    | true => drawA P cl n ops.toList 0 0 [] (Q .normal) (rh id).order ρ h
    | false => match Nat.beq (rh id).kp 0 with
     | true => false
     | false => preA P n ops.toList (rh id).st h (fun ρ S => drawA P cl n ops.toList (rh id).kp (rh id).st S (Q .normal) (Ordr.drop (rh id).np (rh id).order) ρ h) (Ordr.take (rh id).np (rh id).order) ρ []
   | false => false
 | .seq a b, Q, ρ, h =>
  match jn (firstReg b) with
  | none => evC cl ann rh jn lf n a (thenA (evC cl ann rh jn lf n b Q) Q) ρ h
  | some A => joinX (fun x h => evC cl ann rh jn lf n b Q (A.e.enc x topE) h) fun J => evC cl ann rh jn lf n a (thenA (fun ρ h => A.e.dec ρ fun x => J x h) Q) ρ h
 | .cond c a b, Q, ρ, h => evA ρ c fun v => asB v fun t => ifA t (evC cl ann rh jn lf n a Q ρ h) (evC cl ann rh jn lf n b Q ρ h)
 | .block id b, Q, ρ, h => evC cl ann rh jn lf n b (blockA id Q) ρ h
 | .scope b, Q, ρ, h => evC cl ann rh jn lf n b (scopeA Q) ρ h
 | .loop b, Q, ρ, h =>
  match firstReg b with
  | none => false
  | some id => (ann id).e.dec ρ fun x =>
    loopX lf (fun self x h => evC cl ann rh jn lf n b (thenA (fun ρ h => (ann id).e.dec ρ fun x => self x h) Q) ((ann id).e.enc x topE) h) x h
 | _, _, _, _ => false
def cellA (t : TypeId) (v : AV) (H : AH) (K : AV → Bool) : Bool :=
 match P.info? t, P.underlying t with
 | some i, some d => asP v fun p => nilK p fun a o => rowK H a fun cs => ldA (some d) i.size cs o K
 | _, _ => false
def resA (rs : List ResultVar) (ρ : AEnv) (h : AH) (K : AV → Bool) : Bool :=
 match rs with
 | [] => K (.tup [])
 | [.tmp t] => K (ρ t)
 | [.cell a t] => cellA P t (ρ a) h K
 | [.tmp t, .tmp u] => K (.tup [ρ t, ρ u])
 | [.cell a t, .tmp u] => cellA P t (ρ a) h fun v => K (.tup [v, ρ u])
 | [.tmp t, .cell b u] => cellA P u (ρ b) h fun v => K (.tup [ρ t, v])
 | [.cell a t, .cell b u] => cellA P t (ρ a) h fun v => cellA P u (ρ b) h fun x => K (.tup [v, x])
 | [.tmp t, .tmp u, .tmp s] => K (.tup [ρ t, ρ u, ρ s])
 | [.cell a t, .tmp u, .tmp s] => cellA P t (ρ a) h fun v => K (.tup [v, ρ u, ρ s])
 | _ => false
def retA (rs : List ResultVar) (K : AV → AH → Bool) : Exit → AEnv → AH → Bool
 | .normal, ρ, h => resA P rs ρ h fun v => K v h
 | .ret, ρ, h => resA P rs ρ h fun v => K v h
 | _, _, _ => false
def env0A (args : List AV) : AEnv := fun i => match nth args i with | some v => v | none => .undef
def evFn (cl : Cl) (ann : Nat → LoopA) (rh : Nat → RegHint) (jn : Option Nat → Option LoopA) (lf : Nat) (fn : Func) (args : List AV) (h : AH) (K : AV → AH → Bool) : Bool :=
 match fn.body with
 | none => false
 | some c => okK (Nat.ble (ln args) fn.ntmps) (evC P cl ann rh jn lf fn.ntmps c (retA P fn.results.toList K) (env0A args) h)
end
end
end Go.Vw.Ev
