/- The dispatcher. -/
import Derived.Test.YtmdidmoffcinjaaGreatVwEvW
namespace Go.Vw.Ev
open Go Go.Vw
abbrev Body := Cl → List AV → AH → (AV → AH → Bool) → Bool
def OkB (P : Program) (w0 : World) (f : Nat) (b : Body) : Prop :=
 ∀ cl, ClOk P w0 cl → ∀ args H K φ hF h vals, b cl args H K = true → RVL φ args vals → RH φ H hF h →
  Tri P w0 f vals.toArray h (fun r h' => ∃ φ' v H', PExt φ φ' ∧ RV φ' v r ∧ RH φ' H' hF h' ∧ K v H' = true)
inductive BT where
 | leaf (f : Nat) (b : Body)
 | node (k : Nat) (l r : BT)
noncomputable def BT.run (t : BT) : Cl → Nat → List AV → AH → (AV → AH → Bool) → Bool :=
 BT.rec (motive := fun _ => Cl → Nat → List AV → AH → (AV → AH → Bool) → Bool)
  (fun f b cl g args H K => okK (Nat.beq f g) (b cl args H K))
  (fun k _ _ il ir cl g args H K => Bool.casesOn (Nat.blt g k) (ir cl g args H K) (il cl g args H K)) t
def BT.ok (P : Program) (w0 : World) : BT → Prop
 | .leaf f b => OkB P w0 f b
 | .node _ l r => l.ok P w0 ∧ r.ok P w0
theorem okl {P : Program} {w0 : World} {f : Nat} {b : Body} (h : OkB P w0 f b) : (BT.leaf f b).ok P w0 := h
theorem okn {P : Program} {w0 : World} {k : Nat} {l r : BT} (h : l.ok P w0) (h' : r.ok P w0) : (BT.node k l r).ok P w0 := ⟨h, h'⟩
theorem BT.run_ok {P : Program} {w0 : World} {cl : Cl} (hcl : ClOk P w0 cl) : ∀ {t : BT}, t.ok P w0 → ClOk P w0 (t.run cl)
 | .leaf f b, h => by
  intro g args H K φ hF hh vals hk ha hr
  obtain ⟨h1, h2⟩ := okK_ex (show okK (Nat.beq f g) (b cl args H K) = true from hk)
  rw [← Nat.eq_of_beq_eq_true h1]
  exact h cl hcl args H K φ hF hh vals h2 ha hr
 | .node k l r, h => by
  intro g args H K φ hF hh vals hk ha hr
  have hk : Bool.casesOn (Nat.blt g k) (r.run cl g args H K) (l.run cl g args H K) = true := hk
  cases hb : Nat.blt g k
  ·rw [hb] at hk
   exact BT.run_ok hcl h.2 g args H K φ hF hh vals hk ha hr
  ·rw [hb] at hk
   exact BT.run_ok hcl h.1 g args H K φ hF hh vals hk ha hr
def noA : LoopA := ⟨Unit, EncA.unit⟩
def noL : Nat → LoopA := fun _ => noA
def noR : Nat → RegHint := fun _ => ⟨.nil, 0, 0, 0, 0⟩
def noJ : Option Nat → Option LoopA := fun _ => none
inductive PK where
 | int (k : IntKind) | bool | str | ptr | slice | map | chan | agg | val
abbrev Raw := List AV → AH → (AV → AH → Bool) → Bool
def PK.Fn : List PK → Type
 | [] => AH → (AV → AH → Bool) → Bool
 | .int _ :: r => Int → PK.Fn r
 | .bool :: r => Bool → PK.Fn r
 | .str :: r => List Nat → PK.Fn r
 | .ptr :: r => AP → PK.Fn r
 | .slice :: r => AP → Nat → ACap → Nat → PK.Fn r
 | .map :: r => Option Pn → PK.Fn r
 | .chan :: r => Option Pn → PK.Fn r
 | .agg :: r => List AS → PK.Fn r
 | .val :: r => AV → PK.Fn r
noncomputable def PK.go : (l : List PK) → PK.Fn l → Raw
 | [], b, args, H, K => endK args (b H K)
 | .int k :: r, b, args, H, K => hd args fun v l => arI v k fun n => PK.go r (b n) l H K
 | .bool :: r, b, args, H, K => hd args fun v l => arB v fun n => PK.go r (b n) l H K
 | .str :: r, b, args, H, K => hd args fun v l => asStr v fun n => PK.go r (b n) l H K
 | .ptr :: r, b, args, H, K => hd args fun v l => asP v fun n => PK.go r (b n) l H K
 | .slice :: r, b, args, H, K => hd args fun v l => asSl v fun p n c z => PK.go r (b p n c z) l H K
 | .map :: r, b, args, H, K => hd args fun v l => arM v fun n => PK.go r (b n) l H K
 | .chan :: r, b, args, H, K => hd args fun v l => arC v fun n => PK.go r (b n) l H K
 | .agg :: r, b, args, H, K => hd args fun v l => asG v fun n => PK.go r (b n) l H K
 | .val :: r, b, args, H, K => hd args fun v l => PK.go r (b v) l H K
noncomputable def PK.run (l : List PK) (b : Cl → PK.Fn l) : Body := fun cl => PK.go l (b cl)
def PK.Eq : (l : List PK) → Raw → PK.Fn l → Prop
 | [], E, b => ∀ H K, E [] H K = b H K
 | .int k :: r, E, b => ∀ n, PK.Eq r (fun t => E (.s (.int k n) :: t)) (b n)
 | .bool :: r, E, b => ∀ n, PK.Eq r (fun t => E (.s (.bool n) :: t)) (b n)
 | .str :: r, E, b => ∀ n, PK.Eq r (fun t => E (.s (.str n) :: t)) (b n)
 | .ptr :: r, E, b => ∀ n, PK.Eq r (fun t => E (.s (.ptr n) :: t)) (b n)
 | .slice :: r, E, b => ∀ p n c z, PK.Eq r (fun t => E (.s (.slice p n c z) :: t)) (b p n c z)
 | .map :: r, E, b => ∀ n, PK.Eq r (fun t => E (.s (.map n) :: t)) (b n)
 | .chan :: r, E, b => ∀ n, PK.Eq r (fun t => E (.s (.chan n) :: t)) (b n)
 | .agg :: r, E, b => ∀ n, PK.Eq r (fun t => E (.agg n :: t)) (b n)
 | .val :: r, E, b => ∀ v, PK.Eq r (fun t => E (v :: t)) (b v)
theorem PK.go_eq : ∀ (l : List PK) (E : Raw) (b : PK.Fn l), PK.Eq l E b → ∀ args H K, PK.go l b args H K = true → E args H K = true
 | [], E, b, h, args, H, K, hk0 => by
  obtain ⟨e, hk⟩ := endK_ex hk0
  subst e; rw [h]; exact hk
 | .int k :: r, E, b, h, args, H, K, hk0 => by
  obtain ⟨v, l, e, hk1⟩ := hd_ex hk0; subst e
  obtain ⟨n, e, hk2⟩ := arI_ex hk1; subst e
  exact PK.go_eq r _ _ (h n) _ _ _ hk2
 | .bool :: r, E, b, h, args, H, K, hk0 => by
  obtain ⟨v, l, e, hk1⟩ := hd_ex hk0; subst e
  obtain ⟨n, e, hk2⟩ := arB_ex hk1; subst e
  exact PK.go_eq r _ _ (h n) _ _ _ hk2
 | .str :: r, E, b, h, args, H, K, hk0 => by
  obtain ⟨v, l, e, hk1⟩ := hd_ex hk0; subst e
  obtain ⟨n, e, hk2⟩ := arStr_ex hk1; subst e
  exact PK.go_eq r _ _ (h n) _ _ _ hk2
 | .ptr :: r, E, b, h, args, H, K, hk0 => by
  obtain ⟨v, l, e, hk1⟩ := hd_ex hk0; subst e
  obtain ⟨n, e, hk2⟩ := arP_ex hk1; subst e
  exact PK.go_eq r _ _ (h n) _ _ _ hk2
 | .slice :: r, E, b, h, args, H, K, hk0 => by
  obtain ⟨v, l, e, hk1⟩ := hd_ex hk0; subst e
  obtain ⟨p, n, c, z, e, hk2⟩ := arSl_ex hk1; subst e
  exact PK.go_eq r _ _ (h p n c z) _ _ _ hk2
 | .map :: r, E, b, h, args, H, K, hk0 => by
  obtain ⟨v, l, e, hk1⟩ := hd_ex hk0; subst e
  obtain ⟨n, e, hk2⟩ := arM_ex hk1; subst e
  exact PK.go_eq r _ _ (h n) _ _ _ hk2
 | .chan :: r, E, b, h, args, H, K, hk0 => by
  obtain ⟨v, l, e, hk1⟩ := hd_ex hk0; subst e
  obtain ⟨n, e, hk2⟩ := arC_ex hk1; subst e
  exact PK.go_eq r _ _ (h n) _ _ _ hk2
 | .agg :: r, E, b, h, args, H, K, hk0 => by
  obtain ⟨v, l, e, hk1⟩ := hd_ex hk0; subst e
  obtain ⟨n, e, hk2⟩ := arG_ex hk1; subst e
  exact PK.go_eq r _ _ (h n) _ _ _ hk2
 | .val :: r, E, b, h, args, H, K, hk0 => by
  obtain ⟨v, l, e, hk1⟩ := hd_ex hk0; subst e
  exact PK.go_eq r _ _ (h v) _ _ _ hk1
theorem okb {P : Program} {w0 : World} (hmix : P.follows .mixedOrders = true) {f : FuncId} {fn : Func} {l : List PK} {b : Cl → PK.Fn l} {ann : Nat → LoopA} {rh : Nat → RegHint} {jn : Option Nat → Option LoopA} {lf : Nat}
  (hf : P.funcs[f]? = some fn) (he : ∀ cl, PK.Eq l (evFn P cl ann rh jn lf fn) (b cl)) : OkB P w0 f (PK.run l b) :=
 fun _ hcl _ _ _ _ _ _ _ hk ha hh => evFn_sound hmix hcl hf (PK.go_eq l _ _ (he _) _ _ _ hk) ha hh
noncomputable def BT.call (t : BT) (n : Nat) : Cl := Nat.rec (motive := fun _ => Cl) (fun _ _ _ _ => false) (fun _ ih => t.run ih) n
theorem BT.call_ok {P : Program} {w0 : World} {t : BT} (h : t.ok P w0) : ∀ n, ClOk P w0 (t.call n)
 | 0 => ClOk.none
 | n + 1 => BT.run_ok (BT.call_ok h n) h
end Go.Vw.Ev
