/- What is true with a continuation is true with one that is true oftener: for every word of the evaluator, for a function's body, for calls. -/
import Derived.Test.YtghmpldiccffaaaGreatVwDed
import Derived.Test.YtghmpldiccffaaaGreatVwKeys
namespace Go.Vw.Ev
open Go Go.Vw
set_option linter.unusedVariables false
set_option maxHeartbeats 4000000

theorem ifA_m {b x y x' y' : Bool} (h1 : x = true → x' = true) (h2 : y = true → y' = true) : ifA b x y = true → ifA b x' y' = true := by
  cases b
  · exact h2
  · exact h1
theorem okK_m {b K K' : Bool} (h : K = true → K' = true) : okK b K = true → okK b K' = true := by
  cases b
  · exact id
  · exact h
theorem both_m {a b a' b' : Bool} (h1 : a = true → a' = true) (h2 : b = true → b' = true) : okK a b = true → okK a' b' = true := by
  cases a with
  | false => intro h; exact Bool.noConfusion (show false = true from h)
  | true => rw [h1 rfl]; exact h2
theorem joinX_m {X : Type} {F F' : X → AH → Bool} {b b' : (X → AH → Bool) → Bool} (h : ∀ x H, F x H = true → F' x H = true) (hb : ∀ J J', (∀ x H, J x H = true → J' x H = true) → b J = true → b' J' = true) : joinX F b = true → joinX F' b' = true := hb F F' h
theorem loopX_m {X : Type} {F F' : (X → AH → Bool) → X → AH → Bool} (h : ∀ s s', (∀ x H, s x H = true → s' x H = true) → ∀ x H, F s x H = true → F' s' x H = true) : ∀ (n : Nat) (x : X) (H : AH), loopX n F x H = true → loopX n F' x H = true := by
  intro n
  induction n with
  | zero => intro x H; exact id
  | succ n ih => exact fun x H => h _ _ ih x H
theorem pR_m {A B : Type} {x : A × B} {f f' : A → B → Bool} (h : ∀ a b, f a b = true → f' a b = true) : pR x f = true → pR x f' = true := h _ _
theorem fN_m {n : Nat} {K K' : Nat → Bool} (h : ∀ x0, K x0 = true → K' x0 = true) : fN n K = true → fN n K' = true := by rw [fN_eq, fN_eq]; exact h _
theorem fI_m {n : Int} {K K' : Int → Bool} (h : ∀ x0, K x0 = true → K' x0 = true) : fI n K = true → fI n K' = true := by rw [fI_eq, fI_eq]; exact h _
theorem fB_m {n : Bool} {K K' : Bool → Bool} (h : ∀ x0, K x0 = true → K' x0 = true) : fB n K = true → fB n K' = true := by rw [fB_eq, fB_eq]; exact h _
theorem fL_m {α : Type} {n : List α} {K K' : List α → Bool} (h : ∀ x0, K x0 = true → K' x0 = true) : fL n K = true → fL n K' = true := by rw [fL_eq, fL_eq]; exact h _
theorem w64_m {n : Int} {K K' : Int → Bool} (h : ∀ x0, K x0 = true → K' x0 = true) : w64 n K = true → w64 n K' = true := by rw [w64_eq, w64_eq]; exact h _
theorem wrapK_m {k : IntKind} {n : Int} {K K' : Int → Bool} (h : ∀ x0, K x0 = true → K' x0 = true) : wrapK k n K = true → wrapK k n K' = true := by rw [wrapK_eq, wrapK_eq]; exact h _
theorem newK_m {H : AH} {b : AB} {K K' : Pn → AH → Bool} (h : ∀ x0 x1, K x0 x1 = true → K' x0 x1 = true) : newK H b K = true → newK H b K' = true := by rw [newK_, newK_]; exact h _ _
theorem wrK_m {H : AH} {a : Pn} {b : Option AB} {K K' : AH → Bool} (h : ∀ x0, K x0 = true → K' x0 = true) : wrK H a b K = true → wrK H a b K' = true := by rw [wrK_eq, wrK_eq]; exact h _
theorem nilK_m {p : AP} {K K' : Pn → Nat → Bool} (h : ∀ x0 x1, K x0 x1 = true → K' x0 x1 = true) : nilK p K = true → nilK p K' = true := by cases p <;> first | exact h _ _ | exact id
theorem natK_m {j : Int} {K K' : Nat → Bool} (h : ∀ x0, K x0 = true → K' x0 = true) : natK j K = true → natK j K' = true := by cases j <;> first | exact h _ | exact id
theorem idxK_m {j : Int} {n : Nat} {K K' : Nat → Bool} (h : ∀ x0, K x0 = true → K' x0 = true) : idxK j n K = true → idxK j n K' = true := by cases j <;> first | exact okK_m (h _) | exact id
theorem asB_m {v : AV} {K K' : Bool → Bool} (h : ∀ x0, K x0 = true → K' x0 = true) : asB v K = true → asB v K' = true := by unfold asB; split <;> first | exact h _ | exact id
theorem asP_m {v : AV} {K K' : AP → Bool} (h : ∀ x0, K x0 = true → K' x0 = true) : asP v K = true → asP v K' = true := by unfold asP; split <;> first | exact h _ | exact id
theorem asStr_m {v : AV} {K K' : List Nat → Bool} (h : ∀ x0, K x0 = true → K' x0 = true) : asStr v K = true → asStr v K' = true := by unfold asStr; split <;> first | exact h _ | exact id
theorem asG_m {v : AV} {K K' : List AS → Bool} (h : ∀ x0, K x0 = true → K' x0 = true) : asG v K = true → asG v K' = true := by unfold asG; split <;> first | exact h _ | exact id
theorem asMp_m {v : AV} {K K' : Pn → Bool} (h : ∀ x0, K x0 = true → K' x0 = true) : asMp v K = true → asMp v K' = true := by unfold asMp; split <;> first | exact h _ | exact id
theorem asC_m {v : AV} {K K' : Pn → Bool} (h : ∀ x0, K x0 = true → K' x0 = true) : asC v K = true → asC v K' = true := by unfold asC; split <;> first | exact h _ | exact id
theorem asT_m {v : AV} {K K' : List AV → Bool} (h : ∀ x0, K x0 = true → K' x0 = true) : asT v K = true → asT v K' = true := by unfold asT; split <;> first | exact h _ | exact id
theorem arM_m {v : AV} {K K' : Option Pn → Bool} (h : ∀ x0, K x0 = true → K' x0 = true) : arM v K = true → arM v K' = true := by unfold arM; split <;> first | exact h _ | exact id
theorem arC_m {v : AV} {K K' : Option Pn → Bool} (h : ∀ x0, K x0 = true → K' x0 = true) : arC v K = true → arC v K' = true := by unfold arC; split <;> first | exact h _ | exact id
theorem asI_m {v : AV} {K K' : IntKind → Int → Bool} (h : ∀ x0 x1, K x0 x1 = true → K' x0 x1 = true) : asI v K = true → asI v K' = true := by unfold asI; split <;> first | exact h _ _ | exact id
theorem asSl_m {v : AV} {K K' : AP → Nat → ACap → Nat → Bool} (h : ∀ x0 x1 x2 x3, K x0 x1 x2 x3 = true → K' x0 x1 x2 x3 = true) : asSl v K = true → asSl v K' = true := by unfold asSl; split <;> first | exact h _ _ _ _ | exact id
theorem arI_m {v : AV} {k : IntKind} {K K' : Int → Bool} (h : ∀ x0, K x0 = true → K' x0 = true) : arI v k K = true → arI v k K' = true := by unfold arI; split <;> first | exact okK_m (h _) | exact id
theorem arB_m {v : AV} {K K' : Bool → Bool} (h : ∀ x0, K x0 = true → K' x0 = true) : arB v K = true → arB v K' = true := by unfold arB; split <;> first | exact fB_m h | exact id
theorem tup0_m {v : AV} {K K' : Bool} (h : K = true → K' = true) : tup0 v K = true → tup0 v K' = true := by unfold tup0; split <;> first | exact h | exact id
theorem tup2_m {v : AV} {K K' : AV → AV → Bool} (h : ∀ x0 x1, K x0 x1 = true → K' x0 x1 = true) : tup2 v K = true → tup2 v K' = true := by unfold tup2; split <;> first | exact h _ _ | exact id
theorem tup3_m {v : AV} {K K' : AV → AV → AV → Bool} (h : ∀ x0 x1 x2, K x0 x1 x2 = true → K' x0 x1 x2 = true) : tup3 v K = true → tup3 v K' = true := by unfold tup3; split <;> first | exact h _ _ _ | exact id
theorem hd_m {l : List AV} {K K' : AV → List AV → Bool} (h : ∀ x0 x1, K x0 x1 = true → K' x0 x1 = true) : hd l K = true → hd l K' = true := by unfold hd; split <;> first | exact h _ _ | exact id
theorem endK_m {l : List AV} {K K' : Bool} (h : K = true → K' = true) : endK l K = true → endK l K' = true := by unfold endK; split <;> first | exact h | exact id
theorem rowK_m {H : AH} {a : Pn} {K K' : List AS → Bool} (h : ∀ x0, K x0 = true → K' x0 = true) : rowK H a K = true → rowK H a K' = true := by unfold rowK; cases H.t.get a with
  | none => exact id
  | some b => cases b <;> first | exact h _ | exact id
theorem rowW_m {H : AH} {a : Pn} {K K' : List AS → Bool} (h : ∀ x0, K x0 = true → K' x0 = true) : rowW H a K = true → rowW H a K' = true := by unfold rowW; cases H.t.get a with
  | none => exact id
  | some b => cases b <;> first | exact h _ | exact id
theorem mapK_m {H : AH} {a : Pn} {K K' : List (Int × AV) → Bool} (h : ∀ x0, K x0 = true → K' x0 = true) : mapK H a K = true → mapK H a K' = true := by unfold mapK; split <;> first | exact h _ | exact id
theorem chanK_m {H : AH} {a : Pn} {K K' : Nat → List (List AS) → Bool} (h : ∀ x0 x1, K x0 x1 = true → K' x0 x1 = true) : chanK H a K = true → chanK H a K' = true := by unfold chanK; split <;> first | exact h _ _ | exact id
theorem getK_m {H : AH} {a : Pn} {K K' : AB → Bool} (h : ∀ x0, K x0 = true → K' x0 = true) : getK H a K = true → getK H a K' = true := by unfold getK; split <;> first | exact h _ | exact id
theorem ldI_m {cs : List AS} {o : Nat} {k : IntKind} {K K' : Int → Bool} (h : ∀ x0, K x0 = true → K' x0 = true) : ldI cs o k K = true → ldI cs o k K' = true := by unfold ldI; cases nth cs o with
  | none => exact id
  | some x => cases x <;> first | exact okK_m (h _) | exact id
theorem ldStr_m {cs : List AS} {o : Nat} {K K' : List Nat → Bool} (h : ∀ x0, K x0 = true → K' x0 = true) : ldStr cs o K = true → ldStr cs o K' = true := by unfold ldStr; split <;> first | exact h _ | exact id
theorem ldP_m {cs : List AS} {o : Nat} {K K' : AP → Bool} (h : ∀ x0, K x0 = true → K' x0 = true) : ldP cs o K = true → ldP cs o K' = true := by unfold ldP; split <;> first | exact h _ | exact id
theorem ldM_m {cs : List AS} {o : Nat} {K K' : Option Pn → Bool} (h : ∀ x0, K x0 = true → K' x0 = true) : ldM cs o K = true → ldM cs o K' = true := by unfold ldM; split <;> first | exact h _ | exact id
theorem ldC_m {cs : List AS} {o : Nat} {K K' : Option Pn → Bool} (h : ∀ x0, K x0 = true → K' x0 = true) : ldC cs o K = true → ldC cs o K' = true := by unfold ldC; split <;> first | exact h _ | exact id
theorem ldB_m {cs : List AS} {o : Nat} {K K' : Bool → Bool} (h : ∀ x0, K x0 = true → K' x0 = true) : ldB cs o K = true → ldB cs o K' = true := by unfold ldB; split <;> first | exact fB_m h | exact id
theorem ldX_m {cs : List AS} {o : Nat} {K K' : AS → Bool} (h : ∀ x0, K x0 = true → K' x0 = true) : ldX cs o K = true → ldX cs o K' = true := by unfold ldX; split <;> first | exact h _ | exact id
theorem ldSl_m {cs : List AS} {o : Nat} {K K' : AP → Nat → ACap → Nat → Bool} (h : ∀ x0 x1 x2 x3, K x0 x1 x2 x3 = true → K' x0 x1 x2 x3 = true) : ldSl cs o K = true → ldSl cs o K' = true := by unfold ldSl; split <;> first | exact h _ _ _ _ | exact id
theorem ldG_m {cs : List AS} {o m : Nat} {K K' : List AS → Bool} (h : ∀ x0, K x0 = true → K' x0 = true) : ldG cs o m K = true → ldG cs o m K' = true := by unfold ldG; refine fL_m fun ys => ?_; split <;> first | exact h _ | exact id
theorem ldN_m {cs : List AS} {o m : Nat} {K K' : List AS → Bool} (h : ∀ x0, K x0 = true → K' x0 = true) : ldN cs o m K = true → ldN cs o m K' = true := by rw [ldN_eq0, ldN_eq0]; unfold ldN0; split <;> first | exact ldG_m h | (split <;> first | exact h _ | exact id)
theorem ldA_m {d : Option TypeDesc} {m : Nat} {cs : List AS} {o : Nat} {K K' : AV → Bool} (h : ∀ x0, K x0 = true → K' x0 = true) : ldA d m cs o K = true → ldA d m cs o K' = true := by
  unfold ldA
  split
  · exact ldI_m fun _ => h _
  · exact ldB_m fun _ => h _
  · exact ldStr_m fun _ => h _
  · exact ldP_m fun _ => h _
  · exact ldSl_m fun _ _ _ _ => h _
  · exact ldM_m fun _ => h _
  · exact ldC_m fun _ => h _
  · exact ldG_m fun _ => h _
  · exact ldG_m fun _ => h _
  · exact ldX_m fun _ => h _
  · exact id
theorem tyA_m {d : Option TypeDesc} {v : AV} {K K' : AV → Bool} (h : ∀ x0, K x0 = true → K' x0 = true) : tyA d v K = true → tyA d v K' = true := by
  unfold tyA
  split
  · exact arI_m fun _ => h _
  · exact arB_m fun _ => h _
  · exact asStr_m fun _ => h _
  · exact asP_m fun _ => h _
  · exact asSl_m fun _ _ _ _ => h _
  · exact arM_m fun _ => h _
  · exact arC_m fun _ => h _
  · exact asG_m fun _ => h _
  · exact asG_m fun _ => h _
  · exact h _
theorem shA_m {P : Program} {ts : List TypeId} {v : AV} {K K' : AV → Bool} (h : ∀ x0, K x0 = true → K' x0 = true) : shA P ts v K = true → shA P ts v K' = true := by
  unfold shA
  split
  · exact tup0_m (h _)
  · exact tyA_m h
  · exact tup2_m fun _ _ => tyA_m fun _ => tyA_m fun _ => h _
  · exact tup3_m fun _ _ _ => tyA_m fun _ => tyA_m fun _ => tyA_m fun _ => h _
  · exact id
theorem evA_m {ρ : AEnv} {x : Operand} {K K' : AV → Bool} (h : ∀ x0, K x0 = true → K' x0 = true) : evA ρ x K = true → evA ρ x K' = true := by unfold evA; split <;> first | exact h _ | exact id | (split <;> first | exact h _ | exact id)
theorem getL_m {l : List AV} {i : Nat} {K K' : AV → Bool} (h : ∀ x0, K x0 = true → K' x0 = true) : getL l i K = true → getL l i K' = true := by unfold getL; split <;> first | exact h _ | exact id
theorem binN_m {op : BinOp} {b : Bool} {K K' : AV → Bool} (h : ∀ x0, K x0 = true → K' x0 = true) : binN op b K = true → binN op b K' = true := by unfold binN; split <;> first | exact fB_m (fun _ => h _) | exact id
theorem binStr_m {op : BinOp} {a b : List Nat} {K K' : AV → Bool} (h : ∀ x0, K x0 = true → K' x0 = true) : binStr op a b K = true → binStr op a b K' = true := by unfold binStr; split <;> first | exact fB_m (fun _ => h _) | exact fL_m (fun _ => okK_m (h _)) | exact id
theorem binI_m {op : BinOp} {k k1 : IntKind} {a b : Int} {K K' : AV → Bool} (h : ∀ x0, K x0 = true → K' x0 = true) : binI op k k1 a b K = true → binI op k k1 a b K' = true := by
  unfold binI
  split
  · exact okK_m (wrapK_m fun _ => h _)
  · exact okK_m (fI_m fun _ => h _)
  · refine okK_m ?_
    split <;> first | exact wrapK_m (fun _ => h _) | exact okK_m (wrapK_m fun _ => h _) | exact okK_m (fI_m fun _ => h _) | exact fB_m (fun _ => h _) | exact id
theorem binA_m {P : Program} {op : BinOp} {t : TypeId} {x y : AV} {K K' : AV → Bool} (h : ∀ x0, K x0 = true → K' x0 = true) : binA P op t x y K = true → binA P op t x y K' = true := by
  unfold binA
  split
  · exact binI_m h
  · exact binStr_m h
  · split <;> first | exact binN_m h | exact id
  · split <;> first | exact binN_m h | exact id
  · split <;> first | exact binN_m h | exact id
  · split <;> first | exact binN_m h | exact id
  · split
    · exact id
    · split
      · exact id
      · exact okK_m (binN_m h)
  · exact id
theorem segsA_m {ps : List (Nat × AV)} : ∀ {i : Nat} {ss : List Nat} {z : List AS} {K K' : List AS → Bool}, (∀ x, K x = true → K' x = true) → segsA ps i ss z K = true → segsA ps i ss z K' = true
  | _, [], _, _, _, h => h _
  | i, s :: r, z, K, K', h => by
    unfold segsA
    split
    · exact segsA_m fun _ => h _
    · split <;> first | exact segsA_m (fun _ => h _) | exact id
    · split <;> first | exact segsA_m (fun _ => h _) | exact id
    · exact id
theorem partsA_m {ρ : AEnv} : ∀ {ps : List (Nat × Operand)} {K K' : List (Nat × AV) → Bool}, (∀ x, K x = true → K' x = true) → partsA ρ ps K = true → partsA ρ ps K' = true
  | [], _, _, h => h _
  | (i, x) :: r, _, _, h => evA_m fun _ => partsA_m fun _ => h _
theorem argsA_m {ρ : AEnv} : ∀ {ps : List Operand} {K K' : List AV → Bool}, (∀ x, K x = true → K' x = true) → argsA ρ ps K = true → argsA ρ ps K' = true
  | [], _, _, h => h _
  | x :: r, _, _, h => evA_m fun _ => argsA_m fun _ => h _
theorem optA_m {ρ : AEnv} {v : Option Operand} {d : Nat} {K K' : Nat → Bool} (h : ∀ x0, K x0 = true → K' x0 = true) : optA ρ v d K = true → optA ρ v d K' = true := by unfold optA; split <;> first | exact h _ | exact evA_m (fun _ => asI_m fun _ _ => natK_m h)
theorem slcA_m {p : AP} {n : Nat} {c : ACap} {z l k : Nat} {K K' : AP → Nat → ACap → Nat → Bool} (h : ∀ x0 x1 x2 x3, K x0 x1 x2 x3 = true → K' x0 x1 x2 x3 = true) : slcA p n c z l k K = true → slcA p n c z l k K' = true := by
  rw [slcA_eq0, slcA_eq0]
  unfold slcA0
  split
  · exact id
  · split
    · exact h _ _ _ _
    · exact id
    · refine fN_m fun m => ?_
      split
      · split
        · exact h _ _ _ _
        · exact fN_m fun _ => fN_m fun _ => h _ _ _ _
      · refine fN_m fun _ => fN_m fun _ => ?_
        split
        · split <;> exact h _ _ _ _
        · exact h _ _ _ _
theorem pEv_m {P : Program} {H : AH} {ρ : AEnv} {op : Op} {K K' : AV → Bool} (h : ∀ x, K x = true → K' x = true) : pEv P H ρ op K = true → pEv P H ρ op K' = true := by
  unfold pEv
  repeat' (first
    | exact id | exact h _ | exact fB_m (fun _ => h _) | exact wrapK_m (fun _ => h _) | exact fN_m (fun _ => h _) | exact fI_m (fun _ => h _) | exact binA_m h | exact ldA_m h | exact getL_m h | exact slcA_m (fun _ _ _ _ => h _) | exact evA_m h
    | refine ifA_m (evA_m h) (evA_m h)
    | refine evA_m fun _ => ?_ | refine asB_m fun _ => ?_ | refine asP_m fun _ => ?_ | refine asI_m fun _ _ => ?_ | refine asSl_m fun _ _ _ _ => ?_ | refine asG_m fun _ => ?_ | refine asStr_m fun _ => ?_ | refine asT_m fun _ => ?_ | refine nilK_m fun _ _ => ?_
    | refine idxK_m fun _ => ?_ | refine natK_m fun _ => ?_ | refine fN_m fun _ => ?_ | refine fL_m fun _ => ?_ | refine okK_m ?_ | refine partsA_m fun _ => ?_ | refine segsA_m fun _ => ?_ | refine argsA_m fun _ => ?_ | refine optA_m fun _ => ?_ | refine rowK_m fun _ => ?_ | split)
theorem lkZ_m {es : List (Int × AV)} {k : Int} {z : AV} {K K' : AV → Bool → Bool} (h : ∀ x0 x1, K x0 x1 = true → K' x0 x1 = true) : lkZ es k z K = true → lkZ es k z K' = true := by rw [lkZ_eq0, lkZ_eq0]; unfold lkZ0; split <;> exact h _ _
theorem stK_m {S : Option Kept} {H : AH} {a : Pn} {K K' : Bool} (h : K = true → K' = true) : stK S H a K = true → stK S H a K' = true := by unfold stK; split <;> first | exact h | exact okK_m h
theorem ofK_m {S : Option Kept} {H : AH} {a : Pn} {K K' : Bool} (h : K = true → K' = true) : ofK S H a K = true → ofK S H a K' = true := by unfold ofK; split <;> first | exact h | exact okK_m h
theorem ofKL_m {S : Option Kept} {H : AH} {a : Pn} {K K' : Bool} (h : K = true → K' = true) : ofKL S H a K = true → ofKL S H a K' = true := by unfold ofKL; split <;> first | exact h | exact okK_m (rowW_m fun _ => h)
theorem ofKP_m {S : Option Kept} {H : AH} {p : AP} {K K' : Bool} (h : K = true → K' = true) : ofKP S H p K = true → ofKP S H p K' = true := by unfold ofKP; split <;> first | exact h | (split <;> first | exact h | exact ofKL_m h)
theorem rEv_m {P : Program} {S : Option Kept} {ρ : AEnv} {op : Op} {H : AH} {K K' : AV → Bool} (h : ∀ x, K x = true → K' x = true) : rEv P S ρ op H K = true → rEv P S ρ op H K' = true := by
  unfold rEv
  repeat' (first
    | exact id | exact h _ | exact fN_m (fun _ => h _) | exact ldA_m h
    | refine evA_m fun _ => ?_ | refine asP_m fun _ => ?_ | refine asI_m fun _ _ => ?_ | refine asMp_m fun _ => ?_ | refine nilK_m fun _ _ => ?_
    | refine stK_m ?_ | refine rowK_m fun _ => ?_ | refine mapK_m fun _ => ?_ | refine okK_m ?_ | refine lkZ_m fun _ _ => ?_ | refine tyA_m fun _ => ?_ | split)
theorem updK_m : ∀ {cs : List AS} {n : Nat} {u : AS} {K K' : List AS → Bool}, (∀ x, K x = true → K' x = true) → updK cs n u K = true → updK cs n u K' = true
  | [], _, _, _, _, _ => id
  | a :: t, 0, u, K, K', h => h _
  | a :: t, n + 1, u, K, K', h => updK_m (cs := t) (n := n) (u := u) fun _ => h _
theorem sto1_m {H : AH} {a : Pn} {o : Nat} {u : AS} {K K' : AH → Bool} (h : ∀ x0, K x0 = true → K' x0 = true) : sto1 H a o u K = true → sto1 H a o u K' = true := by unfold sto1; exact rowW_m fun _ => updK_m fun _ => wrK_m h
theorem stoN_m {H : AH} {a : Pn} {o m : Nat} {us : List AS} {K K' : AH → Bool} (h : ∀ x0, K x0 = true → K' x0 = true) : stoN H a o m us K = true → stoN H a o m us K' = true := by unfold stoN; exact rowW_m fun _ => okK_m (fL_m fun _ => wrK_m h)
theorem stoV_m {H : AH} {a : Pn} {o m : Nat} {v : AV} {K K' : AH → Bool} (h : ∀ x0, K x0 = true → K' x0 = true) : stoV H a o m v K = true → stoV H a o m v K' = true := by unfold stoV; split <;> first | exact stoN_m h | exact id | (split <;> first | exact sto1_m h | exact id)
theorem elK_m {H : AH} {p : AP} {n size : Nat} {K K' : List AS → Bool} (h : ∀ x0, K x0 = true → K' x0 = true) : elK H p n size K = true → elK H p n size K' = true := by
  rw [elK_eq0, elK_eq0]
  unfold elK0
  split
  · exact okK_m (h _)
  · exact rowK_m fun _ => ldN_m h
  · exact okK_m (rowK_m fun _ => okK_m (h _))
theorem appA_m {H : AH} {p : AP} {n z size bytes : Nat} {ys : List AS} {m : Nat} {c : ACap} {K K' : AP → Nat → ACap → Nat → AH → Bool} (h : ∀ x0 x1 x2 x3 x4, K x0 x1 x2 x3 x4 = true → K' x0 x1 x2 x3 x4 = true) : appA H p n z size bytes ys m c K = true → appA H p n z size bytes ys m c K' = true := by
  rw [appA_eq0, appA_eq0]
  unfold appA0
  refine fN_m fun nm => okK_m ?_
  split
  · exact h _ _ _ _ _
  · split
    · exact newK_m fun _ _ => h _ _ _ _ _
    · exact okK_m (rowW_m fun _ => ldN_m fun _ => fL_m fun _ => wrK_m fun _ => newK_m fun _ _ => h _ _ _ _ _)
    · exact okK_m (rowW_m fun _ => okK_m (wrK_m fun _ => newK_m fun _ _ => h _ _ _ _ _))
theorem clrA_m {S : Option Kept} {H : AH} {p : AP} {n : Nat} {z : List AS} {K K' : AH → Bool} (h : ∀ x0, K x0 = true → K' x0 = true) : clrA S H p n z K = true → clrA S H p n z K' = true := by
  rw [clrA_eq0, clrA_eq0]
  unfold clrA0
  split
  · exact h _
  · exact okK_m (nilK_m fun _ _ => ofK_m (stoN_m h))
/-- Calls that go along. -/
def MonoC (cl : Cl) : Prop := ∀ f args H K K', (∀ v H', K v H' = true → K' v H' = true) → cl f args H K = true → cl f args H K' = true
theorem callV_m {P : Program} {cl : Cl} (hcl : MonoC cl) {S : Option Kept} {f : AV} {args : List AV} {H : AH} {K K' : AV → AH → Bool} (h : ∀ v H', K v H' = true → K' v H' = true) : callV P cl S f args H K = true → callV P cl S f args H K' = true := by
  unfold callV
  split
  · split
    · exact id
    · refine hcl _ _ _ _ _ fun r H' => ?_
      split
      · exact shA_m fun _ => h _ _
      · exact okK_m (shA_m fun _ => h _ _)
  · exact id
theorem xEv_m {P : Program} {cl : Cl} (hcl : MonoC cl) {S : Option Kept} {ρ : AEnv} {op : Op} {H : AH} {K K' : AV → AH → Bool} (h : ∀ v H', K v H' = true → K' v H' = true) : xEv P cl S ρ op H K = true → xEv P cl S ρ op H K' = true := by
  unfold xEv
  repeat' (first
    | exact id | exact h _ _ | exact newK_m (fun _ _ => h _ _) | exact stoV_m (fun _ => h _ _) | exact callV_m hcl h | exact appA_m (fun _ _ _ _ _ => h _ _) | exact clrA_m (fun _ => h _ _) | exact wrK_m (fun _ => h _ _)
    | refine evA_m fun _ => ?_ | refine asP_m fun _ => ?_ | refine asI_m fun _ _ => ?_ | refine asMp_m fun _ => ?_ | refine asC_m fun _ => ?_ | refine asSl_m fun _ _ _ _ => ?_ | refine nilK_m fun _ _ => ?_ | refine natK_m fun _ => ?_
    | refine ofK_m ?_ | refine ofKP_m ?_ | refine mapK_m fun _ => ?_ | refine chanK_m fun _ _ => ?_ | refine okK_m ?_ | refine fL_m fun _ => ?_ | refine elK_m fun _ => ?_ | refine argsA_m fun _ => ?_ | refine partsA_m fun _ => ?_ | refine segsA_m fun _ => ?_ | split)
theorem sndK_m {H : AH} {a : Pn} {cs : List AS} {K K' : AV → AH → Bool} (h : ∀ v H', K v H' = true → K' v H' = true) : sndK H a cs K = true → sndK H a cs K' = true := by
  unfold sndK
  exact chanK_m fun _ _ => ifA_m (fL_m fun _ => wrK_m fun _ => h _ _) (h _ _)
theorem rcvK_m {H : AH} {a : Pn} {z : List AS} {K K' : AV → AH → Bool} (h : ∀ v H', K v H' = true → K' v H' = true) : rcvK H a z K = true → rcvK H a z K' = true := by
  unfold rcvK
  refine chanK_m fun cap xs => ?_
  cases xs with
  | nil => exact h _ _
  | cons x r => exact wrK_m fun _ => h _ _
theorem selA_m {P : Program} {c : SelectCase} {ρ : AEnv} {H : AH} {K K' : AV → AH → Bool} (h : ∀ v H', K v H' = true → K' v H' = true) : selA P c ρ H K = true → selA P c ρ H K' = true := by
  unfold selA
  repeat' (first | exact id | exact sndK_m h | exact rcvK_m h | refine evA_m fun _ => ?_ | refine asC_m fun _ => ?_ | refine asG_m fun _ => ?_ | split)
theorem putA_m {n : Nat} {ρ : AEnv} {d : Option Tmp} {v : AV} {K K' : AEnv → Bool} (h : ∀ x, K x = true → K' x = true) : putA n ρ d v K = true → putA n ρ d v K' = true := by
  unfold putA
  repeat' (first | exact id | exact h _ | split)
theorem splitA_m {s : Bool} {v : AV} {K K' : AV → Bool} (h : ∀ x, K x = true → K' x = true) : splitA s v K = true → splitA s v K' = true := by
  unfold splitA
  repeat' (first | exact id | exact h _ | exact ifA_m (h _) (h _) | split)
theorem guardA_m {all : List Oper} {ρ : AEnv} {o : Oper} {s g s' g' : Bool} (hs : s = true → s' = true) (hg : g = true → g' = true) : guardA all ρ o s g = true → guardA all ρ o s' g' = true := by
  unfold guardA
  repeat' (first | exact id | exact hs | exact hg | exact ifA_m hg hs | exact ifA_m hs hg | split)
theorem stepA_m {P : Program} {cl : Cl} (hcl : MonoC cl) {n : Nat} {all : List Oper} {st sx : Option Kept} {o : Oper} {K K' : AEnv → AH → Bool} (h : ∀ x H, K x H = true → K' x H = true) {ρ : AEnv} {H : AH} : stepA P cl n all st sx o K ρ H = true → stepA P cl n all st sx o K' ρ H = true := by
  unfold stepA
  refine guardA_m (putA_m fun _ => h _ _) ?_
  split
  · exact pEv_m fun _ => splitA_m fun _ => putA_m fun _ => h _ _
  · exact rEv_m fun _ => splitA_m fun _ => putA_m fun _ => h _ _
  · exact xEv_m hcl fun _ _ => splitA_m fun _ => putA_m fun _ => h _ _
theorem opsA_m {P : Program} {cl : Cl} (hcl : MonoC cl) {n : Nat} {all : List Oper} {K K' : AEnv → AH → Bool} (h : ∀ x H, K x H = true → K' x H = true) : ∀ (l : List Oper) (ρ : AEnv) (H : AH), opsA P cl n all K l ρ H = true → opsA P cl n all K' l ρ H = true
  | [], _, _ => h _ _
  | _ :: r, _, _ => stepA_m hcl fun _ _ => opsA_m hcl h r _ _
theorem drawA_m {P : Program} {cl : Cl} (hcl : MonoC cl) {n : Nat} {all : List Oper} {kp st : Nat} {S : Kept} {K K' : AEnv → AH → Bool} (h : ∀ x H, K x H = true → K' x H = true) : ∀ (t : Ordr) (ρ : AEnv) (H : AH), drawA P cl n all kp st S K t ρ H = true → drawA P cl n all kp st S K' t ρ H = true
  | .nil, _, _ => h _ _
  | .both x y, _, _ => both_m (drawA_m hcl h x _ _) (drawA_m hcl h y _ _)
  | .op i r, _, _ => by
    unfold drawA
    split
    · exact id
    · exact stepA_m hcl fun _ _ => drawA_m hcl h r _ _
theorem blkA_m {ρ : AEnv} {op : Op} {K K' : Pn → Bool} (h : ∀ x, K x = true → K' x = true) : blkA ρ op K = true → blkA ρ op K' = true := by
  unfold blkA
  repeat' (first | exact id | exact asMp_m h | exact nilK_m (fun _ _ => h _) | refine evA_m fun _ => ?_ | refine asP_m fun _ => ?_ | split)
theorem preA_m {P : Program} {n : Nat} {all : List Oper} {st : Nat} {H : AH} {K K' : AEnv → Kept → Bool} (h : ∀ x S, K x S = true → K' x S = true) : ∀ (l : List Nat) (ρ : AEnv) (S : Kept), preA P n all st H K l ρ S = true → preA P n all st H K' l ρ S = true
  | [], _, _ => h _ _
  | i :: r, _, _ => by
    unfold preA
    split
    · exact id
    · refine guardA_m (putA_m fun _ => preA_m h r _ _) ?_
      split
      · exact pEv_m fun _ => splitA_m fun _ => putA_m fun _ => preA_m h r _ _
      · split
        · exact blkA_m fun _ => getK_m fun _ => rEv_m fun _ => splitA_m fun _ => putA_m fun _ => preA_m h r _ _
        · exact rEv_m fun _ => splitA_m fun _ => putA_m fun _ => preA_m h r _ _
      · exact id
theorem thenA_m {n n' : AEnv → AH → Bool} {Q Q' : Exit → AEnv → AH → Bool} (hn : ∀ ρ H, n ρ H = true → n' ρ H = true) (hQ : ∀ e ρ H, Q e ρ H = true → Q' e ρ H = true) (e : Exit) (ρ : AEnv) (H : AH) : thenA n Q e ρ H = true → thenA n' Q' e ρ H = true := by
  unfold thenA
  split
  · exact hn _ _
  · exact hQ _ _ _
theorem blockA_m {id' : Nat} {Q Q' : Exit → AEnv → AH → Bool} (hQ : ∀ e ρ H, Q e ρ H = true → Q' e ρ H = true) (e : Exit) (ρ : AEnv) (H : AH) : blockA id' Q e ρ H = true → blockA id' Q' e ρ H = true := by
  unfold blockA
  repeat' (first | exact hQ _ _ _ | split)
theorem scopeA_m {Q Q' : Exit → AEnv → AH → Bool} (hQ : ∀ e ρ H, Q e ρ H = true → Q' e ρ H = true) (e : Exit) (ρ : AEnv) (H : AH) : scopeA Q e ρ H = true → scopeA Q' e ρ H = true := by
  unfold scopeA
  split
  · exact id
  · exact hQ _ _ _
theorem evC_m {P : Program} {cl : Cl} (hcl : MonoC cl) {ann : Nat → LoopA} {rh : Nat → RegHint} {jn : Option Nat → Option LoopA} {lf n : Nat} :
    ∀ (c : Code) (Q Q' : Exit → AEnv → AH → Bool), (∀ e ρ H, Q e ρ H = true → Q' e ρ H = true) → ∀ (ρ : AEnv) (H : AH), evC P cl ann rh jn lf n c Q ρ H = true → evC P cl ann rh jn lf n c Q' ρ H = true := by
  intro c
  induction c with
  | skip => intro Q Q' h ρ H; unfold evC; exact h _ _ _
  | label _ => intro Q Q' h ρ H; unfold evC; exact h _ _ _
  | exit _ => intro Q Q' h ρ H; unfold evC; exact h _ _ _
  | ret => intro Q Q' h ρ H; unfold evC; exact h _ _ _
  | region id ops draw =>
    intro Q Q' h ρ H
    unfold evC
    split
    · split
      · exact opsA_m hcl (h _) _ _ _
      · exact selA_m fun _ _ => putA_m fun _ => opsA_m hcl (h _) _ _ _
    · split
      · split
        · exact drawA_m hcl (h _) _ _ _
        · split
          · exact fun h => h
          · exact preA_m (fun _ _ => drawA_m hcl (h _) _ _ _) _ _ _
      · exact fun h => h
  | seq a b iha ihb =>
    intro Q Q' h ρ H
    unfold evC
    split
    · exact iha _ _ (thenA_m (ihb _ _ h) h) _ _
    · rename_i A _
      refine joinX_m (fun x H => ihb _ _ h _ _) fun J J' hJ => iha _ _ (thenA_m (fun ρ H => A.e.mo _ _ _ fun _ => hJ _ _) h) _ _
  | cond c a b iha ihb => intro Q Q' h ρ H; unfold evC; exact evA_m fun _ => asB_m fun _ => ifA_m (iha _ _ h _ _) (ihb _ _ h _ _)
  | block id b ih => intro Q Q' h ρ H; unfold evC; exact ih _ _ (blockA_m h) _ _
  | scope b ih => intro Q Q' h ρ H; unfold evC; exact ih _ _ (scopeA_m h) _ _
  | loop b ih =>
    intro Q Q' h ρ H
    unfold evC
    split
    · exact fun h => h
    · refine (ann _).e.mo _ _ _ fun x => loopX_m (fun s s' hs x H => ih _ _ (thenA_m (fun ρ H => (ann _).e.mo _ _ _ fun _ => hs _ _) h) _ _) _ _ _
  | _ => intro Q Q' h ρ H; unfold evC; exact fun h => h
theorem cellA_m {P : Program} {t : TypeId} {v : AV} {H : AH} {K K' : AV → Bool} (h : ∀ x, K x = true → K' x = true) : cellA P t v H K = true → cellA P t v H K' = true := by
  unfold cellA
  split
  · exact asP_m fun _ => nilK_m fun _ _ => rowK_m fun _ => ldA_m h
  · exact id
theorem resA_m {P : Program} {rs : List ResultVar} {ρ : AEnv} {H : AH} {K K' : AV → Bool} (h : ∀ x, K x = true → K' x = true) : resA P rs ρ H K = true → resA P rs ρ H K' = true := by
  unfold resA
  split <;> first | exact h _ | exact cellA_m h | exact cellA_m (fun _ => h _) | exact cellA_m (fun _ => cellA_m fun _ => h _) | exact id
theorem retA_m {P : Program} {rs : List ResultVar} {K K' : AV → AH → Bool} (h : ∀ x H, K x H = true → K' x H = true) (e : Exit) (ρ : AEnv) (H : AH) : retA P rs K e ρ H = true → retA P rs K' e ρ H = true := by
  unfold retA
  split <;> first | exact resA_m (fun _ => h _ _) | exact id
theorem evFn_m {P : Program} {cl : Cl} (hcl : MonoC cl) {ann : Nat → LoopA} {rh : Nat → RegHint} {jn : Option Nat → Option LoopA} {lf : Nat} {fn : Func} {args : List AV} {H : AH}
    {K K' : AV → AH → Bool} (h : ∀ x H, K x H = true → K' x H = true) : evFn P cl ann rh jn lf fn args H K = true → evFn P cl ann rh jn lf fn args H K' = true := by
  unfold evFn
  split
  · exact id
  · exact okK_m (evC_m hcl _ _ _ (retA_m h) _ _)
/-- A body that goes along. -/
def MonoB (b : Body) : Prop := ∀ cl, MonoC cl → ∀ args H K K', (∀ v H', K v H' = true → K' v H' = true) → b cl args H K = true → b cl args H K' = true
theorem PK.go_m : ∀ (l : List PK) (E : Raw) (b : PK.Fn l), PK.Eq l E b → (∀ args H K K', (∀ v H', K v H' = true → K' v H' = true) → E args H K = true → E args H K' = true) →
    ∀ args H K K', (∀ v H', K v H' = true → K' v H' = true) → PK.go l b args H K = true → PK.go l b args H K' = true
  | [], E, b, h, hE, args, H, K, K', hk => by
    refine endK_m ?_
    rw [← h, ← h]
    exact hE _ _ _ _ hk
  | .int k :: r, E, b, h, hE, args, H, K, K', hk => hd_m fun v l => arI_m fun n => PK.go_m r _ _ (h n) (fun t => hE _) _ _ _ _ hk
  | .bool :: r, E, b, h, hE, args, H, K, K', hk => hd_m fun v l => arB_m fun n => PK.go_m r _ _ (h n) (fun t => hE _) _ _ _ _ hk
  | .str :: r, E, b, h, hE, args, H, K, K', hk => hd_m fun v l => asStr_m fun n => PK.go_m r _ _ (h n) (fun t => hE _) _ _ _ _ hk
  | .ptr :: r, E, b, h, hE, args, H, K, K', hk => hd_m fun v l => asP_m fun n => PK.go_m r _ _ (h n) (fun t => hE _) _ _ _ _ hk
  | .slice :: r, E, b, h, hE, args, H, K, K', hk => hd_m fun v l => asSl_m fun p n c z => PK.go_m r _ _ (h p n c z) (fun t => hE _) _ _ _ _ hk
  | .map :: r, E, b, h, hE, args, H, K, K', hk => hd_m fun v l => arM_m fun n => PK.go_m r _ _ (h n) (fun t => hE _) _ _ _ _ hk
  | .chan :: r, E, b, h, hE, args, H, K, K', hk => hd_m fun v l => arC_m fun n => PK.go_m r _ _ (h n) (fun t => hE _) _ _ _ _ hk
  | .agg :: r, E, b, h, hE, args, H, K, K', hk => hd_m fun v l => asG_m fun n => PK.go_m r _ _ (h n) (fun t => hE _) _ _ _ _ hk
  | .val :: r, E, b, h, hE, args, H, K, K', hk => hd_m fun v l => PK.go_m r _ _ (h v) (fun t => hE _) _ _ _ _ hk
theorem mob {P : Program} {fn : Func} {l : List PK} {b : Cl → PK.Fn l} {ann : Nat → LoopA} {rh : Nat → RegHint} {jn : Option Nat → Option LoopA} {lf : Nat}
    (he : ∀ cl, PK.Eq l (evFn P cl ann rh jn lf fn) (b cl)) : MonoB (PK.run l b) :=
  fun cl hcl args H K K' hk => PK.go_m l _ _ (he cl) (fun _ _ _ _ h => evFn_m hcl h) args H K K' hk
def BT.mo : BT → Prop
  | .leaf _ b => MonoB b
  | .node _ l r => l.mo ∧ r.mo
theorem mol {f : Nat} {b : Body} (h : MonoB b) : (BT.leaf f b).mo := h
theorem mon {k : Nat} {l r : BT} (h : l.mo) (h' : r.mo) : (BT.node k l r).mo := ⟨h, h'⟩
theorem BT.run_m {cl : Cl} (hcl : MonoC cl) : ∀ {t : BT}, t.mo → MonoC (t.run cl)
  | .leaf f b, h => fun g args H K K' hk => okK_m (h cl hcl args H K K' hk)
  | .node k l r, h => by
    intro g args H K K' hk
    show Bool.casesOn (Nat.blt g k) (r.run cl g args H K) (l.run cl g args H K) = true → Bool.casesOn (Nat.blt g k) (r.run cl g args H K') (l.run cl g args H K') = true
    cases Nat.blt g k
    · exact BT.run_m hcl h.2 g args H K K' hk
    · exact BT.run_m hcl h.1 g args H K K' hk
theorem BT.call_m {t : BT} (h : t.mo) : ∀ n, MonoC (t.call n)
  | 0 => fun _ _ _ _ _ _ h => Bool.noConfusion h
  | n + 1 => BT.run_m (BT.call_m h n) h
theorem mo_known : MonoB knownB := fun _ _ _ _ _ _ hk => endK_m (hk _ _)
theorem mo_keys (g : Nat) : MonoB (keysB g) := by
  intro cl _ args H K K' hk
  unfold keysB
  split
  · exact newK_m fun _ _ => hk _ _
  · exact id
theorem mo_sorted (gs : List Nat) : MonoB (sortedB gs) := by
  intro cl _ args H K K' hk
  unfold sortedB
  split
  · refine okK_m ?_
    split
    · exact hk _ _
    · refine mapK_m fun _ => okK_m (fL_m fun _ => ?_)
      split
      · exact hk _ _
      · exact newK_m fun _ _ => hk _ _
    · exact id
  · exact id
end Go.Vw.Ev
