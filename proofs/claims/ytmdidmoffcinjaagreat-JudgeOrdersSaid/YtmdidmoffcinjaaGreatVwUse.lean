/- From an evaluation to a law's walk; what an evaluation over nothing tells of a call over anything. -/
import Derived.Test.YtmdidmoffcinjaaGreatVwRow
namespace Go.Vw.Ev
open Go Go.Vw Go.RowKit
def isT : AV → AH → Bool
 | .s (.bool true), _ => true
 | _, _ => false
theorem isT_ex {v : AV} {H : AH} (h : isT v H = true) : v = .s (.bool true) := by
 unfold isT at h
 split at h
 ·rfl
 ·exact absurd h (by decide)
def φ0 : Phi := fun _ => none
def H0 : AH := ⟨.lf, .o⟩
theorem get0 (a : Pn) : H0.t.get a = none := Tr.get_lf a
theorem RH.empty (h : Hp) : RH φ0 H0 h h where
 blk a b hg := by rw [get0 a] at hg; cases hg
 inj a a' r r' hg := absurd (get0 a) hg
 fresh _ _ := rfl
 frame _ _ hb := hb
 off a r hg := absurd (get0 a) hg
theorem RH.kept {φ : Phi} {H : AH} {hF h h' : Hp} (hh : RH φ H hF h) (hk : ∀ b k, h b = some k → h' b = some k) : RH φ H hF h' :=
 ⟨fun a b hg => by
  obtain ⟨r, h1, k, h2, h3⟩ := hh.blk a b hg
  exact ⟨r, h1, k, hk _ _ h2, h3⟩,
  fun a a' r r' h1 h2 h3 h4 h5 => (hh.inj a a' r r' h1 h2 h3 h4 h5).imp id (fun ⟨c, hc⟩ => ⟨c, hk _ _ hc⟩), hh.fresh, fun b k hb => hk _ _ (hh.frame b k hb), hh.off⟩
section
variable {P : Program}
theorem calls_of_okb {cl : Cl} {f : FuncId} {W : World} {b : Body} (hb : OkB P W f b) (hcl : ClOk P W cl) {avs : List AV} {vals : List Value} {φ : Phi} {H : AH} {h : Hp} (ha : RVL φ avs vals) (hh : RH φ H (fun _ => none) h)
  (hv : View W h W) (ev : b cl avs H isT = true) : Calls P f vals.toArray W fun e W' => e = .returned (.bool true) ∧ Below W.heap.size W W' := by
 have ht := hb cl hcl avs H isT φ (fun _ => none) h vals ev ha hh
 refine (ht W hv).mono ?_
 rintro e W' ⟨r, h', rfl, ⟨φ', v, H', _, hv, _, hk⟩, hvw⟩
 rw [isT_ex hk] at hv
 simp only [RV, RS] at hv
 exact ⟨by rw [hv], hvw.below⟩
noncomputable def knownB : Body := fun _ args H K => endK args (K (.s (.bool true)) H)
theorem okb_known {w0 : World} {cl0 : Cl} {f : FuncId} (hcl : ClOk P w0 cl0) (ev : cl0 f [] H0 isT = true) : OkB P w0 f knownB := by
 intro cl _ args H K φ hF h vals hk ha hh
 obtain ⟨e, hk⟩ := endK_ex hk
 subst e
 simp only [RVL] at ha
 subst ha
 refine (hcl f [] H0 isT φ0 h h [] ev (by simp only [RVL]) (RH.empty h)).mono ?_
 rintro r h' ⟨φ', v, H', _, hv, hh', hi⟩
 rw [isT_ex hi] at hv
 simp only [RV, RS] at hv
 exact ⟨φ, .s (.bool true), H, PExt.refl φ, by simp only [RV, RS]; exact hv, hh.kept hh'.frame, hk⟩
end
end Go.Vw.Ev
