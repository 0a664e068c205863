/- maps.Clone of a map with whole numbers for keys. -/
import Derived.Test.YtghmpldiccffaaaGreatVwKeys
import Derived.Test.YtghmpldiccffaaaGreatVwMono
namespace Go.Vw.Ev
open Go Go.Vw
set_option linter.unusedVariables false
noncomputable def cloneB : Body := fun _ args H K =>
  match args with
  | [.s (.map none)] => K (.s (.map none)) H
  | [.s (.map (some a))] => mapK H a fun es => newK H (.imap es) fun b H => K (.s (.map (some b))) H
  | _ => false
theorem mo_clone : MonoB cloneB := by
  intro cl hcl args H K K' hk
  unfold cloneB
  split
  · exact hk _ _
  · exact mapK_m fun _ => newK_m fun _ _ => hk _ _
  · exact id
section
variable {P : Program} {w0 : World}
theorem okb_clone {f : Nat} (hc : ∀ (b : Nat) (es : Array MapEntry) (clock : Nat) (w : World), w.heap[b]? = some (.map es clock) → Calls P f #[.map (some b)] w fun e w' => e = .returned (.map (some w.heap.size)) ∧ w' = w.alloc (.map es clock))
    (hn : ∀ w, Calls P f #[.map none] w fun e w' => e = .returned (.map none) ∧ w' = w) : OkB P w0 f cloneB := by
  intro cl _ args H K φ hF h vals hb ha hh
  unfold cloneB at hb
  split at hb
  · simp only [RVL, RV, RS] at ha
    obtain ⟨V, _, rfl, rfl, rfl⟩ := ha
    intro w hv
    refine (hn w).mono ?_
    rintro e w' ⟨rfl, rfl⟩
    exact ⟨_, h, rfl, ⟨φ, _, H, PExt.refl φ, by simp [RV, RS], hh, hb⟩, hv⟩
  · rename_i a
    simp only [RVL, RV, RS] at ha
    obtain ⟨V, _, rfl, ⟨r, hr, rfl⟩, rfl⟩ := ha
    obtain ⟨es, l, hb, _, hbl, hrel⟩ := mapK_ex hh hr hb
    rw [newK_eq] at hb
    intro w hv
    obtain ⟨hlow, es', clk, hheap, h1, h2, h3, h4⟩ := hv.blk _ _ hbl
    refine (hc r.b es' clk w hheap).mono ?_
    rintro e w' ⟨rfl, rfl⟩
    have hb0 := view_fresh hv
    refine ⟨_, h.set w.heap.size (.imap l), rfl, ⟨φ.put H.nx ⟨w.heap.size, [], 0, 0, 0, []⟩, _, _, hh.ext _, ?_, hh.new (r := ⟨w.heap.size, [], 0, 0, 0, []⟩) (ab := .imap es) hb0 ⟨_, rfl, REL.mono (hh.ext _) hrel⟩, hb⟩, view_alloc hv _ ⟨hv.below.size, es', clk, heap_alloc_new w _, h1, h2, h3, h4⟩⟩
    simp only [RV, RS]
    exact ⟨_, Phi.put_same _ _ _, rfl⟩
  · exact absurd hb (by decide)
end
end Go.Vw.Ev
