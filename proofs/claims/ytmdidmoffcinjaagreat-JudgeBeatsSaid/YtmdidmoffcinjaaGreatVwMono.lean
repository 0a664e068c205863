/- What is true with a continuation is true with one that is true oftener: for every word of the evaluator, for a function's body, for calls. -/
import Derived.Test.YtmdidmoffcinjaaGreatVwDed
import Derived.Test.YtmdidmoffcinjaaGreatVwKeys
namespace Go.Vw.Ev
open Go Go.Vw
set_option linter.unusedVariables false
set_option maxHeartbeats 4000000

/-- Calls that go along. -/
def MonoC (cl : Cl) : Prop := ∀ f args H K K', (∀ v H', K v H' = true → K' v H' = true) → cl f args H K = true → cl f args H K' = true
/-- A body that goes along. -/
def MonoB (b : Body) : Prop := ∀ cl, MonoC cl → ∀ args H K K', (∀ v H', K v H' = true → K' v H' = true) → b cl args H K = true → b cl args H K' = true
def BT.mo : BT → Prop
  | .leaf _ b => MonoB b
  | .node _ l r => l.mo ∧ r.mo
end Go.Vw.Ev
