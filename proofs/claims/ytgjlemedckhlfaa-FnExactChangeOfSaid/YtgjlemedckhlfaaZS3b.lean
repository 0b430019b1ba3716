/-
  Steps: which rules are applicable, what the reference and the program compute; IsHalted. No condition.
-/
import Derived.Test.YtgjlemedckhlfaaZS3a
namespace Go.Proofs.Ytgjlemedckhlfaa
open Go.AI
set_option maxRecDepth 8000
set_option maxHeartbeats 1600000

open Classical in
/-- The greatest rank among those of some rules that are so and that have a cell. -/
noncomputable def bst (init : Int) (en : Rule → Prop) (c : Int) : List Rule → Int
  | [] => init
  | r :: rs => bst (if en r ∧ r.cell = c then max init r.rank else init) en c rs
/-- A rule is applicable. -/
def App (s : System) (t : State) (r : Rule) : Prop := EnP s t r ∧ ∀ x ∈ s.rules, EnP s t x → x.cell = r.cell → x.rank ≤ r.rank
end Go.Proofs.Ytgjlemedckhlfaa
