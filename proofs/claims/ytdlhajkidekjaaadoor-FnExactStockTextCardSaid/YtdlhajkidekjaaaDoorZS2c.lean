/-
  Systems: what ValidSystem of the reference and of the program compute. No condition.
-/
import Derived.Test.YtdlhajkidekjaaaDoorZS2b
namespace Go.Proofs.YtdlhajkidekjaaaDoor
open Go.AI
set_option maxRecDepth 8000
set_option maxHeartbeats 1600000

/-- How many of some rules each cell has. -/
def cntR (c : Int) (rs : List Rule) : Int := sumF (fun r => one c r.cell) rs
/-- A system is right. -/
def System.Ok (s : System) : Prop := s.Frame ∧ s.rules.length ≤ 16 ∧ ∀ i (h : i < s.rules.length), s.RuleOk s.rules[i] ∧ cntR s.rules[i].cell (s.rules.take (i + 1)) ≤ 8

end Go.Proofs.YtdlhajkidekjaaaDoor
