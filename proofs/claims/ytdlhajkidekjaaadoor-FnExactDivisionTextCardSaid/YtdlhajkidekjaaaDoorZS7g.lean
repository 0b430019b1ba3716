/-
  Colonies: what CountCells and CountObject of the reference and of the program compute. No condition.
-/
import Derived.Test.YtdlhajkidekjaaaDoorZS7f
namespace Go.Proofs.YtdlhajkidekjaaaDoor
open Go.AI
set_option maxRecDepth 8000
set_option maxHeartbeats 1600000



def Division.has (d : Division) (x : Int) : Prop := 0 ≤ x ∧ x ≤ d.objects - 1

open Classical in
noncomputable def cdO (p q r : Prop) : Int := if p then (if q then (if r then 0 else 2) else 2) else 1
end Go.Proofs.YtdlhajkidekjaaaDoor
