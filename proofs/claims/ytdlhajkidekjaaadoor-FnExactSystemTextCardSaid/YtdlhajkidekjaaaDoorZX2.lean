/-
  Texts of rules, systems and states: RuleText, SystemText, StateText. No condition.
-/
import Derived.Test.YtdlhajkidekjaaaDoorZX0
import Derived.Test.YtdlhajkidekjaaaDoorZS2d
namespace Go.Proofs.YtdlhajkidekjaaaDoor
open Go.AI Go.RowKit
set_option maxRecDepth 8000
set_option maxHeartbeats 3200000
open Classical in
/-- A text where a condition holds, else the empty one. -/
noncomputable def txQ (p : Prop) (l : List UInt8) : List UInt8 := if p then l else []
theorem txq_t {p : Prop} (h : p) (l : List UInt8) : txQ p l = l := by unfold txQ; rw [if_pos h]
theorem txq_f {p : Prop} (h : ¬p) (l : List UInt8) : txQ p l = [] := by unfold txQ; rw [if_neg h]

end Go.Proofs.YtdlhajkidekjaaaDoor
