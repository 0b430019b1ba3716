/-
  Texts of formulas: CnfText. No condition.
-/
import Derived.Test.YtdlhajkidekjaaaDoorZX0
import Derived.Test.YtdlhajkidekjaaaDoorZS7a
namespace Go.Proofs.YtdlhajkidekjaaaDoor
open Go.AI Go.RowKit
set_option maxRecDepth 8000
set_option maxHeartbeats 1600000
open Classical in
/-- A text where a condition holds, else the empty one. -/
noncomputable def txP (p : Prop) (l : List UInt8) : List UInt8 := if p then l else []
theorem tx_t {p : Prop} (h : p) (l : List UInt8) : txP p l = l := by unfold txP; rw [if_pos h]
theorem tx_f {p : Prop} (h : ¬p) (l : List UInt8) : txP p l = [] := by unfold txP; rw [if_neg h]
end Go.Proofs.YtdlhajkidekjaaaDoor
