/-
  Rules and systems: what ValidRule and ValidSystem of the reference and of the program compute. No condition.
-/
import Derived.Test.YtdlhajkidekjaaaDoorZS2a
namespace Go.Proofs.YtdlhajkidekjaaaDoor
open Go.AI
set_option maxRecDepth 8000
set_option maxHeartbeats 1600000

def System.IntoOk (s : System) (r : Rule) (x : Into) : Prop := (0 ≤ x.cell ∧ x.cell ≤ (s.parents.length : Int) - 1) ∧ Lies s.parents r.cell x.cell ∧ BagK s.kinds x.bag ∧ ¬ tot x.bag = 0
/-- A rule is right for a system. -/
def System.RuleOk (s : System) (r : Rule) : Prop := (0 ≤ r.cell ∧ r.cell ≤ (s.parents.length : Int) - 1) ∧ (0 ≤ r.rank ∧ r.rank ≤ 9) ∧ ¬ (r.melts = true ∧ r.cell = 0) ∧ (r.into.length : Int) ≤ 3 ∧
  BagK s.kinds r.need ∧ BagK s.kinds r.have_ ∧ BagK s.kinds r.lack ∧ BagK s.kinds r.here ∧ BagK s.kinds r.out ∧ ¬ tot r.need = 0 ∧
  ∀ i (h : i < r.into.length), s.IntoOk r r.into[i] ∧ (0 < i → r.into[i-1].cell < r.into[i].cell)
theorem BagK.bag {k : Int} {b : List Int} (h : BagK k b) : Small b := h.1.small

def Rule.bags (r : Rule) : List (List Int) := [r.need, r.have_, r.lack, r.here, r.out]

end Go.Proofs.YtdlhajkidekjaaaDoor
