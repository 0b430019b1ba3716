/-
  Formulas: what the reference's and the program's ValidCnf compute. No condition.
-/
import Derived.Test.YtdlhajkidekjaaaDoorZH7
import Derived.Test.YtdlhajkidekjaaaDoorZS0
namespace Go.Proofs.YtdlhajkidekjaaaDoor
open Go.AI
set_option maxRecDepth 8000
set_option maxHeartbeats 1600000

def Cnf.Valid (f : Cnf) : Prop := (1 ≤ f.vars ∧ f.vars ≤ 4) ∧ f.clauses.length ≤ 6 ∧ ∀ c ∈ f.clauses, Rises (0 - f.vars) f.vars c ∧ 0 ∉ c

end Go.Proofs.YtdlhajkidekjaaaDoor
