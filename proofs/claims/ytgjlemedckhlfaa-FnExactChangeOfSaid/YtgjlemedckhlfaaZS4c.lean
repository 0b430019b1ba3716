/-
  The gains of a rule: what the reference and the program compute. No condition.
-/
import Derived.Test.YtgjlemedckhlfaaZS4b
namespace Go.Proofs.Ytgjlemedckhlfaa
open Go.AI
set_option maxRecDepth 8000
set_option maxHeartbeats 1600000

open Classical in
noncomputable def places (s : System) (r : Rule) : List Int := if r.cell = 0 then [(s.parents.length : Int)] else (pars s r.cell).reverse
end Go.Proofs.Ytgjlemedckhlfaa
