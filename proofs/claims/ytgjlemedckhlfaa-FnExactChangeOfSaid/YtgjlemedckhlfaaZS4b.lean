/-
  The possible parents of a cell: what the reference and the program compute. No condition.
-/
import Derived.Test.YtgjlemedckhlfaaZS4a
namespace Go.Proofs.Ytgjlemedckhlfaa
open Go.AI
set_option maxRecDepth 8000
set_option maxHeartbeats 1600000

/-- A cell has a rule that melts it. -/
def Melts (s : System) (c : Int) : Prop := ∃ r ∈ s.rules, r.cell = c ∧ r.melts = true
open Classical in
/-- The cells that can be around a cell, from p on. -/
noncomputable def chainF (s : System) : Nat → Int → List Int
  | 0, _ => []
  | n + 1, p => if 0 ≤ p then p :: (if Melts s p then chainF s n (s.parents.getD p.toNat (-1)) else []) else []
noncomputable def pars (s : System) (c : Int) : List Int := chainF s 7 (s.parents.getD c.toNat (-1))
end Go.Proofs.Ytgjlemedckhlfaa
