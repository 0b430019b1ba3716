/-
  Colonies: what ValidColony of the reference and of the program compute. No condition.
-/
import Derived.Test.YtdlhajkidekjaaaDoorZS7e
namespace Go.Proofs.YtdlhajkidekjaaaDoor
open Go.AI
set_option maxRecDepth 8000
set_option maxHeartbeats 1600000

/-- One list is ahead of another one. -/
def less : List Int → List Int → Prop
  | [], [] => False
  | [], _ :: _ => True
  | _ :: _, [] => False
  | x :: a, y :: b => x < y ∨ (x = y ∧ less a b)
open Classical in
noncomputable def cmp3 (p q : Prop) : Int := if p then -1 else if q then 1 else 0
def Before (a b : Group) : Prop := a.charge < b.charge ∨ (a.charge = b.charge ∧ less a.contents b.contents)

/-- A colony is right for a system of so many objects. -/
def Colony.Ok (o : Int) (c : Colony) : Prop := HeapOf o c.skin 300 ∧ c.groups.length ≤ 200 ∧
  (∀ i (h : i < c.groups.length), ((-1 ≤ c.groups[i].charge ∧ c.groups[i].charge ≤ 1) ∧ HeapOf o c.groups[i].contents 60 ∧ 1 ≤ c.groups[i].count) ∧ (0 < i → Before c.groups[i-1] c.groups[i])) ∧ sumF Group.count c.groups ≤ 5000
end Go.Proofs.YtdlhajkidekjaaaDoor
