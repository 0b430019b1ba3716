/-
  The data of the laws' theme 2, as structures, and the helpers of the laws over them: sizes, copies, comparisons. No condition but that the sizes are at most 1048576.
-/
import Derived.Test.YtdlhajkidekjaaaDoorZHBase
namespace Go.Proofs.YtdlhajkidekjaaaDoor
open Go.AI
set_option maxRecDepth 8000

structure Into where
  cell : Int
  bag : List Int
  deriving DecidableEq, Inhabited
/-- What its size tells of it. -/
structure OkInto (x : Into) : Prop where
  bag : x.bag.length ≤ 1048576
structure Rule where
  cell : Int
  rank : Int
  need : List Int
  have_ : List Int
  lack : List Int
  here : List Int
  out : List Int
  into : List Into
  melts : Bool
  deriving DecidableEq, Inhabited
/-- What its size tells of it. -/
structure OkRule (x : Rule) : Prop where
  need : x.need.length ≤ 1048576
  have_ : x.have_.length ≤ 1048576
  lack : x.lack.length ≤ 1048576
  here : x.here.length ≤ 1048576
  out : x.out.length ≤ 1048576
  into : x.into.length ≤ 1048576 ∧ ∀ r ∈ x.into, OkInto r
structure System where
  kinds : Int
  parents : List Int
  rules : List Rule
  deriving DecidableEq, Inhabited
/-- What its size tells of it. -/
structure OkSystem (x : System) : Prop where
  parents : x.parents.length ≤ 1048576
  rules : x.rules.length ≤ 1048576 ∧ ∀ r ∈ x.rules, OkRule r
structure State where
  alive : List Bool
  bags : List (List Int)
  around : List Int
  deriving DecidableEq, Inhabited
/-- What its size tells of it. -/
structure OkState (x : State) : Prop where
  alive : x.alive.length ≤ 1048576
  bags : x.bags.length ≤ 1048576 ∧ ∀ r ∈ x.bags, r.length ≤ 1048576
  around : x.around.length ≤ 1048576
end Go.Proofs.YtdlhajkidekjaaaDoor
