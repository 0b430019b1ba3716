/-
  Lists of numbers that hold what a condition picks, and answers in memory of the call's own. No condition.
-/
import Derived.Test.YtgjlemedckhlfaaZOB
import Derived.Test.YtgjlemedckhlfaaZM
namespace Go.Proofs.Ytgjlemedckhlfaa
open Go.AI

open Classical in
/-- A list where a condition holds, else the empty one. -/
noncomputable def lsP (p : Prop) (l : List Int) : List Int := if p then l else []
end Go.Proofs.Ytgjlemedckhlfaa
