/-
  More rules of the walk: unsigned numbers as they stand. No condition.
-/
import Derived.Test.YtgjlemedckhlfaaZE3
namespace Go.AI
open Go.RowKit

section
variable {C : Cx} {n : Nat} {Q : Exit → Env → Heap → Prop} {e : Env} {h h' : Heap} {d : Bool} {l os : List Oper} {o : Oper} {f : Fl} {fs : List Fl} {B : List (Nat × Blk)}
end
end Go.AI
