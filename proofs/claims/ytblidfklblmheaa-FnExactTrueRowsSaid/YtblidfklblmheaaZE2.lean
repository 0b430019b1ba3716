/-
  More rules of the walk: elements of lists of the call's own, the tail of a list. No condition.
-/
import Derived.Test.YtblidfklblmheaaZM
namespace Go.AI
open Go.RowKit

section
variable {C : Cx} {n : Nat} {Q : Exit → Env → Heap → Prop} {e : Env} {h h' : Heap} {d : Bool} {l os : List Oper} {o : Oper} {f : Fl} {fs : List Fl} {B : List Blk}
theorem drop_flat {α : Type} {g : α → List A} {z : Nat} (hz : ∀ y, (g y).length = z) : ∀ (L : List α) (m : Nat) (hm : m < L.length), (L.map g).flatten.drop (m * z) = g L[m] ++ ((L.drop (m + 1)).map g).flatten
  | [], m, hm => absurd hm (Nat.not_lt_zero _)
  | x :: L, 0, hm => by simp
  | x :: L, m + 1, hm => by
    have ih := drop_flat hz L m (by simpa using hm)
    simp only [List.map_cons, List.flatten_cons, List.drop_succ_cons, List.getElem_cons_succ]
    have e1 : (m + 1) * z = (g x).length + m * z := by rw [hz, Nat.succ_mul]; omega
    rw [e1, List.drop_length_add_append]; exact ih

end
end Go.AI
