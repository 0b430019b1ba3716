/-
  More rules of the walk: elements of lists of the call's own, the tail of a list. No condition.
-/
import Derived.Test.YtdlhajkidekjaaaDoorZM
namespace Go.AI
open Go.RowKit

section
variable {C : Cx} {n : Nat} {Q : Exit → Env → Heap → Prop} {e : Env} {h h' : Heap} {d : Bool} {l os : List Oper} {o : Oper} {f : Fl} {fs : List Fl} {B : List (Nat × Blk)}
/-- 's[m:]'. -/
theorem j_tail (m : Nat) {α : Type} {g : α → List A} {ys : List α} {T E z sz dd : Nat} {x : Operand} {lo : Option Operand} (hw : wantE l e o = some true) (ho : o.op = .slice T x lo none none) (hT : C.ty T = some ⟨sz, .slice E z⟩) (hx : evO e x = some (.sl (ys.map g))) (hlo : bndO e 0 lo = some (.int (m : Int)))
    (hb : m ≤ ys.length) (hz : ∀ y, (g y).length = z) (hd : o.dst = some dd) (hn : Nat.blt dd n = true) (hj : J d C n l os Q ((dd, .sl ((ys.drop m).map g)) :: e) h) : J d C n l (o :: os) Q e h :=
  j_slice hw ho hT hx hlo (b := ((ys.map g).length : Int)) rfl (by rw [List.length_map]; omega) hz hd hn (by
    have e1 : ((((ys.map g).length : Nat) : Int)).toNat = ys.length := by rw [List.length_map]; omega
    have e2 : ((m : Int)).toNat = m := by omega
    rw [e1, e2, List.take_length]; exact hj)
end
end Go.AI
