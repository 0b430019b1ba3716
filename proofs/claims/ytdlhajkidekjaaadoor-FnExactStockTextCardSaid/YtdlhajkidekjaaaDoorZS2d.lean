/-
  States: what ValidState and ParentNow of the reference and of the program compute. No condition.
-/
import Derived.Test.YtdlhajkidekjaaaDoorZS2c
namespace Go.Proofs.YtdlhajkidekjaaaDoor
open Go.AI
set_option maxRecDepth 8000
set_option maxHeartbeats 1600000

theorem al_t {l : List Bool} {i : Nat} {h : i < l.length} (e : l[i] = true) : l[i]? = some true := by rw [List.getElem?_eq_getElem h, e]
theorem al_t' {l : List Bool} {i : Nat} {h : i < l.length} (e : (!l[i]) = false) : l[i]? = some true := al_t (h := h) (by simpa using e)
theorem al_f' {l : List Bool} {i : Nat} {h : i < l.length} (e : (!l[i]) = true) : ¬ l[i]? = some true := by rw [List.getElem?_eq_getElem h]; simp at e; simp [e]
theorem al_f {l : List Bool} {i : Nat} {h : i < l.length} (e : l[i] = false) : ¬ l[i]? = some true := by rw [List.getElem?_eq_getElem h, e]; simp

end Go.Proofs.YtdlhajkidekjaaaDoor
