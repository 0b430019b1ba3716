/-
  Formulas, colonies, divisions: what the comparisons of the reference and of the program compute. No condition.
-/
import Derived.Test.YtfnnnmdgicjfgaaS7a
namespace Go.Proofs.Ytfnnnmdgicjfgaa
open Go.AI
set_option maxRecDepth 8000
set_option maxHeartbeats 1600000

theorem ext_of {α : Type} {a b : List α} (hl : a.length = b.length) (h : ∀ i (h : i < a.length), some a[i] = b[i]?) : a = b :=
  List.ext_getElem hl (fun i h1 h2 => by have := h i h1; rw [List.getElem?_eq_getElem h2] at this; exact Option.some.inj this)












end Go.Proofs.Ytfnnnmdgicjfgaa
