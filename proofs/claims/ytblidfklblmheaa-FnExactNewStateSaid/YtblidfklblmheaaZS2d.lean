/-
  States: what ValidState and ParentNow of the reference and of the program compute. No condition.
-/
import Derived.Test.YtblidfklblmheaaZS2c
namespace Go.Proofs.Ytblidfklblmheaa
open Go.AI
set_option maxRecDepth 8000
set_option maxHeartbeats 1600000

def System.CellOk (s : System) (al : Option Bool) (b : List Int) : Prop := BagK s.kinds b ∧ (al = some true ∨ tot b ≤ 0)
/-- A state is right for a system. -/
def System.StateOk (s : System) (t : State) : Prop := t.alive.length = s.parents.length ∧ t.bags.length = s.parents.length ∧ t.alive[0]? = some true ∧ BagK s.kinds t.around ∧ ∀ i (h : i < t.bags.length), s.CellOk t.alive[i]? t.bags[i]
/-- The parent now of a cell, from p on. -/
def pnowF (ps : List Int) (al : List Bool) : Nat → Int → Int
  | 0, p => p
  | n + 1, p => if 0 ≤ p ∧ al[p.toNat]? = some false then pnowF ps al n (ps.getD p.toNat (-1)) else p
def pnow (s : System) (t : State) (c : Int) : Int := pnowF s.parents t.alive 6 (s.parents.getD c.toNat (-1))
def State.Lives (t : State) (c : Int) : Prop := t.alive[c.toNat]? = some true

end Go.Proofs.Ytblidfklblmheaa
