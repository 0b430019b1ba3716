/-
  Steps: which rules are enabled, what the reference and the program compute. No condition.
-/
import Derived.Test.YtblidfklblmheaaZS2d
namespace Go.Proofs.Ytblidfklblmheaa
open Go.AI
set_option maxRecDepth 8000
set_option maxHeartbeats 1600000

def Within (a b : List Int) : Prop := ∀ i (ha : i < a.length) (hb : i < b.length), a[i] ≤ b[i]

def bagOf (t : State) (c : Int) : List Int := t.bags.getD c.toNat []
def IntoNow (s : System) (t : State) (r : Rule) (x : Into) : Prop := t.Lives x.cell ∧ pnow s t x.cell = r.cell
/-- A rule is enabled. -/
def EnP (s : System) (t : State) (r : Rule) : Prop := t.Lives r.cell ∧ Within r.need (bagOf t r.cell) ∧ Within r.have_ (bagOf t r.cell) ∧ ¬ (0 < tot r.lack ∧ Within r.lack (bagOf t r.cell)) ∧ ∀ i (h : i < r.into.length), IntoNow s t r r.into[i]
end Go.Proofs.Ytblidfklblmheaa
