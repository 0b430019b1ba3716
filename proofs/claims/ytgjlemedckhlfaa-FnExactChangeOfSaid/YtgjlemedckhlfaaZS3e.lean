/-
  Choices: what the program computes of them; IsChoice, IsMaximal. No condition.
-/
import Derived.Test.YtgjlemedckhlfaaZS3d
namespace Go.Proofs.Ytgjlemedckhlfaa
open Go.AI
set_option maxRecDepth 8000
set_option maxHeartbeats 1600000

/-- All rules that are counted are applicable. -/
def AllApp (s : System) (t : State) (cs : List Int) : Prop := ∀ i (h : i < s.rules.length) (h2 : i < cs.length), 0 < cs[i] → App s t s.rules[i]
open Classical in
noncomputable def restI (s : System) (t : State) (cs : List Int) : A := if AllApp s t cs then .sl ((restK s t cs s.rules.length).map (encS encI)) else .os none 0 0
end Go.Proofs.Ytgjlemedckhlfaa
