/-
  Formulas: what CnfSteps of the reference and of the program compute, and the law on it. No condition.
-/
import Derived.Test.YtblidfklblmheaaZS7b
import Derived.Test.YtblidfklblmheaaZM
namespace Go.Proofs.Ytblidfklblmheaa
open Go.AI
set_option maxRecDepth 8000
set_option maxHeartbeats 1600000

end Go.Proofs.Ytblidfklblmheaa
