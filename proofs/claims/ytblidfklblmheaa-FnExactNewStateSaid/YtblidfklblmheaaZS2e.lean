/-
  States: what WeighState of the reference and of the program compute. No condition.
-/
import Derived.Test.YtblidfklblmheaaZS2d
namespace Go.Proofs.Ytblidfklblmheaa
open Go.AI
set_option maxRecDepth 8000
set_option maxHeartbeats 1600000

end Go.Proofs.Ytblidfklblmheaa
