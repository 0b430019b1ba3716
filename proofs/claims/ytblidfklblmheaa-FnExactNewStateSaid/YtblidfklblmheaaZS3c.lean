/-
  Steps: the program's list of applicable rules; IsHalted. No condition.
-/
import Derived.Test.YtblidfklblmheaaZS3b
namespace Go.Proofs.Ytblidfklblmheaa
open Go.AI
set_option maxRecDepth 8000
set_option maxHeartbeats 1600000

end Go.Proofs.Ytblidfklblmheaa
