/-
  States: what ValidState and ParentNow of the reference and of the program compute. No condition.
-/
import Derived.Test.YtdlhajkidekjaaaDoorZS2c
namespace Go.Proofs.YtdlhajkidekjaaaDoor
open Go.AI
set_option maxRecDepth 8000
set_option maxHeartbeats 1600000

end Go.Proofs.YtdlhajkidekjaaaDoor
