/-
  Sorting short lists of the call's own. No condition but that the list has at most twelve elements.
-/
import Derived.Test.YtgjlemedckhlfaaZS3e
import Derived.Test.YtgjlemedckhlfaaZE4
namespace Go.Proofs.Ytgjlemedckhlfaa
open Go.AI
set_option maxRecDepth 8000
set_option maxHeartbeats 1600000

end Go.Proofs.Ytgjlemedckhlfaa
