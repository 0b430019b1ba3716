/-
  Library functions over lists of rules and of what is put into cells: the first element of a kind. No condition.
-/
import Derived.Test.YtblidfklblmheaaZH2
import Derived.Test.YtblidfklblmheaaZM
namespace Go.Proofs.Ytblidfklblmheaa
open Go.AI
set_option maxRecDepth 8000
set_option maxHeartbeats 1600000

end Go.Proofs.Ytblidfklblmheaa
