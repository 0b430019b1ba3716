/-
  Choices: IsChoice, IsMaximal of the reference and of the program. No condition.
-/
import Derived.Test.YtekghcnefaogbaaZS3e
namespace Go.Proofs.Ytekghcnefaogbaa
open Go.AI
set_option maxRecDepth 8000
set_option maxHeartbeats 1600000

end Go.Proofs.Ytekghcnefaogbaa
