/-
  The reference's integers, as data: Right, Same, Compare, Neg; the elder contracts.
-/
import Derived.Test.YtiincpioidnciaaGreatVConv
import Derived.Test.YtiincpioidnciaaGreatVRg
namespace Go.Proofs.YtiincpioidnciaaGreat
set_option linter.unusedVariables false
set_option linter.unusedSimpArgs false
set_option linter.unusedSectionVars false
open Go Go.RowKit
set_option maxRecDepth 100000
set_option maxHeartbeats 1000000
set_option maxHeartbeats 8000000
end Go.Proofs.YtiincpioidnciaaGreat
