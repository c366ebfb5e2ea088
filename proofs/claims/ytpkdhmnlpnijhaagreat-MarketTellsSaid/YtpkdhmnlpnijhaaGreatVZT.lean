/-
  The law SimplexTells.
-/
import Derived.Test.YtpkdhmnlpnijhaaGreatVZL
import Derived.Test.YtpkdhmnlpnijhaaGreatVSd
namespace Go.Proofs.YtpkdhmnlpnijhaaGreat
set_option linter.unusedVariables false
set_option linter.unusedSimpArgs false
set_option linter.unusedSectionVars false
open Go Go.RowKit
set_option maxRecDepth 100000
set_option maxHeartbeats 8000000
end Go.Proofs.YtpkdhmnlpnijhaaGreat
