/-
  What is small, and the same, in layer 9's reference.
-/
import Derived.Test.YtpkdhmnlpnijhaaGreatVDualW
namespace Go.Proofs.YtpkdhmnlpnijhaaGreat
set_option linter.unusedVariables false
set_option linter.unusedSimpArgs false
set_option linter.unusedSectionVars false
open Go Go.RowKit
set_option maxRecDepth 100000
set_option maxHeartbeats 4000000
end Go.Proofs.YtpkdhmnlpnijhaaGreat
