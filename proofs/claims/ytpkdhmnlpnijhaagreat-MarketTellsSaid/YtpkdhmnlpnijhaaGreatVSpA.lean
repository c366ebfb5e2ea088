/-
  Layer 11: span's functions on data: the range of a goal, its bounds.
-/
import Derived.Test.YtpkdhmnlpnijhaaGreatVSimI
import Derived.Test.YtpkdhmnlpnijhaaGreatVDualP
import Derived.Test.YtpkdhmnlpnijhaaGreatVLinB
namespace Go.Proofs.YtpkdhmnlpnijhaaGreat
set_option linter.unusedVariables false
set_option linter.unusedSimpArgs false
set_option linter.unusedSectionVars false
open Go Go.RowKit
set_option maxRecDepth 100000
set_option maxHeartbeats 8000000
structure BdD where
 l : FracD
 h : FracD
 lo : Bool
 hi : Bool
end Go.Proofs.YtpkdhmnlpnijhaaGreat
