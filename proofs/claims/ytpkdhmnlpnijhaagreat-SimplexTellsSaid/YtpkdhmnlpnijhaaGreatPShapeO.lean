/-
  Results of optimizations that were handed in.
-/
import Derived.Test.YtpkdhmnlpnijhaaGreatPShapeL
import Derived.Test.YtpkdhmnlpnijhaaGreatPDualP
import Derived.SizedLaws
namespace Go.Proofs.YtpkdhmnlpnijhaaGreat
set_option linter.unusedVariables false
set_option linter.unusedSimpArgs false
set_option linter.unusedSectionVars false
open Go Go.RowKit
set_option linter.constructorNameAsVariable false
set_option maxRecDepth 100000
open Go.RowKit Go.ChangeShapes Go.WideShapes Go.ChangeAt
end Go.Proofs.YtpkdhmnlpnijhaaGreat
