/-
  The reference's digits, walked over data: trim, digit, less, plus, minus, times, over.
-/
import Derived.Test.YtblamlnjbjaokaaGreatVConv
namespace Go.Proofs.YtblamlnjbjaokaaGreat
set_option linter.unusedVariables false
set_option linter.unusedSimpArgs false
set_option linter.unusedSectionVars false
open Go Go.RowKit
set_option maxRecDepth 100000
set_option maxHeartbeats 8000000
end Go.Proofs.YtblamlnjbjaokaaGreat
