/-
  Fractions: Right, Sign, Same, times, slim, Int: the walks.
-/
import Derived.Test.YtiincpioidnciaaGreatVBigB
import Derived.Test.YtiincpioidnciaaGreatVLib
namespace Go.Proofs.YtiincpioidnciaaGreat
set_option linter.unusedVariables false
set_option linter.unusedSimpArgs false
set_option linter.unusedSectionVars false
open Go.RowKit
attribute [local go_sem] ZdB ZdC Zbm
end Go.Proofs.YtiincpioidnciaaGreat
