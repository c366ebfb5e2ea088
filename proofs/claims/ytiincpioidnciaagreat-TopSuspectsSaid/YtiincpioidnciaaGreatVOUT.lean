/-
  The statement TopSuspects, joined: the frame round the law's contract: the law returns true for every input, and each argument reads behind the call as it read before.
-/
import Derived.Test.YtiincpioidnciaaGreatVT01
import Derived.Test.YtiincpioidnciaaGreatVT06
namespace Go.Proofs.YtiincpioidnciaaGreat.topSuspectsDone
set_option linter.unusedVariables false
set_option linter.unusedSimpArgs false
set_option linter.unusedSectionVars false
open Go.ChangeShapes Go.WideShapes Go.ChangeAt Go.RowKit
set_option linter.unusedVariables false
theorem own:ownKnob Tryz.prog.godebug=none:=by kernel_rfl
theorem laidOut:laidOutB Tryz.prog=true:=by kernel_rfl
end Go.Proofs.YtiincpioidnciaaGreat.topSuspectsDone
