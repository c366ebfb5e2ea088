/-
  TopWrongRange: two closed cells of the row.
-/
import Derived.Test.YtblamlnjbjaokaaGreatRows
import Derived.Test.YtblamlnjbjaokaaGreatVT01
namespace Go.Proofs.YtblamlnjbjaokaaGreat.topWrongRangeDone
set_option linter.unusedVariables false
set_option linter.unusedSimpArgs false
set_option linter.unusedSectionVars false
open Go.ChangeShapes Go.WideShapes Go.ChangeAt Go.RowKit
set_option linter.unusedVariables false
theorem factA:(Rows.topWrongRangeRow.inPlace==Tryz.prog.inPlace 3)=true:=by kernel_rfl
theorem factB:(Rows.topWrongRangeRow.unfollowed==Tryz.prog.unfollowed 3)=true:=by kernel_rfl
end Go.Proofs.YtblamlnjbjaokaaGreat.topWrongRangeDone
