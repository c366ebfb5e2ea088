/-
  TopWrongRange: further closed cells of the row.
-/
import Derived.Test.YtblamlnjbjaokaaGreatRows
import Derived.Test.YtblamlnjbjaokaaGreatVT01
namespace Go.Proofs.YtblamlnjbjaokaaGreat.topWrongRangeDone
set_option linter.unusedVariables false
set_option linter.unusedSimpArgs false
set_option linter.unusedSectionVars false
open Go.ChangeShapes Go.WideShapes Go.ChangeAt Go.RowKit
set_option linter.unusedVariables false
theorem factC:(Rows.topWrongRangeRow.named==Tryz.prog.varsNamed 3)=true:=by kernel_rfl
theorem factD:(mapsRowed Tryz.prog)=true:=by kernel_rfl
theorem factE:(Tryz.prog.mayEnter)=true:=by kernel_rfl
theorem factF:(Tryz.prog.stopsHeard)=true:=by kernel_rfl
end Go.Proofs.YtblamlnjbjaokaaGreat.topWrongRangeDone
