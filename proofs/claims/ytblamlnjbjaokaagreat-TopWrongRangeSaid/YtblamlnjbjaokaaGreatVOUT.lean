/-
  The statement TopWrongRange: the row holds.
-/
import Derived.Test.YtblamlnjbjaokaaGreatVT09
import Derived.Test.YtblamlnjbjaokaaGreatVT10
import Derived.Test.YtblamlnjbjaokaaGreatVT11
namespace Go.Proofs.YtblamlnjbjaokaaGreat.topWrongRangeDone
set_option linter.unusedVariables false
set_option linter.unusedSimpArgs false
set_option linter.unusedSectionVars false
open Go.ChangeShapes Go.WideShapes Go.ChangeAt Go.RowKit
set_option linter.unusedVariables false
theorem closed:joinedFacts Tryz.prog 3 Tryz.f3 Rows.topWrongRangeSpec Rows.topWrongRangeRow=true:=by
 unfold joinedFacts
 rw[laidOut,factA,factB,factC,factD,factE,factF]
 kernel_rfl
theorem over:Rows.topWrongRangeRow.holds Tryz.pinned (OpenSpec.ofChange Rows.topWrongRangeSpec) :=
 OpenClaim.holds_of_wide 3 Tryz.f3 rfl rfl rfl rfl rfl rfl rfl ⟨rfl,rfl,rfl,rfl,rfl⟩ rfl rfl rfl rfl rfl (by kernel_rfl) Tryz.func3 closed
  (of_decide_eq_true (by kernel_rfl)) (by unfold Func.isWrapper;first|(rw[if_pos (by decide +kernel)];kernel_rfl)|(rw[if_neg (by decide +kernel)];exact⟨rfl,rfl⟩))
  (fun os started H enc _=>lifted os started H enc)
theorem proved:Rows.TopWrongRangeSaid:=over
end Go.Proofs.YtblamlnjbjaokaaGreat.topWrongRangeDone
