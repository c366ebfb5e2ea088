/-
  The law SimplexTells.
-/
import Derived.Test.YtpkdhmnlpnijhaaGreatQZL
import Derived.Test.YtpkdhmnlpnijhaaGreatQSd
namespace Go.Proofs.YtpkdhmnlpnijhaaGreat
set_option linter.unusedVariables false
set_option linter.unusedSimpArgs false
set_option linter.unusedSectionVars false
open Go Go.RowKit
set_option maxRecDepth 100000
set_option maxHeartbeats 8000000
theorem kind_nil (s : SysD) : (leastE s []).k = 0 ∨ (leastE s []).k = 1 := by
 unfold leastE
 cases hn : next (fin s []) with
 | ex r c => exact absurd hn (fin_ended _ _ r c)
 | col c => exact absurd hn (no_col _ c)
 | best => exact .inl rfl
 | row r => exact .inr rfl
end Go.Proofs.YtpkdhmnlpnijhaaGreat
