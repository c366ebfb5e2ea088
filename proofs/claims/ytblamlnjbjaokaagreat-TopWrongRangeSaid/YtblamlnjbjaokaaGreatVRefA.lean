/-
  The reference's integers, as data: Right, Same, Compare, Neg; the elder contracts.
-/
import Derived.Test.YtblamlnjbjaokaaGreatVConv
import Derived.Test.YtblamlnjbjaokaaGreatVRg
namespace Go.Proofs.YtblamlnjbjaokaaGreat
set_option linter.unusedVariables false
set_option linter.unusedSimpArgs false
set_option linter.unusedSectionVars false
open Go Go.RowKit
set_option maxRecDepth 100000
set_option maxHeartbeats 1000000
set_option maxHeartbeats 8000000
theorem Zrq{a b:BigD}:Zlp a b=true↔a=b:=by
 cases a;cases b;simp[Zlp]
theorem sign_mul(a b:Int) : -1≤a.sign*b.sign∧a.sign*b.sign≤1:=by
 rcases ZbG a with⟨_,h,_⟩|⟨_,h,_⟩|⟨_,h,_⟩<;>rcases ZbG b with⟨_,k,_⟩|⟨_,k,_⟩|⟨_,k,_⟩<;>rw[h,k]<;>decide
theorem Zcy{a b:Int}(h:a=b):dI a=dI b:=by rw[h]
end Go.Proofs.YtblamlnjbjaokaaGreat
