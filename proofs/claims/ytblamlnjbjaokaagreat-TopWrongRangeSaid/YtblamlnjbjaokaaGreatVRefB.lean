/-
  The reference's fractions, as data.
-/
import Derived.Test.YtblamlnjbjaokaaGreatVRefA
namespace Go.Proofs.YtblamlnjbjaokaaGreat
set_option linter.unusedVariables false
set_option linter.unusedSimpArgs false
set_option linter.unusedSectionVars false
open Go Go.RowKit
set_option maxRecDepth 100000
set_option maxHeartbeats 1000000
theorem ZvI(f:Zac)(n:Int):Zag Tryz.prog 22 [encF f,dI n] (dB (decide ((f.p.d.length:Int)≤n)&&decide ((f.q.d.length:Int)≤n))):=by
 refine inC Tryz.func22 rfl Tryz.ntmps22 ?_
 have Zr:=Tryz.results22
 by_cases h1:(f.p.d.length:Int)≤n
 ·by_cases h2:(f.q.d.length:Int)≤n
  ·exact aGo (cj3 Zr h1 h2) trivial
  ·exact aGo (cj3 Zr h1 h2) trivial
 ·exact aGo (cj2 Zr h1) trivial
set_option maxHeartbeats 8000000
end Go.Proofs.YtblamlnjbjaokaaGreat
