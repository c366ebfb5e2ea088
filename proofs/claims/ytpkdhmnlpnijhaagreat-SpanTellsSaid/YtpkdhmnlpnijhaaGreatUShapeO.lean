/-
  Results of optimizations that were handed in.
-/
import Derived.Test.YtpkdhmnlpnijhaaGreatUShapeL
import Derived.Test.YtpkdhmnlpnijhaaGreatUDualP
import Derived.SizedLaws
namespace Go.Proofs.YtpkdhmnlpnijhaaGreat
set_option linter.unusedVariables false
set_option linter.unusedSimpArgs false
set_option linter.unusedSectionVars false
open Go Go.RowKit
set_option linter.constructorNameAsVariable false
set_option maxRecDepth 100000
theorem fracs_of {n : Nat} {x : List D} (h : Shown Tryz.prog (n + 5) 33 x) : ∃ l, x = [encFs l] := by
 unfold Shown at h
 simp only [Tryz.underlying33] at h
 obtain ⟨es, rfl, _, h⟩ := h
 obtain ⟨l, rfl⟩ := map_of_all (f := cF) (fun x hx => frac_of (h x hx))
 exact ⟨l, rfl⟩
theorem opt_of {n : Nat} {x : List D} (h : Shown Tryz.prog (n + 6) 35 x) : ∃ o, x = cO o := by
 unfold Shown at h
 simp only [Tryz.underlying35, List.foldr] at h
 obtain ⟨_, _, rfl, h1, _, _, rfl, h2, _, _, rfl, h3, _, _, rfl, h4, _, _, rfl, h5, rfl⟩ := h
 obtain ⟨a, rfl⟩ := int_of h1
 obtain ⟨b, rfl⟩ := frac_of h2
 obtain ⟨c, rfl⟩ := fracs_of h3
 obtain ⟨d, rfl⟩ := fracs_of h4
 obtain ⟨e, rfl⟩ := fracs_of h5
 exact ⟨⟨a, b, c, d, e⟩, rfl⟩
open Go.RowKit Go.ChangeShapes Go.WideShapes Go.ChangeAt
end Go.Proofs.YtpkdhmnlpnijhaaGreat
