/-
  Layer 11: span's functions on data: the range of a goal, its bounds.
-/
import Derived.Test.YtpkdhmnlpnijhaaGreatQSimI
import Derived.Test.YtpkdhmnlpnijhaaGreatQDualP
import Derived.Test.YtpkdhmnlpnijhaaGreatQLinB
namespace Go.Proofs.YtpkdhmnlpnijhaaGreat
set_option linter.unusedVariables false
set_option linter.unusedSimpArgs false
set_option linter.unusedSectionVars false
open Go Go.RowKit
set_option maxRecDepth 100000
set_option maxHeartbeats 8000000
structure BdD where
 l : FracD
 h : FracD
 lo : Bool
 hi : Bool
structure BdOk (s : SysD) (goal : List TermD) (b : BdD) : Prop where
 lo : b.lo = true → ∃ q x, b.l = ofQ q ∧ holdsS s x = true ∧ dotD goal x = q ∧ ∀ z, holdsS s z = true → q ≤ dotD goal z
 nl : b.lo = false → b.l = zF ∧ ∀ q : Rat, ∃ x, holdsS s x = true ∧ dotD goal x ≤ q
 hi : b.hi = true → ∃ q x, b.h = ofQ q ∧ holdsS s x = true ∧ dotD goal x = q ∧ ∀ z, holdsS s z = true → dotD goal z ≤ q
 nh : b.hi = false → b.h = zF ∧ ∀ q : Rat, ∃ x, holdsS s x = true ∧ q ≤ dotD goal x
theorem ray_low {s : SysD} {goal : List TermD} {x d : List FracD} (hx : holdsS s x = true) (hd : rayD s goal d = true) (q : Rat) : ∃ z, holdsS s z = true ∧ dotD goal z ≤ q := by
 have hneg := (rayD_iff.1 hd).2.2.2.2.2.2
 rw [sgQ_lt] at hneg
 by_cases hq : dotD goal x ≤ q
 · exact ⟨x, hx, hq⟩
 · obtain ⟨_, ln, _, _, _⟩ := holdsS_iff.1 hx
   obtain ⟨_, _, ld, _⟩ := rayD_iff.1 hd
   have hp : 0 < -dotD goal d := by grind
   have hk : 0 ≤ (dotD goal x - q) / (-dotD goal d) := by
    rw [Rat.div_def]
    exact Rat.mul_nonneg (by grind) (Rat.le_of_lt (Rat.inv_pos.2 hp))
   refine ⟨_, holds_on hx hd hk, ?_⟩
   rw [dot_on (by omega)]
   have h2 : (dotD goal x - q) / (-dotD goal d) * dotD goal d = -(dotD goal x - q) := by
    rw [Rat.div_def]
    have : (-dotD goal d) * (-dotD goal d)⁻¹ = 1 := Rat.mul_inv_cancel _ (by grind)
    grind
   rw [h2]
   grind
theorem least_says {s : SysD} {goal : List TermD} {A : OptD} (h : checkD s goal A = true) :
    (A.k = 0 ∧ ∃ q x, A.v = ofQ q ∧ holdsS s x = true ∧ dotD goal x = q ∧ ∀ z, holdsS s z = true → q ≤ dotD goal z) ∨ (A.k = 1 ∧ ∀ x, holdsS s x = false) ∨ (A.k = 2 ∧ ∀ q : Rat, ∃ x, holdsS s x = true ∧ dotD goal x ≤ q) := by
 rcases check_cases h with ⟨a0, a1, a2, a3, a4, _⟩ | ⟨a0, a1, _⟩ | ⟨a0, a1, a2, _⟩
 · exact .inl ⟨a0, _, _, a3, a2, rfl, fun z hz => by have := bounds a1 hz; grind⟩
 · exact .inr (.inl ⟨a0, fun x => refutes_no a1⟩)
 · exact .inr (.inr ⟨a0, fun q => ray_low a1 a2 q⟩)
section
variable {s : SysD} {goal : List TermD} (hs : rightS s = true) (hg : rightT goal s.n = true)
include hs hg
end
end Go.Proofs.YtpkdhmnlpnijhaaGreat
