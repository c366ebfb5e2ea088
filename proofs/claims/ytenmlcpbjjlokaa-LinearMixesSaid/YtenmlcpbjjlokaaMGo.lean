/-
  The walk as far as it goes, as one rule: its steps are tried in turn where the rule is used.
-/
import Derived.Test.YtenmlcpbjjlokaaMConv

/-
  The walk as far as it goes, as one rule: its steps are tried in turn where the rule is used.
-/
namespace Go.Proofs.Ytenmlcpbjjlokaa
set_option linter.unusedVariables false
set_option linter.unusedSimpArgs false
open Go Go.RowKit

/-- The code is the region number id. -/
theorem atR {P : Program} {n : Nat} {Q : Exit → St → Prop} {s : St} {l : Array Oper} {b : Bool} (id : Nat) (h : AWP P n (.region id l b) Q s) : AWP P n (.region id l b) Q s := h
theorem cj2 {A B : Prop} (a : A) (b : B) : A ∧ B := ⟨a, b⟩
theorem cj3 {A B C : Prop} (a : A) (b : B) (c : C) : A ∧ B ∧ C := ⟨a, b, c⟩
theorem cj4 {A B C D : Prop} (a : A) (b : B) (c : C) (d : D) : A ∧ B ∧ C ∧ D := ⟨a, b, c, d⟩
/-- What is left, kept from the search in the context. -/
structure Keep (Y : Prop) : Prop where
  out : Y
/-- f: facts; y: what is left; the contracts of callees are taken from the context. -/
theorem aGo {F Y X : Prop} (f : F) (y : Y) (h : F → Keep Y → X := by
    intro hf y
    repeat (first
      | (refine hI _ ?_; clear hI; clear KI)
      | (refine hK _ ?_; try clear hK; try clear K)
      | (refine aSeq fun KI hI => ?_)
      | (refine aBlock ?_)
      | (refine aSkip ?_)
      | (refine aExit ?_)
      | (refine aRet ?_)
      | (refine aOps _ rfl (by kernel_rfl) ?_)
      | (refine aRunK _ rfl mixed (by kernel_rfl) (by kernel_rfl) fun KE hE => ?_)
      | (refine hE _ _ (by kernel_rfl) (intsOk_no rfl) ?_; clear hE; clear KE)
      | (refine hE _ _ (by kernel_rfl) (intsOk_yes ?hi ?hj) ?_; (case hi => (repeat (refine intsDead_updB rfl ?_)); exact intsDead_nil); (case hj => simp); clear hE; clear KE)
      | (refine aCondT rfl ?hc ?_; case hc => simp only [go_sem, ↓reduceIte, beq_self_eq_true, bne_self_eq_false, hf])
      | (refine aCondF rfl ?hc ?_; case hc => simp only [go_sem, ↓reduceIte, beq_self_eq_true, bne_self_eq_false, hf])
      | ((with_reducible apply callT_of); (first | with_reducible assumption | assumption); rotate_left; (repeat (refine intsDead_updB rfl ?_)); exact intsDead_nil)
      | ((with_reducible apply callT_ofN); (first | with_reducible assumption | assumption))
      | ((with_reducible apply callU_of); (first | with_reducible assumption | assumption); rfl)
      | ((with_reducible apply callU_ofN); (first | with_reducible assumption | assumption); rfl)
      | (simp only [go_sem, ↓reduceIte, beq_self_eq_true, bne_self_eq_false, hf])
      | (refine And.intro ?ho ?_; (case ho => omega))
      | (clear hI; clear KI))
    repeat (first | (revert hE; revert KE) | (revert hI; revert KI))
    first | done | exact y.out) : X := h f ⟨y⟩
end Go.Proofs.Ytenmlcpbjjlokaa
