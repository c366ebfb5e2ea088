/-
  The reference's integers: trim, digit, less: the walks.
-/
import Derived.Test.YtbnbpfjfkedbaaaPBigB
namespace Go.Proofs.Ytbnbpfjfkedbaaa
set_option linter.unusedVariables false
set_option linter.unusedSimpArgs false
set_option linter.unusedSectionVars false
open Go.RowKit
theorem IntsAt.take {w : World} {A : Option Addr} {n cap : Nat} {l : List Int} (h : IntsAt w (.slice A n cap) l) {k : Nat} (hk : k ≤ l.length) : IntsAt w (.slice A k cap) (l.take k) := by
 obtain ⟨a, c, hv, hl, hc, h⟩ := h
 simp only [Value.slice.injEq] at hv
 obtain ⟨rfl, rfl, rfl⟩ := hv
 refine ⟨A, cap, by simp; omega, by simp; omega, hc, ?_⟩
 by_cases hk0 : k = 0
 · left; simp [hk0]
 rcases h with h | ⟨b, off, rfl, hb, hx⟩
 · omega
 · refine .inr ⟨b, off, rfl, hb, fun i x hi => hx i x ?_⟩
   rw [List.getElem?_take] at hi
   split at hi
   · exact hi
   · cases hi
attribute [local go_sem] relOp relAt relUpon
theorem Owns.other {w : World} {base : Nat} {v : Value} {l : List Int} (h : Owns w base v l) {g : Nat} (hg : g < base) (i : Nat) (x : Value) : Owns (w.setCell ⟨g, i, none⟩ x) base v l := by
 refine ⟨h.1, ?_⟩
 rcases h.2 with h2 | ⟨b, cap, cur, rfl, hb, hc, rest⟩
 · exact .inl h2
 · exact .inr ⟨b, cap, cur, rfl, hb, by rw [heap_setCell_other w ⟨g, i, none⟩ b x (by simp; omega)]; exact hc, rest⟩
end Go.Proofs.Ytbnbpfjfkedbaaa
