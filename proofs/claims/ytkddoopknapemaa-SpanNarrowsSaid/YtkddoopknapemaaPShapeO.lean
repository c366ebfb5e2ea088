/-
  Results of optimizations that were handed in.
-/
import Derived.Test.YtkddoopknapemaaPShapeL
import Derived.Test.YtkddoopknapemaaPDualP
import Derived.SizedLaws
namespace Go.Proofs.Ytkddoopknapemaa
set_option linter.unusedVariables false
set_option linter.unusedSimpArgs false
set_option linter.unusedSectionVars false
open Go Go.RowKit
set_option linter.constructorNameAsVariable false
set_option maxRecDepth 100000
open Go.RowKit Go.ChangeShapes Go.WideShapes Go.ChangeAt
theorem slice_data {H : Type} {enc : TypeId × Value → H} {P : Program} {w : World} {base : Nat} {spare : Nat → Bool} {held : Bool} {t e : TypeId} (ht : P.underlying t = some (.slice e))
    {fuel : Nat} {a : Option Addr} {len cap : Nat} {y : DataW H × List MemPlace} (h : DataW.trod enc P w base spare held fuel t [.slice a len cap] = some y) : len = 0 ∨ ∃ el sp, y.1 = .slice el sp ∧ el.length = len := by
 rcases Go.Deep.open_slice ht h with ⟨h0, _⟩ | ⟨ad, len', cap', m, n, D, Pl, h0, _, _, _, _, hy, _⟩
 · simp only [List.cons.injEq, Value.slice.injEq, and_true] at h0
   exact .inl h0.2.1
 · simp only [List.cons.injEq, Value.slice.injEq, and_true] at h0
   obtain ⟨rfl, rfl, rfl⟩ := h0
   exact .inr ⟨_, _, by rw [hy], by simp⟩
theorem sys_weight {H : Type} {enc : TypeId × Value → H} {w : World} {base : Nat} {spare : Nat → Bool} {held : Bool} {r : Reach} {b0 : Nat} {v : Value} {d : DataW H} {p : List MemPlace} {c : SysD}
    (hv : Value.okWide Try.prog w r b0 24 v) (h : DataW.Trod enc Try.prog w base spare held 24 v d p) (hr : RepA w v (encS c)) (hk : ∀ k ∈ d.weights Try.prog 24, k ≤ reachBytes) :
    (c.r.length : Int) * 96 ≤ 140737488351232 := by
 obtain ⟨v0, v1, y0, y1, m, rfl, hd, _, h0, h1⟩ := Go.Joins.open_agg2 Try.underlying24 (by kernel_rfl) (by kernel_rfl) hv h
 obtain ⟨n, e0, _, _⟩ := DataW.trod_int Try.underlying3 h0
 obtain ⟨a, len, cap, e1⟩ := Go.Joins.slice_form Try.underlying22 h1
 simp only [List.cons.injEq, and_true] at e0 e1
 subst e0 e1
 obtain ⟨vs, e2, e3, e4⟩ := hr.inv_agg
 obtain rfl : vs = [.int .i64 n, .slice a len cap] := by simpa using e2.symm
 obtain ⟨a', cap', e5, _⟩ := (e4 1 _ _ rfl rfl).inv_sl
 simp only [Value.slice.injEq, List.length_map] at e5
 obtain ⟨_, rfl, _⟩ := e5
 have hb : Try.prog.bytesOf 32 = 96 := by kernel_rfl
 rcases slice_data Try.underlying22 h1 with h | ⟨el, sp, hy, hel⟩
 · omega
 · have := hk ((el.length + sp.length) * Try.prog.bytesOf 32) (by
     rw [hd]
     simp [DataW.weights, DataW.weightsEach, Try.underlying24, Try.underlying22, hy])
   rw [hb] at this
   simp only [reachBytes] at this
   omega
end Go.Proofs.Ytkddoopknapemaa
