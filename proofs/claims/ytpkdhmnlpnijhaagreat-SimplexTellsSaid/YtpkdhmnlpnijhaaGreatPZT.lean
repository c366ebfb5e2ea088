/-
  The law SimplexTells.
-/
import Derived.Test.YtpkdhmnlpnijhaaGreatPZL
import Derived.Test.YtpkdhmnlpnijhaaGreatPSzA
namespace Go.Proofs.YtpkdhmnlpnijhaaGreat
set_option linter.unusedVariables false
set_option linter.unusedSimpArgs false
set_option linter.unusedSectionVars false
open Go Go.RowKit
set_option maxRecDepth 100000
set_option maxHeartbeats 8000000
theorem rfit_few {s : SysD} {goal : List TermD} (h : few10 s goal = true) : RFit s goal 16 16 := by
 have hf := fit_few h
 simp only [few10, Bool.and_eq_true, Bool.not_eq_true', Bool.and_eq_false_iff, decide_eq_false_iff_not, fewT, decide_eq_true_eq, List.all_eq_true] at h
 obtain ⟨⟨⟨h1, h2⟩, h3, h4⟩, h5⟩ := h
 refine ⟨by omega, hf.n, fun w hw => ?_, ⟨by omega, fun t ht => fewF_le (h4 t ht) 16 (by decide)⟩, by decide, by decide⟩
 obtain ⟨⟨a1, a2⟩, a3⟩ := h5 w hw
 exact ⟨by omega, fewF_le a3 16 (by decide), fun t ht => fewF_le (a2 t ht) 16 (by decide)⟩
noncomputable def solR (s : SysD) : List FracD × List FracD × Bool := if rightS s then (if (leastR s []).k = 0 then ((leastR s []).x, [], true) else ([], (leastR s []).y, false)) else ([], [], false)
theorem zsol_c (s : SysD) (h : RFit s [] 16 16) : Contract Tryz.prog 12 [encS s] (.tup [encFs (solR s).1, encFs (solR s).2.1, dB (solR s).2.2]) := by
 have hres := Tryz.results12
 have kl : Contract Tryz.prog 10 [encS s, .sl []] (.tup [encO (leastRD s []).1, dI (leastRD s []).2]) := zleast_c s [] h
 cases hr : rightS s
 · rw [show leastRD s [] = (⟨0, zF, [], [], []⟩, 1) by unfold leastRD; rw [hr]; rfl] at kl
   have e1 : solR s = ([], [], false) := by unfold solR; rw [hr]; rfl
   rw [e1]
   refine inC Tryz.func12 rfl Tryz.ntmps12 ?_
   have b1 : ((1 : Int) != 0) = true := rfl
   refine aGo (cj2 hres b1) ?_
   repeat with_reducible intro K hK
   rfl
 rw [show leastRD s [] = (leastR s [], 0) by unfold leastRD; rw [hr, right_nilT hr]; rfl] at kl
 by_cases h1 : (leastR s []).k = 0
 · have e1 : solR s = ((leastR s []).x, [], true) := by unfold solR; rw [hr, if_pos h1]; rfl
   rw [e1]
   have e2 : ((leastR s []).k == 0) = true := by rw [h1]; rfl
   refine inC Tryz.func12 rfl Tryz.ntmps12 ?_
   refine aGo (cj2 hres e2) ?_
   repeat with_reducible intro K hK
   rfl
 · have e1 : solR s = ([], (leastR s []).y, false) := by unfold solR; rw [hr, if_neg h1]; rfl
   rw [e1]
   have e2 : ((leastR s []).k == 0) = false := by simp [h1]
   refine inC Tryz.func12 rfl Tryz.ntmps12 ?_
   refine aGo (cj2 hres e2) ?_
   repeat with_reducible intro K hK
   rfl
theorem kind_nil (s : SysD) : (leastE s []).k = 0 ∨ (leastE s []).k = 1 := by
 unfold leastE
 cases hn : next (fin s []) with
 | ex r c => exact absurd hn (fin_ended _ _ r c)
 | col c => exact absurd hn (no_col _ c)
 | best => exact .inl rfl
 | row r => exact .inr rfl
theorem sol_same (s : SysD) : (solR s).2.2 = (solD s).2.2 := by
 unfold solR solD
 cases hr : rightS s
 · rw [if_neg Bool.false_ne_true, if_neg Bool.false_ne_true]
 · have h1 := (leastR_agrees hr (right_nilT hr)).1
   have h2 := kind_nil s
   generalize leastR s [] = R at *
   generalize leastE s [] = L at *
   rw [if_pos rfl, if_pos rfl]
   rcases h2 with h | h
   · rw [if_pos (h1.trans h), if_neg (by rw [h]; decide)]
   · rw [if_neg (by rw [h1, h]; decide), if_pos h]
theorem tells10_c (k0 : Contract Tryz.prog 7 [] (dB true)) (s : SysD) (goal : List TermD) : Contract Tryz.prog 3 [encS s, encTs goal] (dB true) := by
 have hres := Tryz.results3
 have kf := few10_c s goal
 cases hf : few10 s goal
 · rw [hf] at kf
   refine inC Tryz.func3 rfl Tryz.ntmps3 ?_
   exact aGo hres trivial
 rw [hf] at kf
 have h := fit_few hf
 have h2 := rfit_few hf
 have kl := least_c s goal h
 have kr := zleast_c s goal h2
 have ks := solution_c s h.nil
 have kt := zsol_c s h2.nil
 rw [sol_same] at kt
 have eb : ((solD s).2.2 == (solD s).2.2) = true := by simp
 have both : (rightS s && rightT goal s.n) = true ∨ (rightS s && rightT goal s.n) = false := by cases (rightS s && rightT goal s.n) <;> simp
 rcases both with hb | hb
 · have e1 : leastD s goal = (leastE s goal, 0) := by unfold leastD; rw [hb]; rfl
   have e2 : leastRD s goal = (leastR s goal, 0) := by unfold leastRD; rw [hb]; rfl
   rw [Bool.and_eq_true] at hb
   obtain ⟨a1, a2⟩ := leastR_agrees hb.1 hb.2
   rw [e1] at kl
   rw [e2] at kr
   have kv := (rsameF_c (leastE s goal).v (leastR s goal).v (by have := (least_tn h hb.1 hb.2).1; unfold tnF at this; omega)).toN rfl
   rw [show sameF (leastE s goal).v (leastR s goal).v = true by rw [a2, sameF_self]] at kv
   have e3 : ((leastE s goal).k == (leastR s goal).k) = true := by rw [a1]; simp
   generalize leastE s goal = L at *
   generalize leastR s goal = R at *
   generalize solR s = T at *
   generalize solD s = U at *
   refine inC Tryz.func3 rfl Tryz.ntmps3 ?_
   exact aGo (cj3 hres e3 eb) trivial
 · have e1 : leastD s goal = (⟨0, zF, [], [], []⟩, 1) := by unfold leastD; rw [hb]; rfl
   have e2 : leastRD s goal = (⟨0, zF, [], [], []⟩, 1) := by unfold leastRD; rw [hb]; rfl
   rw [e1] at kl
   rw [e2] at kr
   have kv := (rsameF_c zF zF (by decide)).toN rfl
   rw [sameF_self] at kv
   generalize solR s = T at *
   generalize solD s = U at *
   refine inC Tryz.func3 rfl Tryz.ntmps3 ?_
   exact aGo (cj2 hres eb) trivial
end Go.Proofs.YtpkdhmnlpnijhaaGreat
