/-
  Solution; the laws SimplexOne and SimplexSolves.
-/
import Derived.Test.YtpkdhmnlpnijhaaGreatQSimI
import Derived.Test.YtpkdhmnlpnijhaaGreatQDualP
namespace Go.Proofs.YtpkdhmnlpnijhaaGreat
set_option linter.unusedVariables false
set_option linter.unusedSimpArgs false
set_option linter.unusedSectionVars false
open Go Go.RowKit
set_option maxRecDepth 100000
set_option maxHeartbeats 8000000
noncomputable def solD (s : SysD) : List FracD × List FracD × Bool := if rightS s then (if (leastE s []).k = 1 then ([], (leastE s []).y, false) else ((leastE s []).x, [], true)) else ([], [], false)
theorem right_nilT {s : SysD} (hr : rightS s = true) : rightT [] s.n = true := by
 have := (rightS_n hr).1
 simp only [rightT, Bool.and_eq_true, decide_eq_true_eq]; exact ⟨this, rfl⟩
theorem solution_c (s : SysD) {B T : Nat} (h : Fit s [] B T) : Contract Tryz.prog 11 [encS s] (.tup [encFs (solD s).1, encFs (solD s).2.1, dB (solD s).2.2]) := by
 have hres := Tryz.results11
 have kl := least_c s [] h
 cases hr : rightS s
 · rw [show leastD s [] = (⟨0, zF, [], [], []⟩, 1) by unfold leastD; rw [hr]; rfl] at kl
   have e1 : solD s = ([], [], false) := by unfold solD; rw [hr]; rfl
   rw [e1]
   refine inC Tryz.func11 rfl Tryz.ntmps11 ?_
   have b1 : ((1 : Int) != 0) = true := rfl
   refine aGo (cj2 hres b1) ?_
   repeat with_reducible intro K hK
   rfl
 rw [show leastD s [] = (leastE s [], 0) by unfold leastD; rw [hr, right_nilT hr]; rfl] at kl
 by_cases h1 : (leastE s []).k = 1
 · have e1 : solD s = ([], (leastE s []).y, false) := by unfold solD; rw [hr, if_pos h1]; rfl
   rw [e1]
   have e2 : ((leastE s []).k == 1) = true := by rw [h1]; rfl
   refine inC Tryz.func11 rfl Tryz.ntmps11 ?_
   refine aGo (cj2 hres e2) ?_
   repeat with_reducible intro K hK
   rfl
 · have e1 : solD s = ((leastE s []).x, [], true) := by unfold solD; rw [hr, if_neg h1]; rfl
   rw [e1]
   have e2 : ((leastE s []).k == 1) = false := by simp [h1]
   refine inC Tryz.func11 rfl Tryz.ntmps11 ?_
   refine aGo (cj2 hres e2) ?_
   repeat with_reducible intro K hK
   rfl
section
variable {s : SysD} {goal : List TermD}
theorem low_iff (hs : rightS s = true) (hg : rightT goal s.n = true) {Y : Nat → Rat} (hy : Signs s Y) : (lowerD s goal (fracsOf s.r.length Y)).2 = true ↔ ∀ v, v < s.n.toNat → sumN s.r.length (fun i => Y i * rdG s (indI v) i) ≤ coefT goal v := by
 have h1 := signs_ok hs hy
 have hg' := right_toNat hg
 rw [lowerD_iff]
 constructor
 · rintro ⟨_, _, h⟩ v hv
   have := (belowN_iff (mixT_right hs _) hg').1 h v
   rw [mixT_dot hs, mix_fracs] at this
   exact this
 · intro h
   refine ⟨h1, hg, ?_⟩
   unfold belowN
   simp only [List.all_eq_true, List.mem_range, decide_eq_true_eq]
   intro v hv
   have := h v hv
   rw [← mix_fracs, ← mixT_dot hs] at this
   exact this
theorem signs_of {Y : Nat → Rat} (h : (lowerD s goal (fracsOf s.r.length Y)).2 = true) : Signs s Y := by
 obtain ⟨hr, _, _, h4, _, _⟩ := lower_iff.1 h
 intro i w hw
 have hi := (List.getElem?_eq_some_iff.1 hw).1
 have := List.all_eq_true.1 h4 (w, ofQ (Y i)) (List.mem_of_getElem? (i := i) (by rw [List.getElem?_zip_eq_some]; exact ⟨hw, fracs_get Y hi⟩))
 have := (signOk_iff (okF_ofQ _)).1 this
 rwa [qOf_ofQ] at this
end
end Go.Proofs.YtpkdhmnlpnijhaaGreat
