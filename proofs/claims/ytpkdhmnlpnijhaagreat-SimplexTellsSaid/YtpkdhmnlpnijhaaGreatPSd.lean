/-
  The dual system of a right one (plain): solutions of the one are multipliers of the other.
-/
import Derived.Test.YtpkdhmnlpnijhaaGreatPSzA
namespace Go.Proofs.YtpkdhmnlpnijhaaGreat
set_option linter.unusedVariables false
set_option linter.unusedSimpArgs false
set_option linter.unusedSectionVars false
open Go Go.RowKit
set_option maxRecDepth 100000
section
variable {s : SysD} {goal : List TermD}
theorem low_iff (hs : rightS s = true) (hg : rightT goal s.n = true) {Y : Nat → Rat} (hy : Signs s Y) : (lowerD s goal (fracsOf s.r.length Y)).2 = true ↔ ∀ v, v < s.n.toNat → sumN s.r.length (fun i => Y i * rdG s (indI v) i) ≤ coefT goal v := by
 have h1 := signs_ok hs hy
 have hg' := right_toNat hg
 rw [lowerD_iff]
 constructor
 · rintro ⟨_, _, h⟩ v hv
   have := (belowN_iff (mixT_right hs _) hg').1 h v
   rw [mixT_dot hs, mix_fracs] at this
   exact this
 · intro h
   refine ⟨h1, hg, ?_⟩
   unfold belowN
   simp only [List.all_eq_true, List.mem_range, decide_eq_true_eq]
   intro v hv
   have := h v hv
   rw [← mix_fracs, ← mixT_dot hs] at this
   exact this
theorem signs_of {Y : Nat → Rat} (h : (lowerD s goal (fracsOf s.r.length Y)).2 = true) : Signs s Y := by
 obtain ⟨hr, _, _, h4, _, _⟩ := lower_iff.1 h
 intro i w hw
 have hi := (List.getElem?_eq_some_iff.1 hw).1
 have := List.all_eq_true.1 h4 (w, ofQ (Y i)) (List.mem_of_getElem? (i := i) (by rw [List.getElem?_zip_eq_some]; exact ⟨hw, fracs_get Y hi⟩))
 have := (signOk_iff (okF_ofQ _)).1 this
 rwa [qOf_ofQ] at this
end
end Go.Proofs.YtpkdhmnlpnijhaaGreat
