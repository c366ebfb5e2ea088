/-
  Solution; the laws SimplexOne and SimplexSolves.
-/
import Derived.Test.YtpkdhmnlpnijhaaGreatUSimI
import Derived.Test.YtpkdhmnlpnijhaaGreatUDualP
namespace Go.Proofs.YtpkdhmnlpnijhaaGreat
set_option linter.unusedVariables false
set_option linter.unusedSimpArgs false
set_option linter.unusedSectionVars false
open Go Go.RowKit
set_option maxRecDepth 100000
set_option maxHeartbeats 8000000
theorem right_nilT {s : SysD} (hr : rightS s = true) : rightT [] s.n = true := by
 have := (rightS_n hr).1
 simp only [rightT, Bool.and_eq_true, decide_eq_true_eq]; exact ⟨this, rfl⟩
section
variable {s : SysD} {goal : List TermD}
theorem low_iff (hs : rightS s = true) (hg : rightT goal s.n = true) {Y : Nat → Rat} (hy : Signs s Y) : (lowerD s goal (fracsOf s.r.length Y)).2 = true ↔ ∀ v, v < s.n.toNat → sumN s.r.length (fun i => Y i * rdG s (indI v) i) ≤ coefT goal v := by
 have h1 := signs_ok hs hy
 have hg' := right_toNat hg
 rw [lowerD_iff]
 constructor
 · rintro ⟨_, _, h⟩ v hv
   have := (belowN_iff (mixT_right hs _) hg').1 h v
   rw [mixT_dot hs, mix_fracs] at this
   exact this
 · intro h
   refine ⟨h1, hg, ?_⟩
   unfold belowN
   simp only [List.all_eq_true, List.mem_range, decide_eq_true_eq]
   intro v hv
   have := h v hv
   rw [← mix_fracs, ← mixT_dot hs] at this
   exact this
theorem signs_of {Y : Nat → Rat} (h : (lowerD s goal (fracsOf s.r.length Y)).2 = true) : Signs s Y := by
 obtain ⟨hr, _, _, h4, _, _⟩ := lower_iff.1 h
 intro i w hw
 have hi := (List.getElem?_eq_some_iff.1 hw).1
 have := List.all_eq_true.1 h4 (w, ofQ (Y i)) (List.mem_of_getElem? (i := i) (by rw [List.getElem?_zip_eq_some]; exact ⟨hw, fracs_get Y hi⟩))
 have := (signOk_iff (okF_ofQ _)).1 this
 rwa [qOf_ofQ] at this
end
theorem rnegF_c (a : Rat) (za : (szQ a : Int) ≤ 549755813888) : Contract Tryz.prog 93 [encF (ofQ a)] (encF (ofQ (-a))) := by
 have hres := Tryz.results93
 have h1 := (rrightF_c (ofQ a) za).toN rfl
 rw [okF_ofQ] at h1
 have h2 := rneg_c a.num (by have : szZ a.num ≤ szQ a := by rw [szQ_eq]; omega
                             omega)
 have e : ofQ (-a) = ⟨ofZ (-a.num), ofZ a.den⟩ := by simp only [ofQ, Rat.neg_num, Rat.neg_den]
 rw [e]
 refine inC Tryz.func93 rfl Tryz.ntmps93 ?_
 refine aGo hres ?_
 repeat with_reducible intro K hK
 rfl
section
variable [Ifl] {P : Program} {f : FuncId} {ds : List D} {m : Mem} {nx : Nat}
end
end Go.Proofs.YtpkdhmnlpnijhaaGreat
