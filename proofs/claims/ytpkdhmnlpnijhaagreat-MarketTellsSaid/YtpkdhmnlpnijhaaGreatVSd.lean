/-
  Solution; the laws SimplexOne and SimplexSolves.
-/
import Derived.Test.YtpkdhmnlpnijhaaGreatVSimI
import Derived.Test.YtpkdhmnlpnijhaaGreatVDualP
namespace Go.Proofs.YtpkdhmnlpnijhaaGreat
set_option linter.unusedVariables false
set_option linter.unusedSimpArgs false
set_option linter.unusedSectionVars false
open Go Go.RowKit
set_option maxRecDepth 100000
set_option maxHeartbeats 8000000
theorem right_nilT {s : SysD} (hr : rightS s = true) : rightT [] s.n = true := by
 have := (rightS_n hr).1
 simp only [rightT, Bool.and_eq_true, decide_eq_true_eq]; exact ⟨this, rfl⟩
def rdF (s : SysD) (f : RowD → Rat) (i : Nat) : Rat := match s.r[i]? with
 | some w => f w
 | none => 0
section
variable {s : SysD} {goal : List TermD}
theorem list_fracs {x : List FracD} (ho : okP x = true) : x = fracsOf x.length fun u => atP x u := by
 refine List.ext_getElem (by rw [fracs_len]) fun i h1 h2 => ?_
 have e := fracs_get (fun u => atP x u) h1
 rw [List.getElem?_eq_getElem h2] at e
 have e2 : atP x (i : Nat) = qOf x[i] := by unfold atP; rw [Int.toNat_natCast, List.getElem?_eq_getElem h1]; rfl
 rw [Option.some.inj e, e2]
 exact okF_eq (List.all_eq_true.1 ho _ (List.getElem_mem h1))
theorem low_iff (hs : rightS s = true) (hg : rightT goal s.n = true) {Y : Nat → Rat} (hy : Signs s Y) : (lowerD s goal (fracsOf s.r.length Y)).2 = true ↔ ∀ v, v < s.n.toNat → sumN s.r.length (fun i => Y i * rdG s (indI v) i) ≤ coefT goal v := by
 have h1 := signs_ok hs hy
 have hg' := right_toNat hg
 rw [lowerD_iff]
 constructor
 · rintro ⟨_, _, h⟩ v hv
   have := (belowN_iff (mixT_right hs _) hg').1 h v
   rw [mixT_dot hs, mix_fracs] at this
   exact this
 · intro h
   refine ⟨h1, hg, ?_⟩
   unfold belowN
   simp only [List.all_eq_true, List.mem_range, decide_eq_true_eq]
   intro v hv
   have := h v hv
   rw [← mix_fracs, ← mixT_dot hs] at this
   exact this
theorem signs_of {Y : Nat → Rat} (h : (lowerD s goal (fracsOf s.r.length Y)).2 = true) : Signs s Y := by
 obtain ⟨hr, _, _, h4, _, _⟩ := lower_iff.1 h
 intro i w hw
 have hi := (List.getElem?_eq_some_iff.1 hw).1
 have := List.all_eq_true.1 h4 (w, ofQ (Y i)) (List.mem_of_getElem? (i := i) (by rw [List.getElem?_zip_eq_some]; exact ⟨hw, fracs_get Y hi⟩))
 have := (signOk_iff (okF_ofQ _)).1 this
 rwa [qOf_ofQ] at this
theorem hold_iff (hs : rightS s = true) {X : Nat → Rat} (h0 : ∀ v, v < s.n.toNat → 0 ≤ X v) : holdsS s (fracsOf s.n.toNat X) = true ↔ ∀ (i : Nat) (w : RowD), s.r[i]? = some w → fitsK w.k (sgQ (sumN s.n.toNat (fun v => coefT w.t v * X v) - qOf w.v)) = true := by
 have hn := rightS_n hs
 have hd : ∀ w ∈ s.r, dotD w.t (fracsOf s.n.toNat X) = sumN s.n.toNat fun v => coefT w.t v * X v := fun w hw => dot_fracs (rightS_row hs hw).1 X
 rw [holdsS_iff]
 constructor
 · rintro ⟨_, _, _, _, h⟩ i w hw
   have := List.all_eq_true.1 h w (List.mem_of_getElem? hw)
   unfold holdsW at this
   rwa [hd w (List.mem_of_getElem? hw)] at this
 · intro h
   refine ⟨hs, by rw [fracs_len]; omega, fracs_ok _ _, fracs_nonneg h0, List.all_eq_true.2 fun w hw => ?_⟩
   obtain ⟨i, hi⟩ := List.getElem?_of_mem hw
   unfold holdsW
   rw [hd w hw]; exact h i w hi
theorem nonneg_of {n : Nat} {X : Nat → Rat} (h : nonneg (fracsOf n X) = true) {v : Nat} (hv : v < n) : 0 ≤ X v := by
 have := List.all_eq_true.1 h (ofQ (X v)) (List.mem_of_getElem? (fracs_get X hv))
 have := (sgnD_nonneg (okF_ofQ _)).1 (of_decide_eq_true this)
 rwa [qOf_ofQ] at this
theorem rdG_ind (v : Nat) (i : Nat) : rdG s (indI v) i = rdF s (fun w => coefT w.t v) i := by unfold rdG rdF coefT; rfl
end
theorem rnegF_c (a : Rat) (za : (szQ a : Int) ≤ 549755813888) : Contract Tryz.prog 93 [encF (ofQ a)] (encF (ofQ (-a))) := by
 have hres := Tryz.results93
 have h1 := (rrightF_c (ofQ a) za).toN rfl
 rw [okF_ofQ] at h1
 have h2 := rneg_c a.num (by have : szZ a.num ≤ szQ a := by rw [szQ_eq]; omega
                             omega)
 have e : ofQ (-a) = ⟨ofZ (-a.num), ofZ a.den⟩ := by simp only [ofQ, Rat.neg_num, Rat.neg_den]
 rw [e]
 refine inC Tryz.func93 rfl Tryz.ntmps93 ?_
 refine aGo hres ?_
 repeat with_reducible intro K hK
 rfl
section
variable [Ifl] {P : Program} {f : FuncId} {ds : List D} {m : Mem} {nx : Nat}
end
end Go.Proofs.YtpkdhmnlpnijhaaGreat
