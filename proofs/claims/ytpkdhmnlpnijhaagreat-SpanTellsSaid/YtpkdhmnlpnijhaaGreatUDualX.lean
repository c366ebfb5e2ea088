/-
  What is small, and the same, in layer 9's reference.
-/
import Derived.Test.YtpkdhmnlpnijhaaGreatUDualW
namespace Go.Proofs.YtpkdhmnlpnijhaaGreat
set_option linter.unusedVariables false
set_option linter.unusedSimpArgs false
set_option linter.unusedSectionVars false
open Go Go.RowKit
set_option maxRecDepth 100000
set_option maxHeartbeats 4000000
theorem samebig9_c (a b : BigD) (ha : (a.d.length : Int) ≤ 9007199254740992) : Contract Tryz.prog 241 [encB a, encB b] (dB (sameB a b)) := by
 refine inC Tryz.func241 rfl Tryz.ntmps241 ?_
 have hres := Tryz.results241
 cases h1 : a.s != b.s; rotate_left
 · refine aGo (cj2 hres h1) ?_
   repeat with_reducible intro K hK
   exact bool_eq (sameB_s h1).symm
 cases h2 : (a.d.length : Int) != b.d.length; rotate_left
 · refine aGo (cj3 hres h1 h2) ?_
   repeat with_reducible intro K hK
   exact bool_eq (sameB_len h2).symm
 have hlen : a.d.length = b.d.length := by simp at h2; omega
 refine aGo (cj3 hres h1 h2) ?_
 repeat with_reducible intro K hK
 refine aLoopT (fun (k : Nat) => [(2, .lp 0 0 0 0), (3, .lp 1 0 0 0), (5, dI k)]) (fun _ => [(0, ⟨30, 0, 2, [cB a], 0, false⟩), (1, ⟨30, 0, 2, [cB b], 0, false⟩)]) 2 0 (fun k => k ≤ a.d.length ∧ a.d.take k = b.d.take k) (fun k => a.d.length - k) 0 ⟨by omega, by simp⟩ ?_ ?_
 · exact leGo trivial
 · rintro k ⟨hk, hd⟩
   obtain ⟨hw, h0⟩ := wrap2 k
   by_cases h3 : (k : Int) < a.d.length
   · obtain ⟨x, hx⟩ := getE (l := a.d) (k := k) (by omega)
     obtain ⟨y, hy⟩ := getE (l := b.d) (k := k) (by omega)
     cases h4 : x != y; rotate_left
     · refine aGo (cj4 hres h0 h3 (cj3 h4 hx hy)) ?_
       repeat with_reducible intro K hK
       exact bool_eq (sameB_at hx hy h4).symm
     · refine aGo (cj4 hres h0 h3 (cj4 h4 hx hy hw)) ?_
       repeat with_reducible intro K hK
       exact loop_end (k + 1) ⟨by omega, take_succ_eq hd hx hy h4⟩ (by omega) (by exact leGo trivial)
   · refine aGo (cj2 hres h3) ?_
     repeat with_reducible intro K hK
     refine bool_eq (Eq.symm (sameB_iff.2 ?_))
     rw [List.take_of_length_le (by omega), List.take_of_length_le (by omega)] at hd
     have h1' : a.s = b.s := by simpa using h1
     cases a; cases b; simp_all
theorem same9_c (f g : FracD) (hf : (szF f : Int) ≤ 9007199254740992) : ContractN Tryz.prog 202 [encF f, encF g] (dB (sameF f g)) := by
 refine Contract.toN ?_ rfl
 refine inC Tryz.func202 rfl Tryz.ntmps202 ?_
 have hres := Tryz.results202
 have h1 := (samebig9_c f.p g.p (by unfold szF at hf; omega)).toN rfl
 have h2 := (samebig9_c f.q g.q (by unfold szF at hf; omega)).toN rfl
 cases h : sameB f.p g.p
 · rw [h] at h1
   refine aGo hres ?_
   repeat with_reducible intro K hK
   exact bool_eq (by simp [sameF, h])
 · rw [h] at h1
   refine aGo hres ?_
   repeat with_reducible intro K hK
   exact bool_eq (by simp [sameF, h])
end Go.Proofs.YtpkdhmnlpnijhaaGreat
