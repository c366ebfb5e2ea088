/-
  What is small, and the same, in layer 9's reference.
-/
import Derived.Test.YtpkdhmnlpnijhaaGreatQDualW
namespace Go.Proofs.YtpkdhmnlpnijhaaGreat
set_option linter.unusedVariables false
set_option linter.unusedSimpArgs false
set_option linter.unusedSectionVars false
open Go Go.RowKit
set_option maxRecDepth 100000
set_option maxHeartbeats 4000000
theorem short9_c (f : FracD) : ContractN Tryz.prog 119 [encF f] (dB (fewF 6 f)) := by
 refine Contract.toN ?_ rfl
 have e : fewF 6 f = (decide ((f.p.d.length : Int) ≤ 6) && decide ((f.q.d.length : Int) ≤ 6)) := rfl
 rw [e]
 refine inC Tryz.func119 rfl Tryz.ntmps119 ?_
 have hres := Tryz.results119
 by_cases h1 : (f.p.d.length : Int) ≤ 6
 · by_cases h2 : (f.q.d.length : Int) ≤ 6
   · exact aGo (cj3 hres h1 h2) trivial
   · exact aGo (cj3 hres h1 h2) trivial
 · exact aGo (cj2 hres h1) trivial
theorem shorts9_c (x : List FracD) (most : Int) (hm : 0 ≤ most ∧ most ≤ 4096) : ContractN Tryz.prog 27 [encFs x, dI most] (dB (fewP x most 6)) := by
 refine Contract.toN ?_ rfl
 refine inC Tryz.func27 rfl Tryz.ntmps27 ?_
 have hres := Tryz.results27
 refine aGo hres ?_
 repeat with_reducible intro K hK
 refine aLoopT (fun (k : Nat) => [(0, encFs x), (1, dI most), (5, dI k)]) (fun _ => []) 0 0 (fun k => k ≤ x.length ∧ (k : Int) ≤ most + 1 ∧ (x.take k).all (fewF 6) = true) (fun k => x.length - k) 0 ⟨by omega, by omega, rfl⟩ ?_ ?_
 · exact leGo trivial
 · rintro k ⟨hk, hk2, hg⟩
   have hw := wrap1 k
   have h0 : (0 : Int) ≤ k := by omega
   by_cases h1 : (k : Int) < x.length
   · by_cases h2 : (k : Int) ≤ most
     · obtain ⟨f, hx⟩ := getE (l := x) (k := k) (by omega)
       have hc := short9_c f
       cases h3 : fewF 6 f
       · rw [h3] at hc
         refine aGo (cj4 hres h0 h1 (cj3 h2 hx hw)) ?_
         repeat with_reducible intro K hK
         exact bool_eq (by simp only [fewP, all_not hx h3, Bool.and_false])
       · rw [h3] at hc
         refine aGo (cj4 hres h0 h1 (cj3 h2 hx hw)) ?_
         repeat with_reducible intro K hK
         exact loop_end (k + 1) ⟨by omega, by omega, all_take_succ hx hg h3⟩ (by omega) (by exact leGo trivial)
     · have h3 : ¬ (x.length : Int) ≤ most := by omega
       refine aGo (cj4 hres h1 h2 h3) ?_
       repeat with_reducible intro K hK
       exact bool_eq (by simp [fewP, h3])
   · rw [List.take_of_length_le (by omega)] at hg
     refine aGo (cj2 hres h1) ?_
     repeat with_reducible intro K hK
     exact bool_eq (by simp only [fewP, hg, Bool.and_true])
end Go.Proofs.YtpkdhmnlpnijhaaGreat
