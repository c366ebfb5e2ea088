/-
  The law's helpers: num, terms, row; the reference's Plain, Short, Few.
-/
import Derived.Test.YtpkdhmnlpnijhaaGreatPDualX
import Derived.Test.YtpkdhmnlpnijhaaGreatPDualW
import Derived.Test.YtpkdhmnlpnijhaaGreatPSimD
import Derived.Test.YtpkdhmnlpnijhaaGreatPSimI
import Derived.Test.YtpkdhmnlpnijhaaGreatPRd
import Derived.Test.YtpkdhmnlpnijhaaGreatPDualP
namespace Go.Proofs.YtpkdhmnlpnijhaaGreat
set_option linter.unusedVariables false
set_option linter.unusedSimpArgs false
set_option linter.unusedSectionVars false
open Go Go.RowKit
set_option maxRecDepth 100000
set_option maxHeartbeats 8000000
theorem num10_c (p q : Int) (hq : q ≠ 0) (p1 : -9223372036854775808 ≤ p) (p2 : p ≤ 9223372036854775807) (q1 : -9223372036854775808 ≤ q) (q2 : q ≤ 9223372036854775807) : Contract Tryz.prog 56 [dI p, dI q] (encF (ofQ (Rat.divInt p q))) := by
 have k1 := rof_c p q hq p1 p2 q1 q2
 refine inC Tryz.func56 rfl Tryz.ntmps56 ?_
 have hres := Tryz.results56
 exact aGo hres trivial
theorem plain10_c (l : List TermD) (most : Int) (hm : 0 ≤ most ∧ most ≤ 4096) : ContractN Tryz.prog 59 [encTs l, dI most] (dB (fewT l most 1)) := by
 refine Contract.toN ?_ rfl
 refine inC Tryz.func59 rfl Tryz.ntmps59 ?_
 have hres := Tryz.results59
 refine aGo hres ?_
 repeat with_reducible intro K hK
 refine aLoopT (fun (k : Nat) => [(0, encTs l), (1, dI most), (5, dI k)]) (fun _ => []) 0 0 (fun k => k ≤ l.length ∧ (k : Int) ≤ most + 1 ∧ (l.take k).all (fun t => fewF 1 t.f) = true) (fun k => l.length - k) 0 ⟨by omega, by omega, rfl⟩ ?_ ?_
 · exact leGo trivial
 · rintro k ⟨hk, hk2, hg⟩
   have hw := wrap1 k
   have h0 : (0 : Int) ≤ k := by omega
   by_cases h1 : (k : Int) < l.length
   · by_cases h2 : (k : Int) ≤ most
     · obtain ⟨t, hx⟩ := getE (l := l) (k := k) (by omega)
       have hc := (rfew_c t.f 1).toN rfl
       cases h3 : fewF 1 t.f
       · unfold fewF at h3; rw [h3] at hc
         refine aGo (cj4 hres h0 h1 (cj3 h2 hx hw)) ?_
         repeat with_reducible intro K hK
         exact bool_eq (by simp only [fewT, all_not (p := fun t : TermD => fewF 1 t.f) hx h3, Bool.and_false])
       · have h3' := h3
         unfold fewF at h3'; rw [h3'] at hc
         refine aGo (cj4 hres h0 h1 (cj3 h2 hx hw)) ?_
         repeat with_reducible intro K hK
         exact loop_end (k + 1) ⟨by omega, by omega, all_take_succ hx hg h3⟩ (by omega) (by exact leGo trivial)
     · have h3 : ¬ (l.length : Int) ≤ most := by omega
       refine aGo (cj4 hres h1 h2 h3) ?_
       repeat with_reducible intro K hK
       exact bool_eq (by simp [fewT, h3])
   · rw [List.take_of_length_le (by omega)] at hg
     refine aGo (cj2 hres h1) ?_
     repeat with_reducible intro K hK
     exact bool_eq (by simp only [fewT, hg, Bool.and_true])
def few10 (s : SysD) (goal : List TermD) : Bool := !(decide (s.n > 5) && decide (s.n ≤ 1500)) && !decide ((s.r.length : Int) > 6) && fewT goal 6 1 && s.r.all (fun w => fewT w.t 6 1 && fewF 1 w.v)
theorem few10_c (s : SysD) (goal : List TermD) : ContractN Tryz.prog 8 [encS s, encTs goal] (dB (few10 s goal)) := by
 refine Contract.toN ?_ rfl
 have hres := Tryz.results8
 have kg := plain10_c goal 6 (by decide)
 by_cases h1 : s.n > 5 ∧ s.n ≤ 1500
 · obtain ⟨a1, a2⟩ := h1
   refine inC Tryz.func8 rfl Tryz.ntmps8 ?_
   refine aGo (cj3 hres a1 a2) ?_
   repeat with_reducible intro K hK
   exact bool_eq (by simp [few10, a1, a2])
 have hn : (decide (s.n > 5) && decide (s.n ≤ 1500)) = false := by
  simp only [Bool.and_eq_false_iff, decide_eq_false_iff_not]; omega
 by_cases h2 : (s.r.length : Int) > 6
 · refine inC Tryz.func8 rfl Tryz.ntmps8 ?_
   by_cases a1 : s.n > 5
   · have a2 : ¬ s.n ≤ 1500 := by omega
     refine aGo (cj4 hres a1 a2 h2) ?_
     repeat with_reducible intro K hK
     exact bool_eq (by simp [few10, hn, h2])
   · refine aGo (cj3 hres a1 h2) ?_
     repeat with_reducible intro K hK
     exact bool_eq (by simp [few10, hn, h2])
 cases h3 : fewT goal 6 1
 · rw [h3] at kg
   refine inC Tryz.func8 rfl Tryz.ntmps8 ?_
   by_cases a1 : s.n > 5
   · have a2 : ¬ s.n ≤ 1500 := by omega
     refine aGo (cj4 hres a1 a2 h2) ?_
     repeat with_reducible intro K hK
     exact bool_eq (by simp [few10, h3])
   · refine aGo (cj3 hres a1 h2) ?_
     repeat with_reducible intro K hK
     exact bool_eq (by simp [few10, h3])
 rw [h3] at kg
 have e0 : few10 s goal = s.r.all (fun w => fewT w.t 6 1 && fewF 1 w.v) := by unfold few10; rw [hn, h3, decide_eq_false h2]; rfl
 rw [e0]
 refine inC Tryz.func8 rfl Tryz.ntmps8 ?_
 by_cases a1 : s.n > 5
 · have a2 : ¬ s.n ≤ 1500 := by omega
   refine aGo (cj4 hres a1 a2 h2) ?_
   repeat with_reducible intro K hK
   refine aLoopT (fun (k : Nat) => [(2, .lp 0 0 0 0), (5, dI k)]) (fun _ => [(0, ⟨24, 0, 2, [cS s], 0, false⟩)]) 1 0 (fun k => k ≤ s.r.length ∧ (s.r.take k).all (fun w => fewT w.t 6 1 && fewF 1 w.v) = true) (fun k => s.r.length - k) 0 ⟨by omega, rfl⟩ ?_ ?_
   · exact leGo trivial
   · rintro k ⟨hk, hg⟩
     have hw := wrap1 k
     have h0 : (0 : Int) ≤ k := by omega
     by_cases h4 : (k : Int) < s.r.length
     · obtain ⟨w, hx⟩ := getE (l := s.r) (k := k) (by omega)
       have kt := plain10_c w.t 6 (by decide)
       have kf := (rfew_c w.v 1).toN rfl
       rw [show (decide ((w.v.p.d.length : Int) ≤ 1) && decide ((w.v.q.d.length : Int) ≤ 1)) = fewF 1 w.v from rfl] at kf
       cases h5 : fewT w.t 6 1
       · rw [h5] at kt
         refine aGo (cj4 hres h0 h4 (cj2 hx hw)) ?_
         repeat with_reducible intro K hK
         exact bool_eq (by rw [all_not (p := fun w : RowD => fewT w.t 6 1 && fewF 1 w.v) hx (by simp only [h5, Bool.false_and])])
       rw [h5] at kt
       cases h6 : fewF 1 w.v
       · rw [h6] at kf
         refine aGo (cj4 hres h0 h4 (cj2 hx hw)) ?_
         repeat with_reducible intro K hK
         exact bool_eq (by rw [all_not (p := fun w : RowD => fewT w.t 6 1 && fewF 1 w.v) hx (by simp only [h6, Bool.and_false])])
       · rw [h6] at kf
         refine aGo (cj4 hres h0 h4 (cj2 hx hw)) ?_
         repeat with_reducible intro K hK
         exact loop_end (k + 1) ⟨by omega, all_take_succ (p := fun w : RowD => fewT w.t 6 1 && fewF 1 w.v) hx hg (by simp only [h5, h6, Bool.and_self])⟩ (by omega) (by exact leGo trivial)
     · rw [List.take_of_length_le (by omega)] at hg
       refine aGo (cj2 hres h4) ?_
       repeat with_reducible intro K hK
       exact bool_eq hg.symm
 · refine aGo (cj3 hres a1 h2) ?_
   repeat with_reducible intro K hK
   refine aLoopT (fun (k : Nat) => [(2, .lp 0 0 0 0), (5, dI k)]) (fun _ => [(0, ⟨24, 0, 2, [cS s], 0, false⟩)]) 1 0 (fun k => k ≤ s.r.length ∧ (s.r.take k).all (fun w => fewT w.t 6 1 && fewF 1 w.v) = true) (fun k => s.r.length - k) 0 ⟨by omega, rfl⟩ ?_ ?_
   · exact leGo trivial
   · rintro k ⟨hk, hg⟩
     have hw := wrap1 k
     have h0 : (0 : Int) ≤ k := by omega
     by_cases h4 : (k : Int) < s.r.length
     · obtain ⟨w, hx⟩ := getE (l := s.r) (k := k) (by omega)
       have kt := plain10_c w.t 6 (by decide)
       have kf := (rfew_c w.v 1).toN rfl
       rw [show (decide ((w.v.p.d.length : Int) ≤ 1) && decide ((w.v.q.d.length : Int) ≤ 1)) = fewF 1 w.v from rfl] at kf
       cases h5 : fewT w.t 6 1
       · rw [h5] at kt
         refine aGo (cj4 hres h0 h4 (cj2 hx hw)) ?_
         repeat with_reducible intro K hK
         exact bool_eq (by rw [all_not (p := fun w : RowD => fewT w.t 6 1 && fewF 1 w.v) hx (by simp only [h5, Bool.false_and])])
       rw [h5] at kt
       cases h6 : fewF 1 w.v
       · rw [h6] at kf
         refine aGo (cj4 hres h0 h4 (cj2 hx hw)) ?_
         repeat with_reducible intro K hK
         exact bool_eq (by rw [all_not (p := fun w : RowD => fewT w.t 6 1 && fewF 1 w.v) hx (by simp only [h6, Bool.and_false])])
       · rw [h6] at kf
         refine aGo (cj4 hres h0 h4 (cj2 hx hw)) ?_
         repeat with_reducible intro K hK
         exact loop_end (k + 1) ⟨by omega, all_take_succ (p := fun w : RowD => fewT w.t 6 1 && fewF 1 w.v) hx hg (by simp only [h5, h6, Bool.and_self])⟩ (by omega) (by exact leGo trivial)
     · rw [List.take_of_length_le (by omega)] at hg
       refine aGo (cj2 hres h4) ?_
       repeat with_reducible intro K hK
       exact bool_eq hg.symm
theorem fewF_le {n : Int} {f : FracD} (h : fewF n f = true) (k : Nat) (hk : n ≤ k) : szF f ≤ k := by
 have := fewF_sz h; omega
theorem fit_few {s : SysD} {goal : List TermD} (h : few10 s goal = true) : Fit s goal := by
 simp only [few10, Bool.and_eq_true, Bool.not_eq_true', Bool.and_eq_false_iff, decide_eq_false_iff_not, fewT, decide_eq_true_eq, List.all_eq_true] at h
 obtain ⟨⟨⟨h1, h2⟩, h3, h4⟩, h5⟩ := h
 have hn : rightS s = true → s.n ≤ 5 := fun hr => by have := (rightS_n hr).2; omega
 refine Fit.mk5 (by omega) (fun hr => by have := hn hr; omega) (fun hr => .inl (by have := hn hr; omega)) (fun w hw => ?_) ⟨by omega, fun t ht => fewF_le (h4 t ht) 2 (by decide)⟩
 obtain ⟨⟨a1, a2⟩, a3⟩ := h5 w hw
 exact ⟨by omega, fewF_le a3 2 (by decide), fun t ht => fewF_le (a2 t ht) 2 (by decide)⟩
theorem dot_sz (g : Int → Rat) {B C : Nat} (hg : ∀ v, szQ (g v) ≤ B) : ∀ l : List TermD, (∀ t ∈ l, okF t.f = true ∧ szF t.f ≤ C) → szQ (dotS g l) ≤ 1 + l.length * (B + C + 1)
 | [], _ => by have := sz_0; simp only [dotS, List.length_nil]; omega
 | t :: l, h => by
   have ih := dot_sz g hg l fun u hu => h u (List.mem_cons_of_mem _ hu)
   obtain ⟨h1, h2⟩ := h t List.mem_cons_self
   simp only [dotS, List.length_cons]
   have a := szQ_mul (qOf t.f) (g t.v)
   rw [szF_ok h1] at a
   have b := szQ_add (qOf t.f * g t.v) (dotS g l)
   have c := hg t.v
   rw [Nat.add_mul, Nat.one_mul]
   omega
section
variable {s : SysD} {goal : List TermD} {B T : Nat}
theorem value_sz (h : Fit s goal B T) (hr : rightS s = true) (hg : rightT goal s.n = true) : szF (valueD goal (fracsOf s.n.toNat (pointK (fin s goal) (fin s goal).m))).1 ≤ 1 + goal.length * (Dic.grow B T + B + 1) := by
 unfold valueD
 split
 · have hb : ∀ v, szQ (atP (fracsOf s.n.toNat (pointK (fin s goal) (fin s goal).m)) v) ≤ Dic.grow B T := by
     intro v
     unfold atP
     cases hx : (fracsOf s.n.toNat (pointK (fin s goal) (fin s goal).m))[v.toNat]? with
     | none =>
       have h1 : szQ (qOf zF) ≤ 1 := by decide +kernel
       have h2 := h.b
       have h3 := grow_ge B T
       simp only [Option.getD_none]; omega
     | some f =>
       obtain ⟨u, _, rfl⟩ := fracs_mem (mem_at hx)
       simp only [Option.getD_some, qOf_ofQ]
       exact point_sz h hr hg _ (Nat.le_refl _) u
   have := dot_sz _ hb goal fun t ht => ⟨(rightT_mem hg ht).2.2.1, h.g.2 t ht⟩
   rw [← dotD_eq] at this
   simp only [szQ_ofQ]
   exact this
 · exact Nat.zero_le _
theorem fin_g (h : Fit s goal B T) (hr : rightS s = true) (hg : rightT goal s.n = true) : ∀ j, j < (fin s goal).n → szQ ((fin s goal).g j) ≤ Dic.grow B T := (fin_sized h hr hg).g
theorem least_tnB (h : Fit s goal B T) (hN : (s.n.toNat + 1) * (Dic.grow B T + B + 1) ≤ 262144) (hL : (goal.length + 1) * (Dic.grow B T + B + 1) ≤ 262144) (hr : rightS s = true) (hg : rightT goal s.n = true) : tnO (leastE s goal) := by
 have hn := h.n hr
 have hn0 := (rightS_n hr).1
 have hl := h.l
 have hG := h.gl
 have nil : tnFs [] := ⟨by decide, fun t ht => by cases ht⟩
 have z : tnF zF := by show (szF zF : Int) ≤ 262144; decide
 have hf0 := h.nil
 have hg0 : rightT [] s.n = true := by simp only [rightT, Bool.and_eq_true, decide_eq_true_eq]; exact ⟨hn0, rfl⟩
 unfold leastE
 have ref : ∀ g, Fit s g B T → rightT g s.n = true → ∀ r, r < (fin s g).m → tnFs (fracsOf s.r.length (refK (fin s g) (srcOf s g) r s.n.toNat)) := by
  intro g hg1 hg2 r hrm
  refine tn_fracs (by omega) fun u => ?_
  have := ref_sz (fin s g) (srcOf s g) r (B := Dic.grow B T) (by have := h.b; have := grow_ge B T; omega) (fun j hj => (fin_sized hg1 hr hg2).a r j hrm hj) s.n.toNat (by rw [fin_n]; exact Nat.le_refl _) u
  have hm := Nat.mul_le_mul_left (s.n.toNat + 1) (show Dic.grow B T + 1 + 1 ≤ Dic.grow B T + B + 1 by have := h.b; omega)
  rw [Nat.mul_succ] at hm
  omega
 cases hnx : next (fin s goal) with
 | ex r c => exact ⟨z, nil, nil, nil⟩
 | best =>
   have hv : (szF (valueD goal (fracsOf s.n.toNat (pointK (fin s goal) (fin s goal).m))).1 : Int) ≤ 262144 := by have := value_sz h hr hg; rw [Nat.add_mul] at hL; omega
   refine ⟨hv, tn_fracs (by omega) fun u => by have := point_sz h hr hg _ (Nat.le_refl _) u; omega, tn_fracs (by omega) fun u => ?_, nil⟩
   have := prices_sz (fin s goal) (srcOf s goal) (B := Dic.grow B T) (fin_g h hr hg) s.n.toNat (by rw [fin_n]; exact Nat.le_refl _) u
   have hm := Nat.mul_le_mul_left (s.n.toNat + 1) (show Dic.grow B T + 1 + 1 ≤ Dic.grow B T + B + 1 by have := h.b; omega)
   rw [Nat.mul_succ, Nat.add_mul, Nat.one_mul] at hm
   omega
 | row r => exact ⟨z, nil, ref goal h hg r (row_of_next hnx).1, nil⟩
 | col c =>
   have hc := (col_of_next hnx).1
   have hray : tnFs (fracsOf s.n.toNat (rayK (fin s goal) c (fin s goal).m)) := tn_fracs (by omega) fun u => by have := ray_sz h hr hg hc _ (Nat.le_refl _) u; omega
   have hpt : tnFs (fracsOf s.n.toNat (pointK (fin s []) (fin s []).m)) := tn_fracs (by omega) fun u => by have := point_sz hf0 hr hg0 _ (Nat.le_refl _) u; omega
   simp only
   cases hnE : next (fin s []) with
   | ex r c => exact ⟨z, hpt, nil, hray⟩
   | best => exact ⟨z, hpt, nil, hray⟩
   | col c => exact ⟨z, hpt, nil, hray⟩
   | row r => exact ⟨z, nil, ref [] hf0 hg0 r (row_of_next hnE).1, nil⟩
theorem least_tn (h : Fit s goal) (hr : rightS s = true) (hg : rightT goal s.n = true) : tnO (leastE s goal) := by
 have hn := h.n hr
 have hl := h.g.1
 have h1 := Nat.mul_le_mul_right (Dic.grow 2 6 + 2 + 1) (show s.n.toNat + 1 ≤ 17 by omega)
 have h2 := Nat.mul_le_mul_right (Dic.grow 2 6 + 2 + 1) (show goal.length + 1 ≤ 17 by omega)
 rw [grow_26] at h1 h2
 exact least_tnB h (by rw [grow_26]; omega) (by rw [grow_26]; omega) hr hg
end
theorem right_check {s : SysD} {goal : List TermD} {o : OptD} (h : checkD s goal o = true) : rightS s = true ∧ rightT goal s.n = true := by
 unfold checkD at h
 simp only [Bool.and_eq_true] at h
 exact h.1
noncomputable def solD (s : SysD) : List FracD × List FracD × Bool := if rightS s then (if (leastE s []).k = 1 then ([], (leastE s []).y, false) else ((leastE s []).x, [], true)) else ([], [], false)
theorem right_nilT {s : SysD} (hr : rightS s = true) : rightT [] s.n = true := by
 have := (rightS_n hr).1
 simp only [rightT, Bool.and_eq_true, decide_eq_true_eq]; exact ⟨this, rfl⟩
theorem solution_c (s : SysD) {B T : Nat} (h : Fit s [] B T) : Contract Tryz.prog 11 [encS s] (.tup [encFs (solD s).1, encFs (solD s).2.1, dB (solD s).2.2]) := by
 have hres := Tryz.results11
 have kl := least_c s [] h
 cases hr : rightS s
 · rw [show leastD s [] = (⟨0, zF, [], [], []⟩, 1) by unfold leastD; rw [hr]; rfl] at kl
   have e1 : solD s = ([], [], false) := by unfold solD; rw [hr]; rfl
   rw [e1]
   refine inC Tryz.func11 rfl Tryz.ntmps11 ?_
   have b1 : ((1 : Int) != 0) = true := rfl
   refine aGo (cj2 hres b1) ?_
   repeat with_reducible intro K hK
   rfl
 rw [show leastD s [] = (leastE s [], 0) by unfold leastD; rw [hr, right_nilT hr]; rfl] at kl
 by_cases h1 : (leastE s []).k = 1
 · have e1 : solD s = ([], (leastE s []).y, false) := by unfold solD; rw [hr, if_pos h1]; rfl
   rw [e1]
   have e2 : ((leastE s []).k == 1) = true := by rw [h1]; rfl
   refine inC Tryz.func11 rfl Tryz.ntmps11 ?_
   refine aGo (cj2 hres e2) ?_
   repeat with_reducible intro K hK
   rfl
 · have e1 : solD s = ((leastE s []).x, [], true) := by unfold solD; rw [hr, if_neg h1]; rfl
   rw [e1]
   have e2 : ((leastE s []).k == 1) = false := by simp [h1]
   refine inC Tryz.func11 rfl Tryz.ntmps11 ?_
   refine aGo (cj2 hres e2) ?_
   repeat with_reducible intro K hK
   rfl
end Go.Proofs.YtpkdhmnlpnijhaaGreat
