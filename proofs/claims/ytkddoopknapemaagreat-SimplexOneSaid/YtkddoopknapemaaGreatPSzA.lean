/-
  The law's helpers: num, terms, row; the reference's Plain, Short, Few.
-/
import Derived.Test.YtkddoopknapemaaGreatPDualX
import Derived.Test.YtkddoopknapemaaGreatPDualW
import Derived.Test.YtkddoopknapemaaGreatPSimD
import Derived.Test.YtkddoopknapemaaGreatPSimI
import Derived.Test.YtkddoopknapemaaGreatPRd
import Derived.Test.YtkddoopknapemaaGreatPDualP
namespace Go.Proofs.YtkddoopknapemaaGreat
set_option linter.unusedVariables false
set_option linter.unusedSimpArgs false
set_option linter.unusedSectionVars false
open Go Go.RowKit
attribute [local go_sem] opsL_nil opsL_go opsL_guard gSel_tt gSel_ff gSel_tf gSel_ft stepR_some stepR_none callS_some callE_some runL_nil runL_go runL_guard gSelE_tt gSelE_ff gSelE_tf gSelE_ft stepE_some stepE_none opF callD rd constD putT upd_get guardL gOf_bool gOf_undef fieldAddrF fieldF loadF storeF indexAddrF indexF sliceF strSliceF bound buildF fillF buildSliceF elemsF allocF makeSliceF lenF elemsOf appendF minmaxF convertF boxF ldE blkAt spliceE D.cells? D.isCell Res.pure ov TyI.agg binD unD boolD initT thenA inBlockA argD argDs refsD refsL killW datJ datJs endA_ret endA_normal endR_some oneD_one oneD_two oneD_three oneD_four resDs resD fzT Value.oneCell' strip tabT tabM
attribute [local go_sem] List.map Nat.reduceEqDiff Nat.reduceBEq List.getElem?_cons_zero List.getElem?_cons_succ List.getElem?_nil Option.getD_some Option.getD_none true_and and_true true_or or_true false_or or_false and_self Nat.add_zero Nat.zero_add List.length_nil List.length_cons forall_const ite_true ite_false Bool.or_self Bool.false_eq_true Option.map_some Option.map_none beq_self_eq_true Nat.reduceAdd Nat.reduceSub Nat.reduceMul reduceCtorEq List.getElem?_toArray Bool.not_true Bool.not_false decide_eq_true_eq decide_true decide_false Nat.reduceLeDiff Nat.reduceLT Bool.or_false Bool.or_true Bool.and_true Bool.and_false Bool.false_and Bool.true_and Bool.true_beq Bool.false_beq beq_true beq_false Bool.not_eq_true List.drop_succ_cons List.take_succ_cons List.drop_zero List.take_zero List.length_map List.getElem?_map List.length_append List.all_cons List.all_nil List.append_nil List.nil_append List.cons_append List.set_cons_zero List.set_cons_succ Int.toNat_natCast Int.toNat_zero Option.isSome_some Option.isSome_none Array.size_empty ByteArray.size_empty Int.reduceToNat Int.reduceAdd Int.reduceSub Int.reduceLT Int.reduceLE Int.reduceEq Int.reduceNe Int.reduceBEq Int.reduceNeg List.forall_mem_cons List.not_mem_nil false_implies List.forall_mem_map implies_true Nat.reduceBNe Int.cast_ofNat_Int Int.reduceMul Int.reduceGE Int.reduceGT wrap_in ty_2 ty_3 ty_4 ty_5 ty_6 ty_7 ty_8 ty_9 ty_10 ty_11 ty_12 ty_13 ty_14 ty_18 ty_19 ty_21 ty_22 ty_23 ty_24 ty_25 ty_28 ty_29 ty_30 ty_31 ty_32 ty_33 ty_34 ty_35 ty_36 ty_55 ty_56 ty_57 ty_64 ty_65 ty_76 ty_77 ty_100 ty_101 ty_119 ty_120 ty_121 ty_122 ty_125 ty_126 ty_131 ty_132 ty_133 ty_134 ty_152 ty_153 ty_169 ty_170 ty_176 ty_177 ty_178 ty_179 ty_180 ty_181 ty_182 ty_183 ty_186 ty_187 ty_188 ty_189
set_option maxRecDepth 100000
set_option maxHeartbeats 8000000
theorem num10_c (p q : Int) (hq : q ≠ 0) (p1 : -9223372036854775808 ≤ p) (p2 : p ≤ 9223372036854775807) (q1 : -9223372036854775808 ≤ q) (q2 : q ≤ 9223372036854775807) : Contract Tryz.prog 20 [dI p, dI q] (encF (ofQ (Rat.divInt p q))) := by
 have k1 := rof_c p q hq p1 p2 q1 q2
 refine Contract.ofA (CallA.inline Tryz.func20 rfl (by kernel_rfl) (by kernel_rfl) (by kernel_rfl) ?_)
 rw [Tryz.ntmps20]
 have hres := Tryz.results20
 exact aGo hres trivial
theorem plain10_c (l : List TermD) (most : Int) (hm : 0 ≤ most ∧ most ≤ 4096) : ContractN Tryz.prog 55 [encTs l, dI most] (dB (fewT l most 1)) := by
 refine Contract.toN ?_ rfl
 refine Contract.ofA (CallA.inline Tryz.func55 rfl (by kernel_rfl) (by kernel_rfl) (by kernel_rfl) ?_)
 rw [Tryz.ntmps55]
 have hres := Tryz.results55
 refine aGo hres ?_
 repeat (guard_target =~ ∀ _ : St → Prop, _; intro K hK)
 refine aLoopT (fun (k : Nat) => [(0, encTs l), (1, dI most), (5, dI k)]) (fun _ => []) 0 0 (fun k => k ≤ l.length ∧ (k : Int) ≤ most + 1 ∧ (l.take k).all (fun t => fewF 1 t.f) = true) (fun k => l.length - k) 0 ⟨by omega, by omega, rfl⟩ ?_ ?_
 · exact leGo trivial
 · rintro k ⟨hk, hk2, hg⟩
   have hw : IntKind.i64.wrap ((k : Int) + 1) = (k : Int) + 1 := wrap_in (by omega) (by omega)
   have h0 : (0 : Int) ≤ k := by omega
   by_cases h1 : (k : Int) < l.length
   · by_cases h2 : (k : Int) ≤ most
     · obtain ⟨t, hx⟩ : ∃ e, l[k]? = some e := ⟨_, List.getElem?_eq_getElem (by omega)⟩
       have hc := (rfew_c t.f 1).toN rfl
       cases h3 : fewF 1 t.f
       · unfold fewF at h3; rw [h3] at hc
         refine aGo (cj4 hres h0 h1 (cj3 h2 hx hw)) ?_
         repeat (guard_target =~ ∀ _ : St → Prop, _; intro K hK)
         exact bool_eq (by simp only [fewT, all_not (p := fun t : TermD => fewF 1 t.f) hx h3, Bool.and_false])
       · have h3' := h3
         unfold fewF at h3'; rw [h3'] at hc
         refine aGo (cj4 hres h0 h1 (cj3 h2 hx hw)) ?_
         repeat (guard_target =~ ∀ _ : St → Prop, _; intro K hK)
         exact loop_end (k + 1) ⟨by omega, by omega, all_take_succ hx hg h3⟩ (by omega) (by exact leGo trivial)
     · have h3 : ¬ (l.length : Int) ≤ most := by omega
       refine aGo (cj4 hres h1 h2 h3) ?_
       repeat (guard_target =~ ∀ _ : St → Prop, _; intro K hK)
       exact bool_eq (by simp [fewT, h3])
   · rw [List.take_of_length_le (by omega)] at hg
     refine aGo (cj2 hres h1) ?_
     repeat (guard_target =~ ∀ _ : St → Prop, _; intro K hK)
     exact bool_eq (by simp only [fewT, hg, Bool.and_true])
theorem short10_c (x : List FracD) (most : Int) (hm : 0 ≤ most ∧ most ≤ 4096) : ContractN Tryz.prog 26 [encFs x, dI most] (dB (fewP x most 2)) := by
 refine Contract.toN ?_ rfl
 refine Contract.ofA (CallA.inline Tryz.func26 rfl (by kernel_rfl) (by kernel_rfl) (by kernel_rfl) ?_)
 rw [Tryz.ntmps26]
 have hres := Tryz.results26
 refine aGo hres ?_
 repeat (guard_target =~ ∀ _ : St → Prop, _; intro K hK)
 refine aLoopT (fun (k : Nat) => [(0, encFs x), (1, dI most), (5, dI k)]) (fun _ => []) 0 0 (fun k => k ≤ x.length ∧ (k : Int) ≤ most + 1 ∧ (x.take k).all (fewF 2) = true) (fun k => x.length - k) 0 ⟨by omega, by omega, rfl⟩ ?_ ?_
 · exact leGo trivial
 · rintro k ⟨hk, hk2, hg⟩
   have hw : IntKind.i64.wrap ((k : Int) + 1) = (k : Int) + 1 := wrap_in (by omega) (by omega)
   have h0 : (0 : Int) ≤ k := by omega
   by_cases h1 : (k : Int) < x.length
   · by_cases h2 : (k : Int) ≤ most
     · obtain ⟨f, hx⟩ : ∃ e, x[k]? = some e := ⟨_, List.getElem?_eq_getElem (by omega)⟩
       have hc := (rfew_c f 2).toN rfl
       cases h3 : fewF 2 f
       · unfold fewF at h3; rw [h3] at hc
         refine aGo (cj4 hres h0 h1 (cj3 h2 hx hw)) ?_
         repeat (guard_target =~ ∀ _ : St → Prop, _; intro K hK)
         exact bool_eq (by simp only [fewP, all_not (p := fewF 2) hx h3, Bool.and_false])
       · have h3' := h3
         unfold fewF at h3'; rw [h3'] at hc
         refine aGo (cj4 hres h0 h1 (cj3 h2 hx hw)) ?_
         repeat (guard_target =~ ∀ _ : St → Prop, _; intro K hK)
         exact loop_end (k + 1) ⟨by omega, by omega, all_take_succ hx hg h3⟩ (by omega) (by exact leGo trivial)
     · have h3 : ¬ (x.length : Int) ≤ most := by omega
       refine aGo (cj4 hres h1 h2 h3) ?_
       repeat (guard_target =~ ∀ _ : St → Prop, _; intro K hK)
       exact bool_eq (by simp [fewP, h3])
   · rw [List.take_of_length_le (by omega)] at hg
     refine aGo (cj2 hres h1) ?_
     repeat (guard_target =~ ∀ _ : St → Prop, _; intro K hK)
     exact bool_eq (by simp only [fewP, hg, Bool.and_true])
def few10 (s : SysD) (goal : List TermD) : Bool := !(decide (s.n > 5) && decide (s.n ≤ 1500)) && !decide ((s.r.length : Int) > 6) && fewT goal 6 1 && s.r.all (fun w => fewT w.t 6 1 && fewF 1 w.v)
theorem few10_c (s : SysD) (goal : List TermD) : ContractN Tryz.prog 12 [encS s, encTs goal] (dB (few10 s goal)) := by
 refine Contract.toN ?_ rfl
 have hres := Tryz.results12
 have kg := plain10_c goal 6 (by decide)
 by_cases h1 : s.n > 5 ∧ s.n ≤ 1500
 · obtain ⟨a1, a2⟩ := h1
   refine Contract.ofA (CallA.inline Tryz.func12 rfl (by kernel_rfl) (by kernel_rfl) (by kernel_rfl) ?_)
   rw [Tryz.ntmps12]
   refine aGo (cj3 hres a1 a2) ?_
   repeat (guard_target =~ ∀ _ : St → Prop, _; intro K hK)
   exact bool_eq (by simp [few10, a1, a2])
 have hn : (decide (s.n > 5) && decide (s.n ≤ 1500)) = false := by
  simp only [Bool.and_eq_false_iff, decide_eq_false_iff_not]; omega
 by_cases h2 : (s.r.length : Int) > 6
 · refine Contract.ofA (CallA.inline Tryz.func12 rfl (by kernel_rfl) (by kernel_rfl) (by kernel_rfl) ?_)
   rw [Tryz.ntmps12]
   by_cases a1 : s.n > 5
   · have a2 : ¬ s.n ≤ 1500 := by omega
     refine aGo (cj4 hres a1 a2 h2) ?_
     repeat (guard_target =~ ∀ _ : St → Prop, _; intro K hK)
     exact bool_eq (by simp [few10, hn, h2])
   · refine aGo (cj3 hres a1 h2) ?_
     repeat (guard_target =~ ∀ _ : St → Prop, _; intro K hK)
     exact bool_eq (by simp [few10, hn, h2])
 cases h3 : fewT goal 6 1
 · rw [h3] at kg
   refine Contract.ofA (CallA.inline Tryz.func12 rfl (by kernel_rfl) (by kernel_rfl) (by kernel_rfl) ?_)
   rw [Tryz.ntmps12]
   by_cases a1 : s.n > 5
   · have a2 : ¬ s.n ≤ 1500 := by omega
     refine aGo (cj4 hres a1 a2 h2) ?_
     repeat (guard_target =~ ∀ _ : St → Prop, _; intro K hK)
     exact bool_eq (by simp [few10, h3])
   · refine aGo (cj3 hres a1 h2) ?_
     repeat (guard_target =~ ∀ _ : St → Prop, _; intro K hK)
     exact bool_eq (by simp [few10, h3])
 rw [h3] at kg
 have e0 : few10 s goal = s.r.all (fun w => fewT w.t 6 1 && fewF 1 w.v) := by unfold few10; rw [hn, h3, decide_eq_false h2]; rfl
 rw [e0]
 refine Contract.ofA (CallA.inline Tryz.func12 rfl (by kernel_rfl) (by kernel_rfl) (by kernel_rfl) ?_)
 rw [Tryz.ntmps12]
 by_cases a1 : s.n > 5
 · have a2 : ¬ s.n ≤ 1500 := by omega
   refine aGo (cj4 hres a1 a2 h2) ?_
   repeat (guard_target =~ ∀ _ : St → Prop, _; intro K hK)
   refine aLoopT (fun (k : Nat) => [(2, .lp 0 0 0 0), (5, dI k)]) (fun _ => [(0, ⟨24, 0, 2, [cS s], 0, false⟩)]) 1 0 (fun k => k ≤ s.r.length ∧ (s.r.take k).all (fun w => fewT w.t 6 1 && fewF 1 w.v) = true) (fun k => s.r.length - k) 0 ⟨by omega, rfl⟩ ?_ ?_
   · exact leGo trivial
   · rintro k ⟨hk, hg⟩
     have hw : IntKind.i64.wrap ((k : Int) + 1) = (k : Int) + 1 := wrap_in (by omega) (by omega)
     have h0 : (0 : Int) ≤ k := by omega
     by_cases h4 : (k : Int) < s.r.length
     · obtain ⟨w, hx⟩ : ∃ e, s.r[k]? = some e := ⟨_, List.getElem?_eq_getElem (by omega)⟩
       have kt := plain10_c w.t 6 (by decide)
       have kf := (rfew_c w.v 1).toN rfl
       rw [show (decide ((w.v.p.d.length : Int) ≤ 1) && decide ((w.v.q.d.length : Int) ≤ 1)) = fewF 1 w.v from rfl] at kf
       cases h5 : fewT w.t 6 1
       · rw [h5] at kt
         refine aGo (cj4 hres h0 h4 (cj2 hx hw)) ?_
         repeat (guard_target =~ ∀ _ : St → Prop, _; intro K hK)
         exact bool_eq (by rw [all_not (p := fun w : RowD => fewT w.t 6 1 && fewF 1 w.v) hx (by simp only [h5, Bool.false_and])])
       rw [h5] at kt
       cases h6 : fewF 1 w.v
       · rw [h6] at kf
         refine aGo (cj4 hres h0 h4 (cj2 hx hw)) ?_
         repeat (guard_target =~ ∀ _ : St → Prop, _; intro K hK)
         exact bool_eq (by rw [all_not (p := fun w : RowD => fewT w.t 6 1 && fewF 1 w.v) hx (by simp only [h6, Bool.and_false])])
       · rw [h6] at kf
         refine aGo (cj4 hres h0 h4 (cj2 hx hw)) ?_
         repeat (guard_target =~ ∀ _ : St → Prop, _; intro K hK)
         exact loop_end (k + 1) ⟨by omega, all_take_succ (p := fun w : RowD => fewT w.t 6 1 && fewF 1 w.v) hx hg (by simp only [h5, h6, Bool.and_self])⟩ (by omega) (by exact leGo trivial)
     · rw [List.take_of_length_le (by omega)] at hg
       refine aGo (cj2 hres h4) ?_
       repeat (guard_target =~ ∀ _ : St → Prop, _; intro K hK)
       exact bool_eq hg.symm
 · refine aGo (cj3 hres a1 h2) ?_
   repeat (guard_target =~ ∀ _ : St → Prop, _; intro K hK)
   refine aLoopT (fun (k : Nat) => [(2, .lp 0 0 0 0), (5, dI k)]) (fun _ => [(0, ⟨24, 0, 2, [cS s], 0, false⟩)]) 1 0 (fun k => k ≤ s.r.length ∧ (s.r.take k).all (fun w => fewT w.t 6 1 && fewF 1 w.v) = true) (fun k => s.r.length - k) 0 ⟨by omega, rfl⟩ ?_ ?_
   · exact leGo trivial
   · rintro k ⟨hk, hg⟩
     have hw : IntKind.i64.wrap ((k : Int) + 1) = (k : Int) + 1 := wrap_in (by omega) (by omega)
     have h0 : (0 : Int) ≤ k := by omega
     by_cases h4 : (k : Int) < s.r.length
     · obtain ⟨w, hx⟩ : ∃ e, s.r[k]? = some e := ⟨_, List.getElem?_eq_getElem (by omega)⟩
       have kt := plain10_c w.t 6 (by decide)
       have kf := (rfew_c w.v 1).toN rfl
       rw [show (decide ((w.v.p.d.length : Int) ≤ 1) && decide ((w.v.q.d.length : Int) ≤ 1)) = fewF 1 w.v from rfl] at kf
       cases h5 : fewT w.t 6 1
       · rw [h5] at kt
         refine aGo (cj4 hres h0 h4 (cj2 hx hw)) ?_
         repeat (guard_target =~ ∀ _ : St → Prop, _; intro K hK)
         exact bool_eq (by rw [all_not (p := fun w : RowD => fewT w.t 6 1 && fewF 1 w.v) hx (by simp only [h5, Bool.false_and])])
       rw [h5] at kt
       cases h6 : fewF 1 w.v
       · rw [h6] at kf
         refine aGo (cj4 hres h0 h4 (cj2 hx hw)) ?_
         repeat (guard_target =~ ∀ _ : St → Prop, _; intro K hK)
         exact bool_eq (by rw [all_not (p := fun w : RowD => fewT w.t 6 1 && fewF 1 w.v) hx (by simp only [h6, Bool.and_false])])
       · rw [h6] at kf
         refine aGo (cj4 hres h0 h4 (cj2 hx hw)) ?_
         repeat (guard_target =~ ∀ _ : St → Prop, _; intro K hK)
         exact loop_end (k + 1) ⟨by omega, all_take_succ (p := fun w : RowD => fewT w.t 6 1 && fewF 1 w.v) hx hg (by simp only [h5, h6, Bool.and_self])⟩ (by omega) (by exact leGo trivial)
     · rw [List.take_of_length_le (by omega)] at hg
       refine aGo (cj2 hres h4) ?_
       repeat (guard_target =~ ∀ _ : St → Prop, _; intro K hK)
       exact bool_eq hg.symm
theorem fewF_le {n : Int} {f : FracD} (h : fewF n f = true) (k : Nat) (hk : n ≤ k) : szF f ≤ k := by
 have := fewF_sz h; omega
theorem fit_few {s : SysD} {goal : List TermD} (h : few10 s goal = true) : Fit s goal := by
 simp only [few10, Bool.and_eq_true, Bool.not_eq_true', Bool.and_eq_false_iff, decide_eq_false_iff_not, fewT, decide_eq_true_eq, List.all_eq_true] at h
 obtain ⟨⟨⟨h1, h2⟩, h3, h4⟩, h5⟩ := h
 have hn : rightS s = true → s.n ≤ 5 := fun hr => by have := (rightS_n hr).2; omega
 refine Fit.mk5 (by omega) (fun hr => by have := hn hr; omega) (fun hr => .inl (by have := hn hr; omega)) (fun w hw => ?_) ⟨by omega, fun t ht => fewF_le (h4 t ht) 2 (by decide)⟩
 obtain ⟨⟨a1, a2⟩, a3⟩ := h5 w hw
 exact ⟨by omega, fewF_le a3 2 (by decide), fun t ht => fewF_le (a2 t ht) 2 (by decide)⟩
theorem dot_sz (g : Int → Rat) {B C : Nat} (hg : ∀ v, szQ (g v) ≤ B) : ∀ l : List TermD, (∀ t ∈ l, okF t.f = true ∧ szF t.f ≤ C) → szQ (dotS g l) ≤ 1 + l.length * (B + C + 1)
 | [], _ => by have := sz_0; simp only [dotS, List.length_nil]; omega
 | t :: l, h => by
   have ih := dot_sz g hg l fun u hu => h u (List.mem_cons_of_mem _ hu)
   obtain ⟨h1, h2⟩ := h t List.mem_cons_self
   simp only [dotS, List.length_cons]
   have a := szQ_mul (qOf t.f) (g t.v)
   rw [szF_ok h1] at a
   have b := szQ_add (qOf t.f * g t.v) (dotS g l)
   have c := hg t.v
   rw [Nat.add_mul, Nat.one_mul]
   omega
section
variable {s : SysD} {goal : List TermD} {B T : Nat}
theorem value_sz (h : Fit s goal B T) (hr : rightS s = true) (hg : rightT goal s.n = true) : tnF (valueD goal (fracsOf s.n.toNat (pointK (fin s goal) (fin s goal).m))).1 := by
 unfold valueD
 split
 · have hb : ∀ v, szQ (atP (fracsOf s.n.toNat (pointK (fin s goal) (fin s goal).m)) v) ≤ Dic.grow B T := by
     intro v
     unfold atP
     cases hx : (fracsOf s.n.toNat (pointK (fin s goal) (fin s goal).m))[v.toNat]? with
     | none =>
       have h1 : szQ (qOf zF) ≤ 1 := by decide +kernel
       have h2 := h.b
       have h3 := grow_ge B T
       simp only [Option.getD_none]; omega
     | some f =>
       obtain ⟨u, _, rfl⟩ := fracs_mem (mem_at hx)
       simp only [Option.getD_some, qOf_ofQ]
       exact point_sz h hr hg _ (Nat.le_refl _) u
   have := dot_sz _ hb goal fun t ht => ⟨(rightT_mem hg ht).2.2.1, h.g.2 t ht⟩
   rw [← dotD_eq] at this
   have hm := h.gq
   rw [Nat.add_mul] at hm
   simp only [tnF, szQ_ofQ]
   omega
 · show (szF zF : Int) ≤ 262144; decide
theorem fin_g (h : Fit s goal B T) (hr : rightS s = true) (hg : rightT goal s.n = true) : ∀ j, j < (fin s goal).n → szQ ((fin s goal).g j) ≤ Dic.grow B T := (fin_sized h hr hg).g
theorem least_tn (h : Fit s goal B T) (hr : rightS s = true) (hg : rightT goal s.n = true) : tnO (leastE s goal) := by
 have hn := h.n hr
 have hn0 := (rightS_n hr).1
 have hl := h.l
 have hG := h.gl
 have nil : tnFs [] := ⟨by decide, fun t ht => by cases ht⟩
 have z : tnF zF := by show (szF zF : Int) ≤ 262144; decide
 have hf0 := h.nil
 have hg0 : rightT [] s.n = true := by simp only [rightT, Bool.and_eq_true, decide_eq_true_eq]; exact ⟨hn0, rfl⟩
 unfold leastE
 have ref : ∀ g, Fit s g B T → rightT g s.n = true → ∀ r, r < (fin s g).m → tnFs (fracsOf s.r.length (refK (fin s g) (srcOf s g) r s.n.toNat)) := by
  intro g hg1 hg2 r hrm
  refine tn_fracs (by omega) fun u => ?_
  have := ref_sz (fin s g) (srcOf s g) r (B := Dic.grow B T) (by have := h.b; have := grow_ge B T; omega) (fun j hj => (fin_sized hg1 hr hg2).a r j hrm hj) s.n.toNat (by rw [fin_n]; exact Nat.le_refl _) u
  have hm := Nat.mul_le_mul_left (s.n.toNat + 1) (show Dic.grow B T + 1 + 1 ≤ Dic.grow B T + B + 1 by have := h.b; omega)
  rw [Nat.mul_succ] at hm
  have := h.nq hr
  omega
 cases hnx : next (fin s goal) with
 | ex r c => exact ⟨z, nil, nil, nil⟩
 | best =>
   refine ⟨value_sz h hr hg, tn_fracs (by omega) fun u => by have := point_sz h hr hg _ (Nat.le_refl _) u; omega, tn_fracs (by omega) fun u => ?_, nil⟩
   have := prices_sz (fin s goal) (srcOf s goal) (B := Dic.grow B T) (fin_g h hr hg) s.n.toNat (by rw [fin_n]; exact Nat.le_refl _) u
   have hm := Nat.mul_le_mul_left (s.n.toNat + 1) (show Dic.grow B T + 1 + 1 ≤ Dic.grow B T + B + 1 by have := h.b; omega)
   rw [Nat.mul_succ, Nat.add_mul, Nat.one_mul] at hm
   have := h.nq hr
   omega
 | row r => exact ⟨z, nil, ref goal h hg r (row_of_next hnx).1, nil⟩
 | col c =>
   have hc := (col_of_next hnx).1
   have hray : tnFs (fracsOf s.n.toNat (rayK (fin s goal) c (fin s goal).m)) := tn_fracs (by omega) fun u => by have := ray_sz h hr hg hc _ (Nat.le_refl _) u; omega
   have hpt : tnFs (fracsOf s.n.toNat (pointK (fin s []) (fin s []).m)) := tn_fracs (by omega) fun u => by have := point_sz hf0 hr hg0 _ (Nat.le_refl _) u; omega
   simp only
   cases hnE : next (fin s []) with
   | ex r c => exact ⟨z, hpt, nil, hray⟩
   | best => exact ⟨z, hpt, nil, hray⟩
   | col c => exact ⟨z, hpt, nil, hray⟩
   | row r => exact ⟨z, nil, ref [] hf0 hg0 r (row_of_next hnE).1, nil⟩
end
theorem proves10_c (k0 : Contract Tryz.prog 11 [] (dB true)) (s : SysD) (goal : List TermD) : Contract Tryz.prog 8 [encS s, encTs goal] (dB true) := by
 have hres := Tryz.results8
 have kf := few10_c s goal
 cases hf : few10 s goal
 · rw [hf] at kf
   refine Contract.ofA (CallA.inline Tryz.func8 rfl (by kernel_rfl) (by kernel_rfl) (by kernel_rfl) ?_)
   rw [Tryz.ntmps8]
   exact aGo hres trivial
 rw [hf] at kf
 have h := fit_few hf
 have kl := least_c s goal h
 have k1 := lrightS_c s h.tn.sm
 have k2 := lright_c goal s.n h.gt.sm
 have k3 := (rsameF_c zF zF (by decide)).toN rfl
 rw [sameF_self] at k3
 cases hr : rightS s
 · have e1 : leastD s goal = (⟨0, zF, [], [], []⟩, 1) := by unfold leastD; rw [hr]; rfl
   rw [e1] at kl
   rw [hr] at k1
   refine Contract.ofA (CallA.inline Tryz.func8 rfl (by kernel_rfl) (by kernel_rfl) (by kernel_rfl) ?_)
   rw [Tryz.ntmps8]
   exact aGo hres trivial
 rw [hr] at k1
 cases hg : rightT goal s.n
 · have e1 : leastD s goal = (⟨0, zF, [], [], []⟩, 1) := by unfold leastD; rw [hr, hg]; rfl
   rw [e1] at kl
   rw [hg] at k2
   refine Contract.ofA (CallA.inline Tryz.func8 rfl (by kernel_rfl) (by kernel_rfl) (by kernel_rfl) ?_)
   rw [Tryz.ntmps8]
   exact aGo hres trivial
 rw [hg] at k2
 have e1 : leastD s goal = (leastE s goal, 0) := by unfold leastD; rw [hr, hg]; rfl
 rw [e1] at kl
 have ho := least_tn h hr hg
 have c1 := refcheck9_c s goal _ h.tn h.gt ho
 have c2 := dcheck_c s goal _ h.tn h.gt.sm ho
 rw [least_check hr hg] at c1 c2
 refine Contract.ofA (CallA.inline Tryz.func8 rfl (by kernel_rfl) (by kernel_rfl) (by kernel_rfl) ?_)
 rw [Tryz.ntmps8]
 exact aGo hres trivial
theorem right_check {s : SysD} {goal : List TermD} {o : OptD} (h : checkD s goal o = true) : rightS s = true ∧ rightT goal s.n = true := by
 unfold checkD at h
 simp only [Bool.and_eq_true] at h
 exact h.1
theorem fewP_tn {x : List FracD} {m n : Int} (h : fewP x m n = true) (hm : m ≤ 64) (hn : n ≤ 262144) : tnFs x := by
 simp only [fewP, Bool.and_eq_true, decide_eq_true_eq, List.all_eq_true] at h
 exact ⟨by omega, fun f hf => by have := fewF_sz (h.2 f hf); unfold tnF; omega⟩
theorem one10_c (k0 : Contract Tryz.prog 11 [] (dB true)) (s : SysD) (goal : List TermD) (o : OptD) : Contract Tryz.prog 9 [encS s, encTs goal, encO o] (dB true) := by
 have hres := Tryz.results9
 have kf := few10_c s goal
 have kx := short10_c o.x 12 (by decide)
 have ky := short10_c o.y 12 (by decide)
 have kd := short10_c o.d 12 (by decide)
 have kv := (rfew_c o.v 4).toN rfl
 rw [show (decide ((o.v.p.d.length : Int) ≤ 4) && decide ((o.v.q.d.length : Int) ≤ 4)) = fewF 4 o.v from rfl] at kv
 cases hf : few10 s goal
 · rw [hf] at kf
   refine Contract.ofA (CallA.inline Tryz.func9 rfl (by kernel_rfl) (by kernel_rfl) (by kernel_rfl) ?_)
   rw [Tryz.ntmps9]
   exact aGo hres trivial
 rw [hf] at kf
 cases hx : fewP o.x 12 2
 · rw [hx] at kx
   refine Contract.ofA (CallA.inline Tryz.func9 rfl (by kernel_rfl) (by kernel_rfl) (by kernel_rfl) ?_)
   rw [Tryz.ntmps9]
   exact aGo hres trivial
 rw [hx] at kx
 cases hy : fewP o.y 12 2
 · rw [hy] at ky
   refine Contract.ofA (CallA.inline Tryz.func9 rfl (by kernel_rfl) (by kernel_rfl) (by kernel_rfl) ?_)
   rw [Tryz.ntmps9]
   exact aGo hres trivial
 rw [hy] at ky
 cases hd : fewP o.d 12 2
 · rw [hd] at kd
   refine Contract.ofA (CallA.inline Tryz.func9 rfl (by kernel_rfl) (by kernel_rfl) (by kernel_rfl) ?_)
   rw [Tryz.ntmps9]
   exact aGo hres trivial
 rw [hd] at kd
 cases hv : fewF 4 o.v
 · rw [hv] at kv
   refine Contract.ofA (CallA.inline Tryz.func9 rfl (by kernel_rfl) (by kernel_rfl) (by kernel_rfl) ?_)
   rw [Tryz.ntmps9]
   exact aGo hres trivial
 rw [hv] at kv
 have h := fit_few hf
 have ho : tnO o := ⟨by have := fewF_sz hv; unfold tnF; omega, fewP_tn hx (by decide) (by decide), fewP_tn hy (by decide) (by decide), fewP_tn hd (by decide) (by decide)⟩
 have kc := dcheck_c s goal o h.tn h.gt.sm ho
 cases hc : checkD s goal o
 · rw [hc] at kc
   refine Contract.ofA (CallA.inline Tryz.func9 rfl (by kernel_rfl) (by kernel_rfl) (by kernel_rfl) ?_)
   rw [Tryz.ntmps9]
   exact aGo hres trivial
 rw [hc] at kc
 obtain ⟨hr, hg⟩ := right_check hc
 have kl := least_c s goal h
 rw [show leastD s goal = (leastE s goal, 0) by unfold leastD; rw [hr, hg]; rfl] at kl
 obtain ⟨a1, a2⟩ := agrees (least_check hr hg) hc
 have zv : (szF (leastE s goal).v : Int) ≤ 9007199254740992 := by rw [a2]; have := fewF_sz hv; omega
 have ks := (rsameF_c (leastE s goal).v o.v zv).toN rfl
 rw [a2, sameF_self] at ks
 have e1 : ((leastE s goal).k == o.k) = true := by rw [a1]; simp
 rw [← a2] at ks
 refine Contract.ofA (CallA.inline Tryz.func9 rfl (by kernel_rfl) (by kernel_rfl) (by kernel_rfl) ?_)
 rw [Tryz.ntmps9]
 generalize leastE s goal = L at *
 obtain ⟨ok, ov, ox, oy, od⟩ := o
 obtain ⟨lk, lv, lx, ly, ld⟩ := L
 simp only at a1 a2 e1
 subst a1 a2
 exact aGo (cj2 hres e1) trivial
noncomputable def solD (s : SysD) : List FracD × List FracD × Bool := if rightS s then (if (leastE s []).k = 1 then ([], (leastE s []).y, false) else ((leastE s []).x, [], true)) else ([], [], false)
theorem right_nilT {s : SysD} (hr : rightS s = true) : rightT [] s.n = true := by
 have := (rightS_n hr).1
 simp only [rightT, Bool.and_eq_true, decide_eq_true_eq]; exact ⟨this, rfl⟩
theorem solution_c (s : SysD) {B T : Nat} (h : Fit s [] B T) : Contract Tryz.prog 15 [encS s] (.tup [encFs (solD s).1, encFs (solD s).2.1, dB (solD s).2.2]) := by
 have hres := Tryz.results15
 have kl := least_c s [] h
 cases hr : rightS s
 · rw [show leastD s [] = (⟨0, zF, [], [], []⟩, 1) by unfold leastD; rw [hr]; rfl] at kl
   have e1 : solD s = ([], [], false) := by unfold solD; rw [hr]; rfl
   rw [e1]
   refine Contract.ofA (CallA.inline Tryz.func15 rfl (by kernel_rfl) (by kernel_rfl) (by kernel_rfl) ?_)
   rw [Tryz.ntmps15]
   have b1 : ((1 : Int) != 0) = true := rfl
   refine aGo (cj2 hres b1) ?_
   repeat (guard_target =~ ∀ _ : St → Prop, _; intro K hK)
   rfl
 rw [show leastD s [] = (leastE s [], 0) by unfold leastD; rw [hr, right_nilT hr]; rfl] at kl
 by_cases h1 : (leastE s []).k = 1
 · have e1 : solD s = ([], (leastE s []).y, false) := by unfold solD; rw [hr, if_pos h1]; rfl
   rw [e1]
   have e2 : ((leastE s []).k == 1) = true := by rw [h1]; rfl
   refine Contract.ofA (CallA.inline Tryz.func15 rfl (by kernel_rfl) (by kernel_rfl) (by kernel_rfl) ?_)
   rw [Tryz.ntmps15]
   refine aGo (cj2 hres e2) ?_
   repeat (guard_target =~ ∀ _ : St → Prop, _; intro K hK)
   rfl
 · have e1 : solD s = ((leastE s []).x, [], true) := by unfold solD; rw [hr, if_neg h1]; rfl
   rw [e1]
   have e2 : ((leastE s []).k == 1) = false := by simp [h1]
   refine Contract.ofA (CallA.inline Tryz.func15 rfl (by kernel_rfl) (by kernel_rfl) (by kernel_rfl) ?_)
   rw [Tryz.ntmps15]
   refine aGo (cj2 hres e2) ?_
   repeat (guard_target =~ ∀ _ : St → Prop, _; intro K hK)
   rfl
theorem solves10_c (k0 : Contract Tryz.prog 11 [] (dB true)) (s : SysD) : Contract Tryz.prog 4 [encS s] (dB true) := by
 have hres := Tryz.results4
 have kf := few10_c s []
 cases hf : few10 s []
 · rw [hf] at kf
   refine Contract.ofA (CallA.inline Tryz.func4 rfl (by kernel_rfl) (by kernel_rfl) (by kernel_rfl) ?_)
   rw [Tryz.ntmps4]
   exact aGo hres trivial
 rw [hf] at kf
 have h := fit_few hf
 have ks := solution_c s h
 have kl := least_c s [] h
 have k1 := lrightS_c s h.tn.sm
 cases hr : rightS s
 · rw [hr] at k1
   rw [show solD s = ([], [], false) by unfold solD; rw [hr]; rfl] at ks
   refine Contract.ofA (CallA.inline Tryz.func4 rfl (by kernel_rfl) (by kernel_rfl) (by kernel_rfl) ?_)
   rw [Tryz.ntmps4]
   exact aGo hres trivial
 rw [hr] at k1
 have hg := right_nilT hr
 have hc := least_check hr hg
 have ho := least_tn h hr hg
 rw [show leastD s [] = (leastE s [], 0) by unfold leastD; rw [hr, hg]; rfl] at kl
 by_cases h1 : (leastE s []).k = 1
 · rw [show solD s = ([], (leastE s []).y, false) by unfold solD; rw [hr, if_pos h1]; rfl] at ks
   rcases check_cases hc with ⟨a0, _⟩ | ⟨a0, a1, a2, a3, a4⟩ | ⟨a0, _⟩
   · omega
   · have kr := refutes9_c s (leastE s []).y h.tn ho.2.2.1
     rw [a1] at kr
     refine Contract.ofA (CallA.inline Tryz.func4 rfl (by kernel_rfl) (by kernel_rfl) (by kernel_rfl) ?_)
     rw [Tryz.ntmps4]
     have b1 : ((leastE s []).k == 0) = false := by rw [h1]; rfl
     have b2 : ((leastE s []).k == 1) = true := by rw [h1]; rfl
     have b3 : (false != false) = false := rfl
     generalize leastE s [] = L at *
     exact aGo (cj4 hres b1 b2 b3) trivial
   · omega
 · rw [show solD s = ((leastE s []).x, [], true) by unfold solD; rw [hr, if_neg h1]; rfl] at ks
   have hk : (leastE s []).k = 0 := by
    unfold leastE at h1 ⊢
    cases hn : next (fin s []) with
    | ex r c => rfl
    | best => rfl
    | row r => rw [hn] at h1; exact absurd rfl h1
    | col c => exact absurd hn (no_col s c)
   rcases check_cases hc with ⟨a0, a1, a2, a3, a4, a5⟩ | ⟨a0, _⟩ | ⟨a0, _⟩
   · have kh := rholds_c s (leastE s []).x h.tn.sm ho.2.1.sm
     rw [a2] at kh
     have kn := num10_c 0 1 (by decide) (by decide) (by decide) (by decide) (by decide)
     have e3 : (leastE s []).v = ofQ (Rat.divInt 0 1) := by rw [a3]; congr 1
     have kz := (rsameF_c (leastE s []).v (ofQ (Rat.divInt 0 1)) (by rw [e3]; decide +kernel)).toN rfl
     rw [show sameF (leastE s []).v (ofQ (Rat.divInt 0 1)) = true by rw [e3, sameF_self]] at kz
     refine Contract.ofA (CallA.inline Tryz.func4 rfl (by kernel_rfl) (by kernel_rfl) (by kernel_rfl) ?_)
     rw [Tryz.ntmps4]
     have b1 : ((leastE s []).k == 0) = true := by rw [hk]; rfl
     have b3 : (true != true) = false := rfl
     clear e3 a3 a4 a1 a0 hk h1 hc
     generalize leastE s [] = L at *
     exact aGo (cj3 hres b1 b3) trivial
   · omega
   · omega
theorem sumY_on {x d : List FracD} : sumY x d = onD 1 x d := by
 unfold sumY onD
 congr 1
 funext a b
 rw [show qOf b * 1 = qOf b by grind]
def sumK (a b : List FracD) (i : Nat) : List FracD := sumY (a.take i) (b.take i)
theorem zipW_take_succ {α β γ : Type} (f : α → β → γ) {l : List α} {m : List β} {k : Nat} {x : α} {y : β} (hx : l[k]? = some x) (hy : m[k]? = some y) : List.zipWith f (l.take (k + 1)) (m.take (k + 1)) = List.zipWith f (l.take k) (m.take k) ++ [f x y] := by
 have h1 := (List.getElem?_eq_some_iff.1 hx).1
 have h2 := (List.getElem?_eq_some_iff.1 hy).1
 rw [List.take_add_one, List.take_add_one, hx, hy]
 simp only [Option.toList_some]
 rw [List.zipWith_append (by rw [List.length_take, List.length_take]; omega)]
 rfl
theorem add10_c (a b : List FracD) (ha : tnFs a) (hb : tnFs b) (oa : okP a = true) (ob : okP b = true) (hl : a.length = b.length) : Contract Tryz.prog 30 [encFs a, encFs b] (encFs (sumY a b)) := by
 have hres := Tryz.results30
 have la := ha.1
 refine Contract.ofA (CallA.inline Tryz.func30 rfl (by kernel_rfl) (by kernel_rfl) (by kernel_rfl) ?_)
 rw [Tryz.ntmps30]
 have e0 : sumK a b 0 = [] := rfl
 refine aGo hres ?_
 repeat (guard_target =~ ∀ _ : St → Prop, _; intro K hK)
 refine aLoopT (fun (u : Nat) => [(0, encFs a), (1, encFs b), (5, .ls 0 u), (6, dI u)]) (fun u => [(0, ⟨32, u, 4, (sumK a b u).map cF, 0, false⟩)]) 1 0 (fun u => u ≤ a.length) (fun u => a.length - u) 0 (by omega) ?_ ?_
 · exact leGo e0
 · rintro u hu
   have hwu : IntKind.i64.wrap ((u : Int) + 1) = (u : Int) + 1 := wrap_in (by omega) (by omega)
   have u0 : (0 : Int) ≤ u := by omega
   have hlen : (sumK a b u).length = u := by unfold sumK sumY; rw [List.length_zipWith, List.length_take, List.length_take]; omega
   by_cases h1 : (u : Int) < a.length
   · have h2 : (u : Int) < b.length := by omega
     obtain ⟨f, hf⟩ : ∃ e, a[u]? = some e := ⟨_, List.getElem?_eq_getElem (by omega)⟩
     obtain ⟨g, hg⟩ : ∃ e, b[u]? = some e := ⟨_, List.getElem?_eq_getElem (by omega)⟩
     have of := List.all_eq_true.1 oa f (mem_at hf)
     have og := List.all_eq_true.1 ob g (mem_at hg)
     have zf := ha.2 f (mem_at hf)
     have zg := hb.2 g (mem_at hg)
     unfold tnF at zf zg
     have ka := raddF_c f g (by omega) (by omega)
     have e1 : addD f g = (ofQ (qOf f + qOf g), 0) := by rw [okF_eq of, okF_eq og, addD_ofQ, qOf_ofQ, qOf_ofQ]
     rw [e1] at ka
     have e2 : sumK a b (u + 1) = sumK a b u ++ [ofQ (qOf f + qOf g)] := zipW_take_succ _ hf hg
     refine aGo (cj4 hres u0 h1 (cj4 h2 hf hg (cj2 hwu hlen))) ?_
     repeat (guard_target =~ ∀ _ : St → Prop, _; intro K hK)
     exact loop_end (u + 1) (by omega) (by omega) (by exact leGo e2)
   · obtain rfl : u = a.length := by omega
     have e3 : sumK a b a.length = sumY a b := by unfold sumK; rw [List.take_length, hl, List.take_length]
     refine aGo (cj2 hres h1) ?_
     repeat (guard_target =~ ∀ _ : St → Prop, _; intro K hK)
     rw [e3, map_map_id (fun _ => rfl)]
theorem onD_tn {x d : List FracD} (hx : tnFs x) (ox : okP x = true) (od : okP d = true) (zx : ∀ f ∈ x, szF f ≤ 2) (zd : ∀ f ∈ d, szF f ≤ 9557) : tnFs (onD 1 x d) := by
 refine ⟨by unfold onD; rw [List.length_zipWith]; have := hx.1; omega, fun f hf => ?_⟩
 obtain ⟨a, b, ha, hb, rfl⟩ := on_mem hf
 have h1 := szQ_add (qOf a) (qOf b * 1)
 rw [show qOf b * 1 = qOf b by grind] at h1 ⊢
 rw [szF_ok (List.all_eq_true.1 ox a ha), szF_ok (List.all_eq_true.1 od b hb)] at h1
 have h2 := zx a ha
 have h3 := zd b hb
 unfold szQ at h1
 unfold tnF
 omega
theorem ray_list {s : SysD} {goal : List TermD} (h : Fit s goal) (hr : rightS s = true) (hg : rightT goal s.n = true) : ∀ f ∈ (leastE s goal).d, szF f ≤ 9557 := by
 intro f hf
 unfold leastE at hf
 cases hnx : next (fin s goal) with
 | ex r c => rw [hnx] at hf; cases hf
 | best => rw [hnx] at hf; cases hf
 | row r => rw [hnx] at hf; cases hf
 | col c =>
   rw [hnx] at hf
   simp only at hf
   have key : f ∈ fracsOf s.n.toNat (rayK (fin s goal) c (fin s goal).m) → szF f ≤ 9557 := fun hf => by
    obtain ⟨u, _, rfl⟩ := fracs_mem hf
    have := ray_sz h hr hg (col_of_next hnx).1 _ (Nat.le_refl _) u
    rw [grow_26] at this
    exact this
   cases hnE : next (fin s []) with
   | ex r c => rw [hnE] at hf; exact key hf
   | best => rw [hnE] at hf; exact key hf
   | col c => rw [hnE] at hf; exact key hf
   | row r => rw [hnE] at hf; cases hf
theorem least10_c (k0 : Contract Tryz.prog 11 [] (dB true)) (s : SysD) (goal : List TermD) (x : List FracD) : Contract Tryz.prog 6 [encS s, encTs goal, encFs x] (dB true) := by
 have hres := Tryz.results6
 have kf := few10_c s goal
 have kx := short10_c x 6 (by decide)
 cases hf : few10 s goal
 · rw [hf] at kf
   refine Contract.ofA (CallA.inline Tryz.func6 rfl (by kernel_rfl) (by kernel_rfl) (by kernel_rfl) ?_)
   rw [Tryz.ntmps6]
   exact aGo hres trivial
 rw [hf] at kf
 cases hx : fewP x 6 2
 · rw [hx] at kx
   refine Contract.ofA (CallA.inline Tryz.func6 rfl (by kernel_rfl) (by kernel_rfl) (by kernel_rfl) ?_)
   rw [Tryz.ntmps6]
   exact aGo hres trivial
 rw [hx] at kx
 have h := fit_few hf
 have tx : tnFs x := fewP_tn hx (by decide) (by decide)
 have kl := least_c s goal h
 have kh := lholds_c s x h.tn.sm tx.sm
 have b0 : ((1 : Int) != 0) = true := rfl
 have b00 : ((0 : Int) != 0) = false := rfl
 cases hok : (rightS s && rightT goal s.n)
 · have e1 : leastD s goal = (⟨0, zF, [], [], []⟩, 1) := by unfold leastD; rw [hok]; rfl
   rw [e1] at kl
   refine Contract.ofA (CallA.inline Tryz.func6 rfl (by kernel_rfl) (by kernel_rfl) (by kernel_rfl) ?_)
   rw [Tryz.ntmps6]
   exact aGo (cj2 hres b0) trivial
 rw [show leastD s goal = (leastE s goal, 0) by unfold leastD; rw [hok]; rfl] at kl
 simp only [Bool.and_eq_true] at hok
 obtain ⟨hr, hg⟩ := hok
 cases hh : holdsS s x
 · rw [hh] at kh
   refine Contract.ofA (CallA.inline Tryz.func6 rfl (by kernel_rfl) (by kernel_rfl) (by kernel_rfl) ?_)
   rw [Tryz.ntmps6]
   exact aGo (cj2 hres b00) trivial
 rw [hh] at kh
 obtain ⟨_, hxl, hxo, hxn, _⟩ := holdsS_iff.1 hh
 have kv := rValue_c goal x h.gt.sm tx.sm
 rw [valueD_yes (by rw [hxl, hg, hxo]; rfl)] at kv
 have zat : (szQ (dotD goal x) : Int) ≤ 34359750000 := by
  have := szF_dot ⟨goal, 0, zF⟩ x h.gt.sm tx.sm (by rw [hxl]; exact hg) hxo
  dsimp only at this; rw [szQ_ofQ] at this; exact this
 have ho := least_tn h hr hg
 have zd := ray_list h hr hg
 rcases check_cases (least_check hr hg) with ⟨a0, a1, a2, a3, a4, a5⟩ | ⟨a0, a1, a2, a3, a4⟩ | ⟨a0, a1, a2, a3, a4⟩
 · have hb := bounds a1 hh
   have b1 : ((leastE s goal).k == 1) = false := by rw [a0]; rfl
   have b2 : ((leastE s goal).k == 0) = true := by rw [a0]; rfl
   have zo : (szQ (dotD goal (leastE s goal).x) : Int) ≤ 34359750000 := by
    have := ho.1; rw [a3] at this; unfold tnF at this; rw [szQ_ofQ] at this; omega
   have kc := rcmp_c (dotD goal x) (dotD goal (leastE s goal).x) (by omega) (by omega)
   rw [← a3] at kc
   have b3 : sgQ (dotD goal x - dotD goal (leastE s goal).x) ≥ 0 := by
    have : ¬ sgQ (dotD goal x - dotD goal (leastE s goal).x) < 0 := fun h => by rw [sgQ_lt] at h; grind
    omega
   generalize leastE s goal = L at *
   refine Contract.ofA (CallA.inline Tryz.func6 rfl (by kernel_rfl) (by kernel_rfl) (by kernel_rfl) ?_)
   rw [Tryz.ntmps6]
   exact aGo (cj4 hres b00 b1 (cj2 b2 b3)) trivial
 · have := refutes_no (x := x) a1
   rw [hh] at this; cases this
 · obtain ⟨_, _, hdl, hdo, hdn, _, hneg⟩ := rayD_iff.1 a2
   have b1 : ((leastE s goal).k == 1) = false := by rw [a0]; rfl
   have b2 : ((leastE s goal).k == 0) = false := by rw [a0]; rfl
   have hlen : x.length = (leastE s goal).d.length := by omega
   have ka := add10_c x (leastE s goal).d tx ho.2.2.2 hxo hdo hlen
   rw [sumY_on] at ka
   have zx : ∀ f ∈ x, szF f ≤ 2 := fun f hf => by
    simp only [fewP, Bool.and_eq_true, decide_eq_true_eq, List.all_eq_true] at hx
    have := fewF_sz (hx.2 f hf); omega
   have ty := onD_tn tx hxo hdo zx zd
   have hhy := holds_on (k := 1) hh a2 (by decide +kernel)
   obtain ⟨_, hyl, hyo, _, _⟩ := holdsS_iff.1 hhy
   have kv2 := rValue_c goal (onD 1 x (leastE s goal).d) h.gt.sm ty.sm
   rw [valueD_yes (by rw [hyl, hg, hyo]; rfl)] at kv2
   have kh2 := lholds_c s (onD 1 x (leastE s goal).d) h.tn.sm ty.sm
   rw [hhy] at kh2
   have zy : (szQ (dotD goal (onD 1 x (leastE s goal).d)) : Int) ≤ 34359750000 := by
    have := szF_dot ⟨goal, 0, zF⟩ (onD 1 x (leastE s goal).d) h.gt.sm ty.sm (by rw [hyl]; exact hg) hyo
    dsimp only at this; rw [szQ_ofQ] at this; exact this
   have kc := rcmp_c (dotD goal (onD 1 x (leastE s goal).d)) (dotD goal x) (by omega) (by omega)
   have b3 : sgQ (dotD goal (onD 1 x (leastE s goal).d) - dotD goal x) < 0 := by
    rw [sgQ_lt] at hneg ⊢
    rw [dot_on hlen]; grind
   generalize onD 1 x (leastE s goal).d = Y at *
   generalize leastE s goal = L at *
   refine Contract.ofA (CallA.inline Tryz.func6 rfl (by kernel_rfl) (by kernel_rfl) (by kernel_rfl) ?_)
   rw [Tryz.ntmps6]
   exact aGo (cj4 hres b00 b1 (cj2 b2 b3)) trivial
end Go.Proofs.YtkddoopknapemaaGreat
