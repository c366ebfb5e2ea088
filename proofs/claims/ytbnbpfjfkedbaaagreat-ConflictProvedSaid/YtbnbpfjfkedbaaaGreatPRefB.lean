/-
  The reference's fractions, as data.
-/
import Derived.Test.YtbnbpfjfkedbaaaGreatPRefA
namespace Go.Proofs.YtbnbpfjfkedbaaaGreat
set_option linter.unusedVariables false
set_option linter.unusedSimpArgs false
set_option linter.unusedSectionVars false
open Go Go.RowKit
attribute [local go_sem] opsL_nil opsL_go opsL_guard gSel_tt gSel_ff gSel_tf gSel_ft stepR_some stepR_none callS_some callE_some runL_nil runL_go runL_guard gSelE_tt gSelE_ff gSelE_tf gSelE_ft stepE_some stepE_none opF callD rd constD putT upd_get guardL gOf_bool gOf_undef fieldAddrF fieldF loadF storeF indexAddrF indexF sliceF strSliceF bound buildF fillF buildSliceF elemsF allocF makeSliceF lenF elemsOf appendF minmaxF convertF boxF ldE blkAt spliceE D.cells? D.isCell Res.pure ov TyI.agg binD unD boolD initT thenA inBlockA argD argDs refsD refsL killW datJ datJs endA_ret endA_normal endR_some oneD_one oneD_two oneD_three oneD_four resDs resD fzT Value.oneCell' strip tabT tabM
attribute [local go_sem] List.map Nat.reduceEqDiff Nat.reduceBEq List.getElem?_cons_zero List.getElem?_cons_succ List.getElem?_nil Option.getD_some Option.getD_none true_and and_true true_or or_true false_or or_false and_self Nat.add_zero Nat.zero_add List.length_nil List.length_cons forall_const ite_true ite_false Bool.or_self Bool.false_eq_true Option.map_some Option.map_none beq_self_eq_true Nat.reduceAdd Nat.reduceSub Nat.reduceMul reduceCtorEq List.getElem?_toArray Bool.not_true Bool.not_false decide_eq_true_eq decide_true decide_false Nat.reduceLeDiff Nat.reduceLT Bool.or_false Bool.or_true Bool.and_true Bool.and_false Bool.false_and Bool.true_and Bool.true_beq Bool.false_beq beq_true beq_false Bool.not_eq_true List.drop_succ_cons List.take_succ_cons List.drop_zero List.take_zero List.length_map List.getElem?_map List.length_append List.all_cons List.all_nil List.append_nil List.nil_append List.cons_append List.set_cons_zero List.set_cons_succ Int.toNat_natCast Int.toNat_zero Option.isSome_some Option.isSome_none Array.size_empty ByteArray.size_empty Int.reduceToNat Int.reduceAdd Int.reduceSub Int.reduceLT Int.reduceLE Int.reduceEq Int.reduceNe Int.reduceBEq Int.reduceNeg List.forall_mem_cons List.not_mem_nil false_implies List.forall_mem_map implies_true Nat.reduceBNe Int.cast_ofNat_Int Int.reduceMul Int.reduceGE Int.reduceGT wrap_in ty_2 ty_3 ty_4 ty_5 ty_6 ty_7 ty_8 ty_9 ty_10 ty_11 ty_12 ty_13 ty_14 ty_18 ty_19 ty_21 ty_22 ty_23 ty_24 ty_25 ty_26 ty_27 ty_28 ty_29 ty_30 ty_35 ty_44 ty_45 ty_46 ty_67 ty_68 ty_71 ty_74 ty_75 ty_76 ty_77 ty_78 ty_79 ty_133 ty_134 ty_136 ty_137 ty_138 ty_139 ty_141 ty_142 ty_157 ty_158 ty_167 ty_168 ty_169 ty_170 ty_171 ty_173 ty_174 ty_175 ty_178 ty_179 ty_180 ty_181
set_option maxRecDepth 100000
set_option maxHeartbeats 1000000
theorem rfew_c (f : FracD) (n : Int) : Contract Tryz.prog 38 [encF f, dI n] (dB (decide ((f.p.d.length : Int) ≤ n) && decide ((f.q.d.length : Int) ≤ n))) := by
 refine Contract.ofA (CallA.inline Tryz.func38 rfl (by kernel_rfl) (by kernel_rfl) (by kernel_rfl) ?_)
 rw [Tryz.ntmps38]
 have hres := Tryz.results38
 by_cases h1 : (f.p.d.length : Int) ≤ n
 · by_cases h2 : (f.q.d.length : Int) ≤ n
   · exact aGo (cj3 hres h1 h2) trivial
   · exact aGo (cj3 hres h1 h2) trivial
 · exact aGo (cj2 hres h1) trivial
theorem rnew_c (p q : Int) (hq : q ≠ 0) (lp : (szZ p : Int) ≤ 549755813888) (lq : (szZ q : Int) ≤ 549755813888) : Contract Tryz.prog 118 [encB (ofZ p), encB (ofZ q)] (.tup [encF (ofQ (Rat.divInt p q)), dI 0]) := by
 have hres := Tryz.results118
 have h1 := rrightZ_c p (by omega)
 have h2 := rrightZ_c q (by omega)
 have eq : (ofZ q).s = q.sign := rfl
 rcases Int.lt_or_gt_of_ne hq with hneg | hpos
 · have n1 := rneg_c p (by omega)
   have n2 := rneg_c q (by omega)
   have t1 : (q.sign == 0) = false := by rw [Int.sign_eq_neg_one_of_neg hneg]; rfl
   have t2 : q.sign < 0 := by rw [Int.sign_eq_neg_one_of_neg hneg]; decide
   obtain ⟨c, d, hpc, hqd, hof, hg0⟩ := divInt_parts (p := -p) (q := -q) (by omega)
   have hgc := rgcd_c (-p) (-q) (by rw [szZ_neg]; exact lp) (by rw [szZ_neg]; exact lq)
   have lg : (szZ (Nat.gcd (-p).natAbs (-q).natAbs : Int) : Int) ≤ 549755813888 := by
    have : szZ (Nat.gcd (-p).natAbs (-q).natAbs : Int) ≤ szZ (-q) := szZ_mono (Nat.gcd_le_right _ (by omega))
    rw [szZ_neg] at this; omega
   have d1 := rdiv_c (-p) (Nat.gcd (-p).natAbs (-q).natAbs) c hg0 hpc (by rw [szZ_neg]; exact lp) lg
   have d2 := rdiv_c (-q) (Nat.gcd (-p).natAbs (-q).natAbs) d hg0 hqd (by rw [szZ_neg]; exact lq) lg
   rw [Rat.neg_divInt_neg] at hof
   rw [hof]
   clear hof hpc hqd hg0
   generalize Nat.gcd (-p).natAbs (-q).natAbs = G at *
   refine Contract.ofA (CallA.inline Tryz.func118 rfl (by kernel_rfl) (by kernel_rfl) (by kernel_rfl) ?_)
   rw [Tryz.ntmps118]
   exact aGo (cj4 hres eq t1 t2) trivial
 · have t1 : (q.sign == 0) = false := by rw [Int.sign_eq_one_of_pos hpos]; rfl
   have t2 : ¬ q.sign < 0 := by rw [Int.sign_eq_one_of_pos hpos]; decide
   obtain ⟨c, d, hpc, hqd, hof, hg0⟩ := divInt_parts (p := p) (q := q) (by omega)
   have hgc := rgcd_c p q lp lq
   have lg : (szZ (Nat.gcd p.natAbs q.natAbs : Int) : Int) ≤ 549755813888 := by
    have : szZ (Nat.gcd p.natAbs q.natAbs : Int) ≤ szZ q := szZ_mono (Nat.gcd_le_right _ (by omega))
    omega
   have d1 := rdiv_c p (Nat.gcd p.natAbs q.natAbs) c hg0 hpc lp lg
   have d2 := rdiv_c q (Nat.gcd p.natAbs q.natAbs) d hg0 hqd lq lg
   rw [hof]
   clear hof hpc hqd hg0
   generalize Nat.gcd p.natAbs q.natAbs = G at *
   refine Contract.ofA (CallA.inline Tryz.func118 rfl (by kernel_rfl) (by kernel_rfl) (by kernel_rfl) ?_)
   rw [Tryz.ntmps118]
   exact aGo (cj4 hres eq t1 t2) trivial
theorem szZ_i64 (n : Int) (h1 : -9223372036854775808 ≤ n) (h2 : n ≤ 9223372036854775808) : szZ n ≤ 4 := by
 have := szQ_int n h1 h2
 rw [szQ_eq] at this
 simp at this
 omega
theorem rof_c (p q : Int) (hq : q ≠ 0) (p1 : -9223372036854775808 ≤ p) (p2 : p ≤ 9223372036854775807) (q1 : -9223372036854775808 ≤ q) (q2 : q ≤ 9223372036854775807) : Contract Tryz.prog 75 [dI p, dI q] (.tup [encF (ofQ (Rat.divInt p q)), dI 0]) := by
 have hres := Tryz.results75
 have h1 := rofi_c p p1 p2
 have h2 := rofi_c q q1 q2
 have hn := rnew_c p q hq (by have := szZ_i64 p p1 (by omega); omega) (by have := szZ_i64 q q1 (by omega); omega)
 refine Contract.ofA (CallA.inline Tryz.func75 rfl (by kernel_rfl) (by kernel_rfl) (by kernel_rfl) ?_)
 rw [Tryz.ntmps75]
 exact aGo hres trivial
theorem divInt_one (n : Int) : Rat.divInt n 1 = (n : Rat) := by simp [Rat.divInt, Rat.mkRat_one]
theorem rint_c (n : Int) (h1 : -9223372036854775808 ≤ n) (h2 : n ≤ 9223372036854775807) : Contract Tryz.prog 27 [dI n] (encF (ofQ (n : Rat))) := by
 have hres := Tryz.results27
 have h := rof_c n 1 (by decide) h1 h2 (by decide) (by decide)
 rw [divInt_one] at h
 refine Contract.ofA (CallA.inline Tryz.func27 rfl (by kernel_rfl) (by kernel_rfl) (by kernel_rfl) ?_)
 rw [Tryz.ntmps27]
 exact aGo hres trivial
end Go.Proofs.YtbnbpfjfkedbaaaGreat
