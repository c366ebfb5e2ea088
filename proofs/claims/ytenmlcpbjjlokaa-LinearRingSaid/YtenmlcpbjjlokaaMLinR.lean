/-
  LinearRing: the walk.
-/
import Derived.Test.YtenmlcpbjjlokaaMLinE
import Derived.Test.YtenmlcpbjjlokaaMGo

/-
  LinearRing: the walk.
-/
namespace Go.Proofs.Ytenmlcpbjjlokaa
set_option linter.unusedVariables false
set_option linter.unusedSimpArgs false
open Go Go.RowKit
attribute [local go_sem] opsL_nil opsL_go opsL_guard gSel_tt gSel_ff gSel_tf gSel_ft stepR_some stepR_none callS_some callE_some runL_nil runL_go runL_guard gSelE_tt gSelE_ff gSelE_tf gSelE_ft stepE_some stepE_none opF callD rd constD putT upd_get guardL gOf_bool gOf_undef fieldAddrF fieldF loadF storeF indexAddrF indexF sliceF strSliceF bound buildF fillF buildSliceF elemsF allocF makeSliceF lenF elemsOf appendF minmaxF convertF boxF ldE blkAt spliceE D.cells? D.isCell Res.pure ov TyI.agg binD unD boolD initT thenA inBlockA argD argDs refsD refsL killW datJ datJs endA_ret endA_normal endR_some oneD_one oneD_two oneD_three oneD_four resDs resD fzT Value.oneCell' strip tabT tabM
attribute [local go_sem] List.map Nat.reduceEqDiff Nat.reduceBEq List.getElem?_cons_zero List.getElem?_cons_succ List.getElem?_nil Option.getD_some Option.getD_none true_and and_true true_or or_true false_or or_false and_self Nat.add_zero Nat.zero_add List.length_nil List.length_cons forall_const ite_true ite_false Bool.or_self Bool.false_eq_true Option.map_some Option.map_none beq_self_eq_true Nat.reduceAdd Nat.reduceSub Nat.reduceMul reduceCtorEq List.getElem?_toArray Bool.not_true Bool.not_false decide_eq_true_eq decide_true decide_false Nat.reduceLeDiff Nat.reduceLT Bool.or_false Bool.or_true Bool.and_true Bool.and_false Bool.false_and Bool.true_and Bool.true_beq Bool.false_beq beq_true beq_false Bool.not_eq_true List.drop_succ_cons List.take_succ_cons List.drop_zero List.take_zero List.length_map List.getElem?_map List.length_append List.all_cons List.all_nil List.append_nil List.nil_append List.cons_append List.set_cons_zero List.set_cons_succ Int.toNat_natCast Int.toNat_zero Option.isSome_some Option.isSome_none Array.size_empty ByteArray.size_empty Int.reduceToNat Int.reduceAdd Int.reduceSub Int.reduceLT Int.reduceLE Int.reduceEq Int.reduceNe Int.reduceBEq Int.reduceNeg List.forall_mem_cons List.not_mem_nil false_implies List.forall_mem_map implies_true Nat.reduceBNe Int.cast_ofNat_Int Int.reduceMul Int.reduceGE Int.reduceGT wrap_in ty_2 ty_3 ty_4 ty_5 ty_6 ty_7 ty_8 ty_9 ty_10 ty_11 ty_12 ty_13 ty_14 ty_18 ty_19 ty_21 ty_22 ty_23 ty_24 ty_25 ty_30 ty_31 ty_32 ty_33 ty_34 ty_44 ty_51 ty_52 ty_54 ty_55 ty_56 ty_57 ty_58 ty_74 ty_75 ty_78 ty_93 ty_94 ty_121 ty_122 ty_131 ty_132 ty_133 ty_134 ty_135 ty_137 ty_138 ty_139 ty_142 ty_143 ty_144 ty_145
set_option maxRecDepth 100000
set_option maxHeartbeats 16000000

section
variable {a b c : List TermD} {f g : FracD}
theorem right_nil : rightT [] 1500 = true := rfl
theorem ring1 (ha : rightT a 1500 = true) (hb : rightT b 1500 = true) : plusD b a = plusD a b :=
  rightT_ext (rightT_plus (Int.le_refl _) hb ha) (rightT_plus (Int.le_refl _) ha hb) fun g => by rw [plusD_dot hb ha, plusD_dot ha hb]; grind
theorem ring2 (ha : rightT a 1500 = true) (hb : rightT b 1500 = true) (hc : rightT c 1500 = true) : plusD a (plusD b c) = plusD (plusD a b) c := by
  have hab := rightT_plus (Int.le_refl _) ha hb
  have hbc := rightT_plus (Int.le_refl _) hb hc
  exact rightT_ext (rightT_plus (Int.le_refl _) ha hbc) (rightT_plus (Int.le_refl _) hab hc) fun g => by rw [plusD_dot ha hbc, plusD_dot hab hc, plusD_dot ha hb, plusD_dot hb hc]; grind
theorem ring3 (ha : rightT a 1500 = true) : plusD a [] = a :=
  rightT_ext (rightT_plus (Int.le_refl _) ha right_nil) ha fun g => by rw [plusD_dot ha right_nil]; simp only [dotS]; grind
theorem ring4 (ha : rightT a 1500 = true) : timesD a (ofQ ((1 : Int) : Rat)) = a :=
  rightT_ext (rightT_times ha) ha fun g => by rw [timesD_dot ha (okF_ofQ _), qOf_ofQ]; simp only [Rat.intCast_one]; grind
theorem ring5 (ha : rightT a 1500 = true) : plusD a (timesD a (ofQ ((-1 : Int) : Rat))) = [] :=
  rightT_ext (rightT_plus (Int.le_refl _) ha (rightT_times ha)) right_nil fun g => by
    rw [plusD_dot ha (rightT_times ha), timesD_dot ha (okF_ofQ _), qOf_ofQ]
    have : ((-1 : Int) : Rat) = -1 := by decide +kernel
    rw [this]; simp only [dotS]; grind
theorem ring6 : timesD a (ofQ ((0 : Int) : Rat)) = [] := by
  unfold timesD
  have : sgnD (ofQ ((0 : Int) : Rat)) = 0 := by rw [sgnD_ofQ]; decide +kernel
  rw [this]; simp
theorem ring7 (ha : rightT a 1500 = true) (hf : okF f = true) (hg : okF g = true) : plusD (timesD a f) (timesD a g) = timesD a (ofQ (qOf f + qOf g)) :=
  rightT_ext (rightT_plus (Int.le_refl _) (rightT_times ha) (rightT_times ha)) (rightT_times ha) fun u => by
    rw [plusD_dot (rightT_times ha) (rightT_times ha), timesD_dot ha hf, timesD_dot ha hg, timesD_dot ha (okF_ofQ _), qOf_ofQ]; grind
theorem ring8 (ha : rightT a 1500 = true) (hf : okF f = true) (hg : okF g = true) : timesD (timesD a f) g = timesD a (ofQ (qOf f * qOf g)) :=
  rightT_ext (rightT_times (rightT_times ha)) (rightT_times ha) fun u => by
    rw [timesD_dot (rightT_times ha) hg, timesD_dot ha hf, timesD_dot ha (okF_ofQ _), qOf_ofQ]; grind
theorem ring9 (ha : rightT a 1500 = true) (hb : rightT b 1500 = true) (hf : okF f = true) : plusD (timesD a f) (timesD b f) = timesD (plusD a b) f :=
  rightT_ext (rightT_plus (Int.le_refl _) (rightT_times ha) (rightT_times hb)) (rightT_times (rightT_plus (Int.le_refl _) ha hb)) fun u => by
    rw [plusD_dot (rightT_times ha) (rightT_times hb), timesD_dot ha hf, timesD_dot hb hf, timesD_dot (rightT_plus (Int.le_refl _) ha hb) hf, plusD_dot ha hb]; grind
end

theorem ring8_c (a b c : List TermD) (f g : FracD) : Contract Try.prog 10 [encTs a, encTs b, encTs c, encF f, encF g] (dB true) := by
  have hres := Try.results10
  have k0 := small8_c
  have c1 := fewT_c a 8 4 (by decide)
  have c2 := fewT_c b 8 4 (by decide)
  have c3 := fewT_c c 8 4 (by decide)
  have c4 := (rfew_c f 4).toN rfl
  have c5 := (rfew_c g 4).toN rfl
  rw [show (decide ((f.p.d.length : Int) ≤ 4) && decide ((f.q.d.length : Int) ≤ 4)) = fewF 4 f from rfl] at c4
  rw [show (decide ((g.p.d.length : Int) ≤ 4) && decide ((g.q.d.length : Int) ≤ 4)) = fewF 4 g from rfl] at c5
  by_cases hall : fewT a 8 4 = true ∧ fewT b 8 4 = true ∧ fewT c 8 4 = true ∧ fewF 4 f = true ∧ fewF 4 g = true
  rotate_left
  · rcases few_or hall with h | h | h | h | h
    · rw [h] at c1
      refine Contract.ofA (CallA.inline Try.func10 rfl (by kernel_rfl) (by kernel_rfl) (by kernel_rfl) ?_)
      rw [Try.ntmps10]
      exact aGo hres trivial
    · rw [h.1] at c1; rw [h.2] at c2
      refine Contract.ofA (CallA.inline Try.func10 rfl (by kernel_rfl) (by kernel_rfl) (by kernel_rfl) ?_)
      rw [Try.ntmps10]
      exact aGo hres trivial
    · rw [h.1] at c1; rw [h.2.1] at c2; rw [h.2.2] at c3
      refine Contract.ofA (CallA.inline Try.func10 rfl (by kernel_rfl) (by kernel_rfl) (by kernel_rfl) ?_)
      rw [Try.ntmps10]
      exact aGo hres trivial
    · rw [h.1] at c1; rw [h.2.1] at c2; rw [h.2.2.1] at c3; rw [h.2.2.2] at c4
      refine Contract.ofA (CallA.inline Try.func10 rfl (by kernel_rfl) (by kernel_rfl) (by kernel_rfl) ?_)
      rw [Try.ntmps10]
      exact aGo hres trivial
    · rw [h.1] at c1; rw [h.2.1] at c2; rw [h.2.2.1] at c3; rw [h.2.2.2.1] at c4; rw [h.2.2.2.2] at c5
      refine Contract.ofA (CallA.inline Try.func10 rfl (by kernel_rfl) (by kernel_rfl) (by kernel_rfl) ?_)
      rw [Try.ntmps10]
      exact aGo hres trivial
  obtain ⟨h1, h2, h3, h4, h5⟩ := hall
  rw [h1] at c1; rw [h2] at c2; rw [h3] at c3; rw [h4] at c4; rw [h5] at c5
  have sa := fewT_sm (by decide) (by decide) h1
  have sb := fewT_sm (by decide) (by decide) h2
  have sc := fewT_sm (by decide) (by decide) h3
  have sf := fewF_sm (by decide) h4
  have sg := fewF_sm (by decide) h5
  have na := fewT_nat 4 (by decide) h1
  have nb := fewT_nat 4 (by decide) h2
  have nc := fewT_nat 4 (by decide) h3
  have nf := fewF_nat 4 (by decide) h4
  have ng := fewF_nat 4 (by decide) h5
  have la := (fewT_sz h1).1
  have lb := (fewT_sz h2).1
  have lc := (fewT_sz h3).1
  have r1 := lright_c a 1500 sa
  have r2 := lright_c b 1500 sb
  have r3 := lright_c c 1500 sc
  have r4 := fright_c f (smF_i sf)
  have r5 := fright_c g (smF_i sg)
  by_cases hr : rightT a 1500 = true ∧ rightT b 1500 = true ∧ rightT c 1500 = true ∧ okF f = true ∧ okF g = true
  rotate_left
  · rcases few_or hr with h | h | h | h | h
    · rw [h] at r1
      refine Contract.ofA (CallA.inline Try.func10 rfl (by kernel_rfl) (by kernel_rfl) (by kernel_rfl) ?_)
      rw [Try.ntmps10]
      exact aGo hres trivial
    · rw [h.1] at r1; rw [h.2] at r2
      refine Contract.ofA (CallA.inline Try.func10 rfl (by kernel_rfl) (by kernel_rfl) (by kernel_rfl) ?_)
      rw [Try.ntmps10]
      exact aGo hres trivial
    · rw [h.1] at r1; rw [h.2.1] at r2; rw [h.2.2] at r3
      refine Contract.ofA (CallA.inline Try.func10 rfl (by kernel_rfl) (by kernel_rfl) (by kernel_rfl) ?_)
      rw [Try.ntmps10]
      exact aGo hres trivial
    · rw [h.1] at r1; rw [h.2.1] at r2; rw [h.2.2.1] at r3; rw [h.2.2.2] at r4
      refine Contract.ofA (CallA.inline Try.func10 rfl (by kernel_rfl) (by kernel_rfl) (by kernel_rfl) ?_)
      rw [Try.ntmps10]
      exact aGo hres trivial
    · rw [h.1] at r1; rw [h.2.1] at r2; rw [h.2.2.1] at r3; rw [h.2.2.2.1] at r4; rw [h.2.2.2.2] at r5
      refine Contract.ofA (CallA.inline Try.func10 rfl (by kernel_rfl) (by kernel_rfl) (by kernel_rfl) ?_)
      rw [Try.ntmps10]
      exact aGo hres trivial
  obtain ⟨ha, hb, hc, hf, hg⟩ := hr
  rw [ha] at r1; rw [hb] at r2; rw [hc] at r3; rw [hf] at r4; rw [hg] at r5
  obtain ⟨lab, zab⟩ := plusD_sz na nb
  obtain ⟨lbc, zbc⟩ := plusD_sz nb nc
  obtain ⟨laf, zaf⟩ := timesD_sz na nf
  obtain ⟨lag, zag⟩ := timesD_sz na ng
  obtain ⟨lbf, zbf⟩ := timesD_sz nb nf
  have nm1 : szF (ofQ ((-1 : Int) : Rat)) ≤ 4 := szQ_int (-1) (by decide) (by decide)
  have n1 : szF (ofQ ((1 : Int) : Rat)) ≤ 4 := szQ_int 1 (by decide) (by decide)
  have n0 : szF (ofQ ((0 : Int) : Rat)) ≤ 4 := szQ_int 0 (by decide) (by decide)
  obtain ⟨lam, zam⟩ := timesD_sz na nm1
  have nsum : szF (ofQ (qOf f + qOf g)) ≤ 9 := by have := szQ_add (qOf f) (qOf g); rw [szF_ok hf, szF_ok hg] at this; rw [szQ_ofQ]; omega
  have nprod : szF (ofQ (qOf f * qOf g)) ≤ 8 := by have := szQ_mul (qOf f) (qOf g); rw [szF_ok hf, szF_ok hg] at this; rw [szQ_ofQ]; omega
  have sab := smT_nat (by omega) (by decide) zab
  have sbc := smT_nat (by omega) (by decide) zbc
  have saf := smT_nat (by omega) (by decide) zaf
  have sag := smT_nat (by omega) (by decide) zag
  have sbf := smT_nat (by omega) (by decide) zbf
  have sam := smT_nat (by omega) (by decide) zam
  have p1 := lplus_c a b sa sb
  have p2 := lplus_c b a sb sa
  rw [ring1 ha hb] at p2
  have s1 := lsame_c (plusD a b) (plusD a b) (by omega)
  have p3 := lplus_c (plusD a b) c sab sc
  have p4 := lplus_c b c sb sc
  have p5 := lplus_c a (plusD b c) sa sbc
  rw [ring2 ha hb hc] at p5
  have labc := (plusD_sz (fun t ht => (zab t ht).1) nc).1
  have s2 := lsame_c (plusD (plusD a b) c) (plusD (plusD a b) c) (by omega)
  have p6 := lplus_c a [] sa ⟨by decide, fun t ht => by cases ht⟩
  rw [ring3 ha] at p6
  have s3 := lsame_c a a (by omega)
  have i1 := fint_c 1 (by decide) (by decide)
  have i2 := fint_c (-1) (by decide) (by decide)
  have i3 := fint_c 0 (by decide) (by decide)
  have t1 := ltimes_c a (ofQ ((1 : Int) : Rat)) sa (by unfold smF; omega)
  rw [ring4 ha] at t1
  have t2 := ltimes_c a (ofQ ((-1 : Int) : Rat)) sa (by unfold smF; omega)
  have p7 := lplus_c a (timesD a (ofQ ((-1 : Int) : Rat))) sa sam
  rw [ring5 ha] at p7
  have t3 := ltimes_c a (ofQ ((0 : Int) : Rat)) sa (by unfold smF; omega)
  rw [ring6] at t3
  have a1 := fadd_c f g (smF_i sf) (smF_i sg)
  rw [show addD f g = (ofQ (qOf f + qOf g), 0) by simp [addD, hf, hg]] at a1
  have m1 := fmul_c f g (smF_i sf) (smF_i sg)
  rw [show mulD f g = (ofQ (qOf f * qOf g), 0) by simp [mulD, hf, hg]] at m1
  have t4 := ltimes_c a (ofQ (qOf f + qOf g)) sa (by unfold smF; omega)
  have t5 := ltimes_c a f sa sf
  have t6 := ltimes_c a g sa sg
  have p8 := lplus_c (timesD a f) (timesD a g) saf sag
  rw [ring7 ha hf hg] at p8
  have s4 := lsame_c (timesD a (ofQ (qOf f + qOf g))) (timesD a (ofQ (qOf f + qOf g))) (by have := (timesD_sz na nsum).1; omega)
  have t7 := ltimes_c a (ofQ (qOf f * qOf g)) sa (by unfold smF; omega)
  have t8 := ltimes_c (timesD a f) g saf sg
  rw [ring8 ha hf hg] at t8
  have s5 := lsame_c (timesD a (ofQ (qOf f * qOf g))) (timesD a (ofQ (qOf f * qOf g))) (by have := (timesD_sz na nprod).1; omega)
  have t9 := ltimes_c (plusD a b) f sab sf
  have t10 := ltimes_c b f sb sf
  have p9 := lplus_c (timesD a f) (timesD b f) saf sbf
  rw [ring9 ha hb hf] at p9
  have s6 := lsame_c (timesD (plusD a b) f) (timesD (plusD a b) f) (by have := (timesD_sz (fun t ht => (zab t ht).1) nf).1; omega)
  rw [sameTs_iff.2 rfl] at s1 s2 s3 s4 s5 s6
  refine Contract.ofA (CallA.inline Try.func10 rfl (by kernel_rfl) (by kernel_rfl) (by kernel_rfl) ?_)
  rw [Try.ntmps10]
  exact aGo hres trivial
end Go.Proofs.Ytenmlcpbjjlokaa
