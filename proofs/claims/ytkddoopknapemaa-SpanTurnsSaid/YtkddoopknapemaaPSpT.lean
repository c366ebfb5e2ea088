/-
  Layer 11: the law SpanTurns.
-/
import Derived.Test.YtkddoopknapemaaPSpA
import Derived.Test.YtkddoopknapemaaPLinA
namespace Go.Proofs.Ytkddoopknapemaa
set_option linter.unusedVariables false
set_option linter.unusedSimpArgs false
set_option linter.unusedSectionVars false
open Go Go.RowKit
attribute [local go_sem] opsL_nil opsL_go opsL_guard gSel_tt gSel_ff gSel_tf gSel_ft stepR_some stepR_none callS_some callE_some runL_nil runL_go runL_guard gSelE_tt gSelE_ff gSelE_tf gSelE_ft stepE_some stepE_none opF callD rd constD putT upd_get guardL gOf_bool gOf_undef fieldAddrF fieldF loadF storeF indexAddrF indexF sliceF strSliceF bound buildF fillF buildSliceF elemsF allocF makeSliceF lenF elemsOf appendF minmaxF convertF boxF ldE blkAt spliceE D.cells? D.isCell Res.pure ov TyI.agg binD unD boolD initT thenA inBlockA argD argDs refsD refsL killW datJ datJs endA_ret endA_normal endR_some oneD_one oneD_two oneD_three oneD_four resDs resD fzT Value.oneCell' strip tabT tabM
attribute [local go_sem] List.map Nat.reduceEqDiff Nat.reduceBEq List.getElem?_cons_zero List.getElem?_cons_succ List.getElem?_nil Option.getD_some Option.getD_none true_and and_true true_or or_true false_or or_false and_self Nat.add_zero Nat.zero_add List.length_nil List.length_cons forall_const ite_true ite_false Bool.or_self Bool.false_eq_true Option.map_some Option.map_none beq_self_eq_true Nat.reduceAdd Nat.reduceSub Nat.reduceMul reduceCtorEq List.getElem?_toArray Bool.not_true Bool.not_false decide_eq_true_eq decide_true decide_false Nat.reduceLeDiff Nat.reduceLT Bool.or_false Bool.or_true Bool.and_true Bool.and_false Bool.false_and Bool.true_and Bool.true_beq Bool.false_beq beq_true beq_false Bool.not_eq_true List.drop_succ_cons List.take_succ_cons List.drop_zero List.take_zero List.length_map List.getElem?_map List.length_append List.all_cons List.all_nil List.append_nil List.nil_append List.cons_append List.set_cons_zero List.set_cons_succ Int.toNat_natCast Int.toNat_zero Option.isSome_some Option.isSome_none Array.size_empty ByteArray.size_empty Int.reduceToNat Int.reduceAdd Int.reduceSub Int.reduceLT Int.reduceLE Int.reduceEq Int.reduceNe Int.reduceBEq Int.reduceNeg List.forall_mem_cons List.not_mem_nil false_implies List.forall_mem_map implies_true Nat.reduceBNe Int.cast_ofNat_Int Int.reduceMul Int.reduceGE Int.reduceGT wrap_in ty_2 ty_3 ty_4 ty_5 ty_6 ty_7 ty_8 ty_9 ty_10 ty_11 ty_12 ty_13 ty_14 ty_18 ty_19 ty_21 ty_22 ty_23 ty_24 ty_25 ty_26 ty_27 ty_28 ty_29 ty_30 ty_31 ty_32 ty_37 ty_38 ty_41 ty_47 ty_65 ty_66 ty_67 ty_68 ty_77 ty_78 ty_115 ty_116 ty_124 ty_125 ty_126 ty_127 ty_130 ty_131 ty_137 ty_138 ty_144 ty_145 ty_146 ty_147 ty_148 ty_150 ty_151 ty_152 ty_155 ty_156 ty_157 ty_158
set_option maxRecDepth 100000
set_option maxHeartbeats 16000000
theorem turned11_c (a : BdD) (q : Rat) (zl : (szF a.l : Int) ≤ 4456448) (zh : (szF a.h : Int) ≤ 4456448) (zq : (szQ q : Int) ≤ 262144) (ol : a.lo = true → okF a.l = true) (oh : a.hi = true → okF a.h = true) :
    Contract Try.prog 26 [encBd a, encBd (scaleB a q), encF (ofQ q)] (dB true) := by
 have hres := Try.results26
 have ks := fsign_c (ofQ q) (by rw [szQ_ofQ]; omega)
 rw [sgnD_ofQ] at ks
 have m1 := fmul_c a.l (ofQ q) (by omega) (by rw [szQ_ofQ]; omega)
 have m2 := fmul_c a.h (ofQ q) (by omega) (by rw [szQ_ofQ]; omega)
 have s1 := fsame_c (ofQ (qOf a.l * q)) (ofQ (qOf a.l * q))
 have s2 := fsame_c (ofQ (qOf a.h * q)) (ofQ (qOf a.h * q))
 rw [sameF_self] at s1 s2
 have e1 : a.lo = true → (mulD a.l (ofQ q)).1 = ofQ (qOf a.l * q) := fun h => by unfold mulD; rw [ol h, okF_ofQ, qOf_ofQ]; rfl
 have e2 : a.hi = true → (mulD a.h (ofQ q)).1 = ofQ (qOf a.h * q) := fun h => by unfold mulD; rw [oh h, okF_ofQ, qOf_ofQ]; rfl
 clear ol oh
 obtain ⟨l, h, lo, hi⟩ := a
 simp only at *
 by_cases hn : q < 0
 · have g : sgQ q < 0 := sgQ_lt.2 hn
   simp only [scaleB, if_pos hn]
   cases lo
   · cases hi
     · refine Contract.ofA (CallA.inline Try.func26 rfl (by kernel_rfl) (by kernel_rfl) (by kernel_rfl) ?_)
       rw [Try.ntmps26]
       exact aGo (cj2 hres g) trivial
     · rw [e2 rfl] at m2
       refine Contract.ofA (CallA.inline Try.func26 rfl (by kernel_rfl) (by kernel_rfl) (by kernel_rfl) ?_)
       rw [Try.ntmps26]
       exact aGo (cj2 hres g) trivial
   · rw [e1 rfl] at m1
     cases hi
     · refine Contract.ofA (CallA.inline Try.func26 rfl (by kernel_rfl) (by kernel_rfl) (by kernel_rfl) ?_)
       rw [Try.ntmps26]
       exact aGo (cj2 hres g) trivial
     · rw [e2 rfl] at m2
       refine Contract.ofA (CallA.inline Try.func26 rfl (by kernel_rfl) (by kernel_rfl) (by kernel_rfl) ?_)
       rw [Try.ntmps26]
       exact aGo (cj2 hres g) trivial
 · have g : ¬ sgQ q < 0 := fun h => hn (sgQ_lt.1 h)
   simp only [scaleB, if_neg hn]
   cases lo
   · cases hi
     · refine Contract.ofA (CallA.inline Try.func26 rfl (by kernel_rfl) (by kernel_rfl) (by kernel_rfl) ?_)
       rw [Try.ntmps26]
       exact aGo (cj2 hres g) trivial
     · rw [e2 rfl] at m2
       refine Contract.ofA (CallA.inline Try.func26 rfl (by kernel_rfl) (by kernel_rfl) (by kernel_rfl) ?_)
       rw [Try.ntmps26]
       exact aGo (cj2 hres g) trivial
   · rw [e1 rfl] at m1
     cases hi
     · refine Contract.ofA (CallA.inline Try.func26 rfl (by kernel_rfl) (by kernel_rfl) (by kernel_rfl) ?_)
       rw [Try.ntmps26]
       exact aGo (cj2 hres g) trivial
     · rw [e2 rfl] at m2
       refine Contract.ofA (CallA.inline Try.func26 rfl (by kernel_rfl) (by kernel_rfl) (by kernel_rfl) ?_)
       rw [Try.ntmps26]
       exact aGo (cj2 hres g) trivial
theorem turns11_c (k0 : Contract Try.prog 8 [] (dB true)) (s : SysD) (goal other : List TermD) (f : FracD) : Contract Try.prog 6 [encS s, encTs goal, encTs other, encF f] (dB true) := by
 have hres := Try.results6
 have q1 := few11_c s goal
 have q2 := fewT_c other 6 2 (by decide)
 have q3 := (rfew_c f 2).toN rfl
 rw [show (decide ((f.p.d.length : Int) ≤ 2) && decide ((f.q.d.length : Int) ≤ 2)) = fewF 2 f from rfl] at q3
 cases h1 : few11 s goal
 · rw [h1] at q1
   refine Contract.ofA (CallA.inline Try.func6 rfl (by kernel_rfl) (by kernel_rfl) (by kernel_rfl) ?_)
   rw [Try.ntmps6]
   exact aGo hres trivial
 rw [h1] at q1
 simp only [few11, Bool.and_eq_true] at h1
 have sg : smT goal := fewT_sm (by decide) (by decide) h1.2
 cases h2 : fewT other 6 2
 · rw [h2] at q2
   refine Contract.ofA (CallA.inline Try.func6 rfl (by kernel_rfl) (by kernel_rfl) (by kernel_rfl) ?_)
   rw [Try.ntmps6]
   exact aGo hres trivial
 rw [h2] at q2
 have so : smT other := fewT_sm (by decide) (by decide) h2
 have q4 := lright_c goal s.n sg
 have q5 := lright_c other s.n so
 cases h3 : fewF 2 f
 · rw [h3] at q3
   refine Contract.ofA (CallA.inline Try.func6 rfl (by kernel_rfl) (by kernel_rfl) (by kernel_rfl) ?_)
   rw [Try.ntmps6]
   exact aGo hres trivial
 rw [h3] at q3
 have zf := fewF_sz h3
 have q6 := fsign_c f (by omega)
 cases h4 : rightT goal s.n
 · rw [h4] at q4
   refine Contract.ofA (CallA.inline Try.func6 rfl (by kernel_rfl) (by kernel_rfl) (by kernel_rfl) ?_)
   rw [Try.ntmps6]
   exact aGo hres trivial
 rw [h4] at q4
 cases h5 : rightT other s.n
 · rw [h5] at q5
   refine Contract.ofA (CallA.inline Try.func6 rfl (by kernel_rfl) (by kernel_rfl) (by kernel_rfl) ?_)
   rw [Try.ntmps6]
   exact aGo hres trivial
 rw [h5] at q5
 by_cases h6 : sgnD f = 0
 · have g : (sgnD f == 0) = true := by simpa using h6
   refine Contract.ofA (CallA.inline Try.func6 rfl (by kernel_rfl) (by kernel_rfl) (by kernel_rfl) ?_)
   rw [Try.ntmps6]
   exact aGo (cj2 hres g) trivial
 have g : (sgnD f == 0) = false := by simpa using h6
 obtain ⟨of, hq0⟩ := sgnD_ne h6
 have F1 := fit11_of h1.1 h1.2
 have ba := bds11_c s goal F1
 cases hok : (bdsD s goal).2
 · rw [hok] at ba
   refine Contract.ofA (CallA.inline Try.func6 rfl (by kernel_rfl) (by kernel_rfl) (by kernel_rfl) ?_)
   rw [Try.ntmps6]
   exact aGo (cj2 hres g) trivial
 rw [hok] at ba
 have hs : rightS s = true := by
  cases hr : rightS s
  · have : rangeD s goal = ((zO, zO), 1) := by unfold rangeD; rw [hr]; rfl
    rw [bdsD, this] at hok; cases hok
  · rfl
 have hn := (rightS_n hs).2
 have n6 := (few_rows h1.1).1
 have T1 := fewT_sz h1.2
 have T2 := fewT_sz h2
 obtain ⟨q, rfl⟩ : ∃ q, f = ofQ q := ⟨qOf f, okF_eq of⟩
 rw [qOf_ofQ] at hq0
 rw [szQ_ofQ] at zf
 obtain ⟨tl, tz⟩ := timesD_sz (f := ofQ q) (fewT_nat 2 (by decide) h1.2) (B := 2) (by rw [szQ_ofQ]; omega)
 obtain ⟨pl, pz⟩ := plusD_sz (fewT_nat 2 (by decide) h1.2) (fewT_nat 2 (by decide) h2)
 have rT : rightT (timesD goal (ofQ q)) s.n = true := rightT_times h4
 have rP : rightT (plusD goal other) s.n = true := rightT_plus hn h4 h5
 have FT := fit5 (s := s) (goal := timesD goal (ofQ q)) h1.1 ⟨by omega, fun t ht => by have := (tz t ht).1; omega⟩
 have FP := fit5 (s := s) (goal := plusD goal other) h1.1 ⟨by have := rightT_len rP; omega, fun t ht => by have := (pz t ht).1; omega⟩
 have FO := fit11_of h1.1 h2
 have kt := ltimes_c goal (ofQ q) sg (by unfold smF; rw [szQ_ofQ]; omega)
 have kp := lplus_c goal other sg so
 have bb := bds11_c s _ FT
 have bc := bds11_c s other FO
 have bd := bds11_c s _ FP
 obtain ⟨za1, za2⟩ := bds_sz F1
 obtain ⟨zc1, zc2⟩ := bds_sz FO
 obtain ⟨zd1, zd2⟩ := bds_sz FP
 have ex : ∃ x, holdsS s x = true := by
  rcases bds_ok hs h4 with ⟨h, _⟩ | ⟨_, h, _⟩
  · rw [hok] at h; cases h
  · exact h
 obtain ⟨x0, hx0⟩ := ex
 have nosol : ∀ {P : Prop}, (∀ x, holdsS s x = false) → P := fun h => by have := h x0; rw [hx0] at this; cases this
 obtain ⟨_, Ba⟩ : True ∧ BdOk s goal (bdsD s goal).1 := by
  rcases bds_ok hs h4 with ⟨_, h⟩ | ⟨_, _, h⟩
  · exact nosol h
  · exact ⟨trivial, h⟩
 obtain ⟨ob, Bb⟩ : (bdsD s (timesD goal (ofQ q))).2 = true ∧ BdOk s (timesD goal (ofQ q)) (bdsD s (timesD goal (ofQ q))).1 := by
  rcases bds_ok hs rT with ⟨_, h⟩ | ⟨h1, _, h⟩
  · exact nosol h
  · exact ⟨h1, h⟩
 obtain ⟨oc, Bc⟩ : (bdsD s other).2 = true ∧ BdOk s other (bdsD s other).1 := by
  rcases bds_ok hs h5 with ⟨_, h⟩ | ⟨h1, _, h⟩
  · exact nosol h
  · exact ⟨h1, h⟩
 obtain ⟨od, Bd⟩ : (bdsD s (plusD goal other)).2 = true ∧ BdOk s (plusD goal other) (bdsD s (plusD goal other)).1 := by
  rcases bds_ok hs rP with ⟨_, h⟩ | ⟨h1, _, h⟩
  · exact nosol h
  · exact ⟨h1, h⟩
 have eb := same_bd Bb (scale_ok hs h4 Ba hq0)
 rw [ob, eb] at bb
 rw [oc] at bc
 rw [od] at bd
 have ht := turned11_c (bdsD s goal).1 q za1 za2 (by omega) (fun h => by obtain ⟨r, _, e, _⟩ := Ba.lo h; rw [e]; exact okF_ofQ r) (fun h => by obtain ⟨r, _, e, _⟩ := Ba.hi h; rw [e]; exact okF_ofQ r)
 have sl := sum_low hs h4 h5 Ba Bc Bd
 have sh := sum_high hs h4 h5 Ba Bc Bd
 have a1 := fadd_c (bdsD s goal).1.l (bdsD s other).1.l (by omega) (by omega)
 have a2 := fadd_c (bdsD s goal).1.h (bdsD s other).1.h (by omega) (by omega)
 have szA : ∀ a b : FracD, (szF a : Int) ≤ 4456448 → (szF b : Int) ≤ 4456448 → (szF (addD a b).1 : Int) ≤ 549755813888 := fun a b ha hb => by
  unfold addD
  split
  · rename_i h
    simp only [Bool.and_eq_true] at h
    have := szQ_add (qOf a) (qOf b)
    rw [szF_ok h.1, szF_ok h.2] at this
    simp only [szQ_ofQ]; omega
  · show (szF zF : Int) ≤ 549755813888; decide
 have c1 := fcompare_c (addD (bdsD s goal).1.l (bdsD s other).1.l).1 (bdsD s (plusD goal other)).1.l (szA _ _ za1 zc1) (by omega)
 have c2 := fcompare_c (bdsD s (plusD goal other)).1.h (addD (bdsD s goal).1.h (bdsD s other).1.h).1 (by omega) (szA _ _ za2 zc2)
 clear Ba Bb Bc Bd eb nosol szA za1 za2 zc1 zc2 zd1 zd2 F1 FT FP FO
 generalize (bdsD s goal).1 = A at *
 generalize (bdsD s other).1 = C at *
 generalize (bdsD s (plusD goal other)).1 = D at *
 generalize timesD goal (ofQ q) = T at *
 generalize plusD goal other = P at *
 obtain ⟨al, ah, alo, ahi⟩ := A
 obtain ⟨cl, ch, clo, chi⟩ := C
 obtain ⟨dl, dh, dlo, dhi⟩ := D
 generalize hB : scaleB ⟨al, ah, alo, ahi⟩ q = Bq at *
 clear hB
 simp only at *
 cases alo
 · cases ahi
   · refine Contract.ofA (CallA.inline Try.func6 rfl (by kernel_rfl) (by kernel_rfl) (by kernel_rfl) ?_)
     rw [Try.ntmps6]
     exact aGo (cj2 hres g) trivial
   cases chi
   · refine Contract.ofA (CallA.inline Try.func6 rfl (by kernel_rfl) (by kernel_rfl) (by kernel_rfl) ?_)
     rw [Try.ntmps6]
     exact aGo (cj2 hres g) trivial
   obtain ⟨rfl, y2⟩ := sh rfl rfl
   refine Contract.ofA (CallA.inline Try.func6 rfl (by kernel_rfl) (by kernel_rfl) (by kernel_rfl) ?_)
   rw [Try.ntmps6]
   exact aGo (cj3 hres g y2) trivial
 cases clo
 · cases ahi
   · refine Contract.ofA (CallA.inline Try.func6 rfl (by kernel_rfl) (by kernel_rfl) (by kernel_rfl) ?_)
     rw [Try.ntmps6]
     exact aGo (cj2 hres g) trivial
   cases chi
   · refine Contract.ofA (CallA.inline Try.func6 rfl (by kernel_rfl) (by kernel_rfl) (by kernel_rfl) ?_)
     rw [Try.ntmps6]
     exact aGo (cj2 hres g) trivial
   obtain ⟨rfl, y2⟩ := sh rfl rfl
   refine Contract.ofA (CallA.inline Try.func6 rfl (by kernel_rfl) (by kernel_rfl) (by kernel_rfl) ?_)
   rw [Try.ntmps6]
   exact aGo (cj3 hres g y2) trivial
 obtain ⟨rfl, y1⟩ := sl rfl rfl
 cases ahi
 · refine Contract.ofA (CallA.inline Try.func6 rfl (by kernel_rfl) (by kernel_rfl) (by kernel_rfl) ?_)
   rw [Try.ntmps6]
   exact aGo (cj3 hres g y1) trivial
 cases chi
 · refine Contract.ofA (CallA.inline Try.func6 rfl (by kernel_rfl) (by kernel_rfl) (by kernel_rfl) ?_)
   rw [Try.ntmps6]
   exact aGo (cj3 hres g y1) trivial
 obtain ⟨rfl, y2⟩ := sh rfl rfl
 refine Contract.ofA (CallA.inline Try.func6 rfl (by kernel_rfl) (by kernel_rfl) (by kernel_rfl) ?_)
 rw [Try.ntmps6]
 exact aGo (cj4 hres g y1 y2) trivial
end Go.Proofs.Ytkddoopknapemaa
