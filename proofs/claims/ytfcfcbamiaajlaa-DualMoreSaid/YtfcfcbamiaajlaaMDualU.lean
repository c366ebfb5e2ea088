/-
  DualMore: the walk.
-/
import Derived.Test.YtfcfcbamiaajlaaMDualV

/-
  DualMore: the walk.
-/
namespace Go.Proofs.Ytfcfcbamiaajlaa
set_option linter.unusedVariables false
set_option linter.unusedSimpArgs false
open Go Go.RowKit
attribute [local go_sem] opsL_nil opsL_go opsL_guard gSel_tt gSel_ff gSel_tf gSel_ft stepR_some stepR_none callS_some callE_some runL_nil runL_go runL_guard gSelE_tt gSelE_ff gSelE_tf gSelE_ft stepE_some stepE_none opF callD rd constD putT upd_get guardL gOf_bool gOf_undef fieldAddrF fieldF loadF storeF indexAddrF indexF sliceF strSliceF bound buildF fillF buildSliceF elemsF allocF makeSliceF lenF elemsOf appendF minmaxF convertF boxF ldE blkAt spliceE D.cells? D.isCell Res.pure ov TyI.agg binD unD boolD initT thenA inBlockA argD argDs refsD refsL killW datJ datJs endA_ret endA_normal endR_some oneD_one oneD_two oneD_three oneD_four resDs resD fzT Value.oneCell' strip tabT tabM
attribute [local go_sem] List.map Nat.reduceEqDiff Nat.reduceBEq List.getElem?_cons_zero List.getElem?_cons_succ List.getElem?_nil Option.getD_some Option.getD_none true_and and_true true_or or_true false_or or_false and_self Nat.add_zero Nat.zero_add List.length_nil List.length_cons forall_const ite_true ite_false Bool.or_self Bool.false_eq_true Option.map_some Option.map_none beq_self_eq_true Nat.reduceAdd Nat.reduceSub Nat.reduceMul reduceCtorEq List.getElem?_toArray Bool.not_true Bool.not_false decide_eq_true_eq decide_true decide_false Nat.reduceLeDiff Nat.reduceLT Bool.or_false Bool.or_true Bool.and_true Bool.and_false Bool.false_and Bool.true_and Bool.true_beq Bool.false_beq beq_true beq_false Bool.not_eq_true List.drop_succ_cons List.take_succ_cons List.drop_zero List.take_zero List.length_map List.getElem?_map List.length_append List.all_cons List.all_nil List.append_nil List.nil_append List.cons_append List.set_cons_zero List.set_cons_succ Int.toNat_natCast Int.toNat_zero Option.isSome_some Option.isSome_none Array.size_empty ByteArray.size_empty Int.reduceToNat Int.reduceAdd Int.reduceSub Int.reduceLT Int.reduceLE Int.reduceEq Int.reduceNe Int.reduceBEq Int.reduceNeg List.forall_mem_cons List.not_mem_nil false_implies List.forall_mem_map implies_true Nat.reduceBNe Int.cast_ofNat_Int Int.reduceMul Int.reduceGE Int.reduceGT wrap_in ty_2 ty_3 ty_4 ty_5 ty_6 ty_7 ty_8 ty_9 ty_10 ty_11 ty_12 ty_13 ty_14 ty_18 ty_19 ty_21 ty_22 ty_23 ty_24 ty_25 ty_26 ty_31 ty_32 ty_33 ty_34 ty_35 ty_41 ty_42 ty_47 ty_48 ty_56 ty_66 ty_67 ty_106 ty_108 ty_111 ty_112 ty_113 ty_114 ty_115 ty_117 ty_118 ty_119 ty_122 ty_123 ty_124 ty_125
set_option maxRecDepth 100000
set_option maxHeartbeats 16000000

theorem datJ_rows (l : List RowD) : (l.map cW).map (List.map datJ) = l.map cW := map_map_id (f := cW) (g := datJ) (fun _ => rfl) l
theorem datJ_more (l : List RowD) (w : RowD) : (l.map cW ++ [cW w]).map (List.map datJ) = (l ++ [w]).map cW := by rw [List.map_append, datJ_rows, List.map_append]; rfl
theorem datJ_two (l m : List RowD) : (l.map cW ++ m.map cW).map (List.map datJ) = (l ++ m).map cW := by rw [List.map_append, datJ_rows, datJ_rows, List.map_append]
theorem datJ_moreF (l : List FracD) (w : FracD) : (l.map cF ++ [cF w]).map (List.map datJ) = (l ++ [w]).map cF := by rw [List.map_append, map_map_id (f := cF) (g := datJ) (fun _ => rfl) l, List.map_append]; rfl
theorem datJ_twoF (l m : List FracD) : (l.map cF ++ m.map cF).map (List.map datJ) = (l ++ m).map cF := by rw [List.map_append, map_map_id (f := cF) (g := datJ) (fun _ => rfl), map_map_id (f := cF) (g := datJ) (fun _ => rfl), List.map_append]
theorem few9_len {s : SysD} (h : few9 s = true) : (s.r.length : Int) ≤ 10 := by simp only [few9, Bool.and_eq_true, decide_eq_true_eq] at h; exact h.1.1
theorem tnS_more {s : SysD} {w : RowD} (h : tnS s) (h1 : tnT w.t) (h2 : tnF w.v) (h3 : (s.r.length : Int) ≤ 10) : tnS ⟨s.n, s.r ++ [w]⟩ := ⟨by simp only [List.length_append, List.length_cons, List.length_nil]; omega, fun x hx => by
  rcases List.mem_append.1 hx with hx | hx
  · exact h.2 x hx
  · rw [List.mem_singleton] at hx; subst hx; exact ⟨h1, h2⟩⟩
theorem tnS_turned {s : SysD} (h : tnS s) (k : Nat) : tnS ⟨s.n, s.r.drop k ++ s.r.take k⟩ := ⟨by have := h.1; simp only [List.length_append, List.length_drop, List.length_take]; omega, fun x hx => by
  rcases List.mem_append.1 hx with hx | hx
  · exact h.2 x (List.mem_of_mem_drop hx)
  · exact h.2 x (List.mem_of_mem_take hx)⟩
theorem tnFs_turned {y : List FracD} (h : tnFs y) (k : Nat) : tnFs (y.drop k ++ y.take k) := ⟨by have := h.1; simp only [List.length_append, List.length_drop, List.length_take]; omega, fun x hx => by
  rcases List.mem_append.1 hx with hx | hx
  · exact h.2 x (List.mem_of_mem_drop hx)
  · exact h.2 x (List.mem_of_mem_take hx)⟩
theorem tnFs_more {y : List FracD} {z : FracD} (h : tnFs y) (h1 : tnF z) (h2 : (y.length : Int) ≤ 12) : tnFs (y ++ [z]) := ⟨by simp only [List.length_append, List.length_cons, List.length_nil]; omega, fun x hx => by
  rcases List.mem_append.1 hx with hx | hx
  · exact h.2 x hx
  · rw [List.mem_singleton] at hx; subst hx; exact h1⟩
theorem refutes_of {s t : SysD} {y z : List FracD} (h : lowerD s [] y = lowerD t [] z) : refutesD s y = refutesD t z := by unfold refutesD; rw [h]
theorem more9_c (k0 : Contract Try.prog 8 [] (dB true)) (s : SysD) (goal : List TermD) (y : List FracD) (row : RowD) (first : Int) (hz : (s.r.length : Int) * 96 ≤ 140737488351232) :
    Contract Try.prog 5 [encS s, encTs goal, encFs y, encW row, dI first] (dB true) := by
  have hres := Try.results5
  have c1 := dfew_c s goal
  have c2 := fewT9_c row.t 10 (by decide)
  have c3 := short9_c row.v
  have c4 := shorts9_c y 12 (by decide)
  have j1 := datJ_rows s.r
  have j2 := datJ_more s.r row
  cases h1 : (few9 s && fewT goal 10 6)
  · rw [h1] at c1
    refine Contract.ofA (CallA.inline Try.func5 rfl (by kernel_rfl) (by kernel_rfl) (by kernel_rfl) ?_)
    rw [Try.ntmps5]
    exact aGoB (cj3 hres j1 j2) trivial
  rw [h1] at c1
  cases h2 : fewT row.t 10 6
  · rw [h2] at c2
    refine Contract.ofA (CallA.inline Try.func5 rfl (by kernel_rfl) (by kernel_rfl) (by kernel_rfl) ?_)
    rw [Try.ntmps5]
    exact aGoB (cj3 hres j1 j2) trivial
  rw [h2] at c2
  cases h3 : fewF 6 row.v
  · rw [h3] at c3
    refine Contract.ofA (CallA.inline Try.func5 rfl (by kernel_rfl) (by kernel_rfl) (by kernel_rfl) ?_)
    rw [Try.ntmps5]
    exact aGoB (cj3 hres j1 j2) trivial
  rw [h3] at c3
  cases h4 : fewP y 12 6
  · rw [h4] at c4
    refine Contract.ofA (CallA.inline Try.func5 rfl (by kernel_rfl) (by kernel_rfl) (by kernel_rfl) ?_)
    rw [Try.ntmps5]
    exact aGoB (cj3 hres j1 j2) trivial
  rw [h4] at c4
  simp only [Bool.and_eq_true] at h1
  have ts := tnS_few h1.1
  have ta := (tnT_few (by decide) (by decide) h1.2).sm
  have ty := tnFs_few (by decide) (by decide) h4
  have tr := tnT_few (by decide) (by decide) h2
  have tv : tnF row.v := by
    have := fewF_nat 6 (by decide) h3
    unfold tnF; omega
  have tm : tnS ⟨s.n, s.r ++ [row]⟩ := tnS_more ts tr tv (few9_len h1.1)
  have c5 := lrightS_c ⟨s.n, s.r ++ [row]⟩ tm.sm
  have ly := ty.1
  cases h5 : rightS ⟨s.n, s.r ++ [row]⟩
  · rw [h5] at c5
    refine Contract.ofA (CallA.inline Try.func5 rfl (by kernel_rfl) (by kernel_rfl) (by kernel_rfl) ?_)
    rw [Try.ntmps5]
    exact aGoB (cj3 hres j1 j2) trivial
  rw [h5] at c5
  cases h6 : ((y.length : Int) != s.r.length)
  rotate_left
  · skip
    refine Contract.ofA (CallA.inline Try.func5 rfl (by kernel_rfl) (by kernel_rfl) (by kernel_rfl) ?_)
    rw [Try.ntmps5]
    exact aGoB (cj4 hres j1 j2 h6) trivial
  have hl : y.length = s.r.length := by simp at h6; omega
  by_cases h7 : first < 0
  · skip
    refine Contract.ofA (CallA.inline Try.func5 rfl (by kernel_rfl) (by kernel_rfl) (by kernel_rfl) ?_)
    rw [Try.ntmps5]
    exact aGoB (cj4 hres j1 j2 (cj2 h6 h7)) trivial
  by_cases h8 : first > y.length
  · skip
    refine Contract.ofA (CallA.inline Try.func5 rfl (by kernel_rfl) (by kernel_rfl) (by kernel_rfl) ?_)
    rw [Try.ntmps5]
    exact aGoB (cj4 hres j1 j2 (cj3 h6 h7 h8)) trivial
  have l1 : 0 ≤ first := by omega
  have l2 : first ≤ s.r.length := by omega
  have l2y : first ≤ y.length := by omega
  have ly12 : (y.length : Int) ≤ 12 := by simp only [fewP, Bool.and_eq_true, decide_eq_true_eq] at h4; exact h4.1
  obtain ⟨z, hz0⟩ : ∃ z, z = ofQ (Rat.divInt 0 1) := ⟨_, rfl⟩
  have hz1 : z = ofQ 0 := by rw [hz0]; congr 1
  have kz := of9_c 0 1 (by decide) (by decide) (by decide) (by decide) (by decide)
  rw [← hz0] at kz
  have tz : tnF z := by rw [hz1]; unfold tnF; rw [szQ_ofQ]; have := szQ_int 0 (by decide) (by decide); have e : ((0 : Int) : Rat) = 0 := rfl; rw [e] at this; omega
  have k1 := dlower_c s goal y ts ta ty
  have k2 := dlower_c ⟨s.n, s.r ++ [row]⟩ goal (y ++ [z]) tm ta (tnFs_more ty tz ly12)
  have k3 := dlower_c ⟨s.n, s.r.drop first.toNat ++ s.r.take first.toNat⟩ goal (y.drop first.toNat ++ y.take first.toNat) (tnS_turned ts _) ta (tnFs_turned ty _)
  rw [lower_more h5 hl hz1] at k2
  rw [lower_turned hl] at k3
  have k4 := same9_c (lowerD s goal y).1 (lowerD s goal y).1 (by have := sz_lower (goal := goal) ts ty; omega)
  rw [sameF_self] at k4
  have k5 := drefutes_c s y ts ty
  have k6 := drefutes_c ⟨s.n, s.r ++ [row]⟩ (y ++ [z]) tm (tnFs_more ty tz ly12)
  have k7 := drefutes_c ⟨s.n, s.r.drop first.toNat ++ s.r.take first.toNat⟩ (y.drop first.toNat ++ y.take first.toNat) (tnS_turned ts _) (tnFs_turned ty _)
  rw [refutes_of (lower_more (goal := []) h5 hl hz1)] at k6
  rw [refutes_of (lower_turned (goal := []) hl first.toNat)] at k7
  have d1 : (s.r.map cW).drop first.toNat = (s.r.drop first.toNat).map cW := by rw [List.map_drop]
  have d2 : (s.r.map cW).take first.toNat = (s.r.take first.toNat).map cW := by rw [List.map_take]
  have d3 : (y.map cF).drop first.toNat = (y.drop first.toNat).map cF := by rw [List.map_drop]
  have d4 : (y.map cF).take first.toNat = (y.take first.toNat).map cF := by rw [List.map_take]
  have d5 : (s.r.map cW).take s.r.length = s.r.map cW := by rw [← List.length_map (f := cW), List.take_length]
  have d6 : (y.map cF).take y.length = y.map cF := by rw [← List.length_map (f := cF), List.take_length]
  have j3 := datJ_moreF y z
  have j4 := datJ_two (s.r.drop first.toNat) (s.r.take first.toNat)
  have j5 := datJ_twoF (y.drop first.toNat) (y.take first.toNat)
  have m1 : (s.r.drop first.toNat).length ≤ s.r.length := by rw [List.length_drop]; omega
  have m2 : (s.r.take first.toNat).length ≤ s.r.length := by rw [List.length_take]; omega
  have m3 : (y.drop first.toNat).length ≤ y.length := by rw [List.length_drop]; omega
  have m4 : (y.take first.toNat).length ≤ y.length := by rw [List.length_take]; omega
  generalize lowerD s goal y = u at *
  obtain ⟨u, ok⟩ := u
  generalize refutesD s y = no at *
  cases ok <;> cases no
  all_goals
    refine Contract.ofA (CallA.inline Try.func5 rfl (by kernel_rfl) (by kernel_rfl) (by kernel_rfl) ?_)
    rw [Try.ntmps5]
    exact aGoB (cj4 hres j1 j2 (cj4 h6 h7 h8 (cj4 d1 d2 d3 (cj4 d4 d5 d6 (cj4 j3 j4 j5 (cj3 l1 l2 l2y)))))) trivial
end Go.Proofs.Ytfcfcbamiaajlaa
