/-
  ScaleTells: the walk.
-/
import Derived.Test.YtenmlcpbjjlokaaMLawS

/-
  ScaleTells: the walk.
-/
namespace Go.Proofs.Ytenmlcpbjjlokaa
set_option linter.unusedVariables false
set_option linter.unusedSimpArgs false
open Go Go.RowKit
attribute [local go_sem] opsL_nil opsL_go opsL_guard gSel_tt gSel_ff gSel_tf gSel_ft stepR_some stepR_none callS_some callE_some runL_nil runL_go runL_guard gSelE_tt gSelE_ff gSelE_tf gSelE_ft stepE_some stepE_none opF callD rd constD putT upd_get guardL gOf_bool gOf_undef fieldAddrF fieldF loadF storeF indexAddrF indexF sliceF strSliceF bound buildF fillF buildSliceF elemsF allocF makeSliceF lenF elemsOf appendF minmaxF convertF boxF ldE blkAt spliceE D.cells? D.isCell Res.pure ov TyI.agg binD unD boolD initT thenA inBlockA argD argDs refsD refsL killW datJ datJs endA_ret endA_normal endR_some oneD_one oneD_two oneD_three oneD_four resDs resD fzT Value.oneCell' strip tabT tabM
attribute [local go_sem] List.map Nat.reduceEqDiff Nat.reduceBEq List.getElem?_cons_zero List.getElem?_cons_succ List.getElem?_nil Option.getD_some Option.getD_none true_and and_true true_or or_true false_or or_false and_self Nat.add_zero Nat.zero_add List.length_nil List.length_cons forall_const ite_true ite_false Bool.or_self Bool.false_eq_true Option.map_some Option.map_none beq_self_eq_true Nat.reduceAdd Nat.reduceSub Nat.reduceMul reduceCtorEq List.getElem?_toArray Bool.not_true Bool.not_false decide_eq_true_eq decide_true decide_false Nat.reduceLeDiff Nat.reduceLT Bool.or_false Bool.or_true Bool.and_true Bool.and_false Bool.false_and Bool.true_and Bool.true_beq Bool.false_beq beq_true beq_false Bool.not_eq_true List.drop_succ_cons List.take_succ_cons List.drop_zero List.take_zero List.length_map List.getElem?_map List.length_append List.all_cons List.all_nil List.append_nil List.nil_append List.cons_append List.set_cons_zero List.set_cons_succ Int.toNat_natCast Int.toNat_zero Option.isSome_some Option.isSome_none Array.size_empty ByteArray.size_empty Int.reduceToNat Int.reduceAdd Int.reduceSub Int.reduceLT Int.reduceLE Int.reduceEq Int.reduceNe Int.reduceBEq Int.reduceNeg List.forall_mem_cons List.not_mem_nil false_implies List.forall_mem_map implies_true Nat.reduceBNe Int.cast_ofNat_Int Int.reduceMul Int.reduceGE Int.reduceGT wrap_in ty_2 ty_3 ty_4 ty_5 ty_6 ty_7 ty_8 ty_9 ty_10 ty_11 ty_12 ty_13 ty_14 ty_18 ty_19 ty_21 ty_22 ty_23 ty_24 ty_25 ty_30 ty_31 ty_32 ty_33 ty_34 ty_44 ty_51 ty_52 ty_54 ty_55 ty_56 ty_57 ty_58 ty_74 ty_75 ty_78 ty_93 ty_94 ty_121 ty_122 ty_131 ty_132 ty_133 ty_134 ty_135 ty_137 ty_138 ty_139 ty_142 ty_143 ty_144 ty_145
set_option maxRecDepth 100000
set_option maxHeartbeats 2000000

theorem szF_zF : szF zF = 0 := rfl
theorem szF_err (c : CertD) (reading day : Int) : (szF (errD c reading day).1 : Int) ≤ 100 := by
  unfold errD
  split
  · rename_i h; have := szQ_err h; rw [szF_ofQ]; omega
  · rw [szF_zF]; omega
theorem szF_inter (cs : List CertD) (rs : List RecD) (which reading day : Int) : (szF (intD cs rs which reading day).lo : Int) ≤ 100 ∧ (szF (intD cs rs which reading day).hi : Int) ≤ 100 := by
  unfold intD
  split
  · exact ⟨by show (szF zF : Int) ≤ 100; rw [szF_zF]; omega, by show (szF zF : Int) ≤ 100; rw [szF_zF]; omega⟩
  · rename_i b hb
    split
    · exact ⟨by show (szF zF : Int) ≤ 100; rw [szF_zF]; omega, by show (szF zF : Int) ≤ 100; rw [szF_zF]; omega⟩
    · rename_i c hc
      split
      · exact ⟨by show (szF zF : Int) ≤ 100; rw [szF_zF]; omega, by show (szF zF : Int) ≤ 100; rw [szF_zF]; omega⟩
      · rename_i h
        simp only [Bool.or_eq_true, not_or, Bool.not_eq_true, Bool.not_eq_eq_eq_not, Bool.not_true, Bool.not_false] at h
        obtain ⟨_, c', hc', hcv, _⟩ := findC_some hb
        rw [hc] at hc'
        cases hc'
        have hok : errOk c reading day = true := by simp [errOk, hcv, h.2]
        have hz := szQ_err hok
        obtain ⟨b1, b2, b3, b4, b5⟩ := err_bounds hok
        have z1 := szQ_int reading (by omega) (by omega)
        have z2 := szQ_sub (reading : Rat) (errQ c reading day)
        have z3 := szQ_add (reading : Rat) (errQ c reading day)
        have z4 := szQ_max ((reading : Rat) - errQ c reading day) 0
        have z5 : szQ 0 ≤ 4 := szQ_int 0 (by decide) (by decide)
        exact ⟨by show (szQ (maxQ ((reading : Rat) - errQ c reading day) 0) : Int) ≤ 100; omega, by show (szQ ((reading : Rat) + errQ c reading day) : Int) ≤ 100; omega⟩

theorem tells13_c (cs : List CertD) (rs : List RecD) (which reading day : Int) (c : CertD) : Contract Try.prog 3 [encCs cs, encRs rs, dI which, dI reading, dI day, encC c] (dB true) := by
  have hres := Try.results3
  have k1 := sane_c
  have k2 := few13_c cs rs
  cases hfew : (decide ((cs.length : Int) ≤ 120) && decide ((rs.length : Int) ≤ 60))
  · rw [hfew] at k2
    refine Contract.ofA (CallA.inline Try.func3 rfl (by kernel_rfl) (by kernel_rfl) (by kernel_rfl) ?_)
    rw [Try.ntmps3]
    repeat (first
      | (refine hK _ ?_; clear hK; clear K)
      | (refine aSeq fun K hK => ?_)
      | (refine aBlock ?_)
      | (refine aSkip ?_)
      | (refine aExit ?_)
      | (refine aRet ?_)
      | (refine aOps _ rfl (by kernel_rfl) ?_)
      | (refine aRunK _ rfl mixed (by kernel_rfl) (by kernel_rfl) fun KE hE => ?_)
      | (refine hE _ _ (by kernel_rfl) (intsOk_no rfl) ?_; clear hE; clear KE)
      | (refine hE _ _ (by kernel_rfl) (intsOk_yes ?hi ?hj) ?_; (case hi => (repeat (refine intsDead_updB rfl ?_)); exact intsDead_nil); (case hj => simp); clear hE; clear KE)
      | (refine aCondT rfl ?hc ?_; case hc => simp only [go_sem, ↓reduceIte, hres])
      | (refine aCondF rfl ?hc ?_; case hc => simp only [go_sem, ↓reduceIte, hres])
      | (refine callT_of (k1) ?_ ?_; rotate_left; (repeat (refine intsDead_updB rfl ?_)); exact intsDead_nil)
      | (refine callT_ofN (k1) ?_)
      | (refine callU_of (k1) rfl ?_)
      | (refine callU_ofN (k1) rfl ?_)
      | (refine callT_of (k2) ?_ ?_; rotate_left; (repeat (refine intsDead_updB rfl ?_)); exact intsDead_nil)
      | (refine callT_ofN (k2) ?_)
      | (refine callU_of (k2) rfl ?_)
      | (refine callU_ofN (k2) rfl ?_)
      | (simp only [go_sem, ↓reduceIte, hres])
      | (clear hK; clear K))
  · rw [hfew] at k2
    simp only [Bool.and_eq_true, decide_eq_true_eq] at hfew
    have k3 := find_c cs which day (by omega)
    have k4 := rfind_c cs which day (by omega)
    have k5 := err_c c reading day
    have k6 := rerr_c c reading day
    have k7 := inter_c cs rs which reading day (by omega) (by omega)
    have k8 := rinter_c cs rs which reading day (by omega) (by omega)
    have k9 := same_c (errD c reading day).1 (errD c reading day).1 (by have := szF_err c reading day; omega)
    have k10 := same_c (intD cs rs which reading day).lo (intD cs rs which reading day).lo (by have := (szF_inter cs rs which reading day).1; omega)
    have k11 := same_c (intD cs rs which reading day).hi (intD cs rs which reading day).hi (by have := (szF_inter cs rs which reading day).2; omega)
    rw [sameF_self] at k9 k10 k11
    have k12 := sright_c c
    have k13 := rright13_c c
    have k14 := recalled_c rs which day (by omega)
    have k15 := rrecalled_c rs which day (by omega)
    refine Contract.ofA (CallA.inline Try.func3 rfl (by kernel_rfl) (by kernel_rfl) (by kernel_rfl) ?_)
    rw [Try.ntmps3]
    repeat (first
      | (refine hK _ ?_; clear hK; clear K)
      | (refine aSeq fun K hK => ?_)
      | (refine aBlock ?_)
      | (refine aSkip ?_)
      | (refine aExit ?_)
      | (refine aRet ?_)
      | (refine aOps _ rfl (by kernel_rfl) ?_)
      | (refine aRunK _ rfl mixed (by kernel_rfl) (by kernel_rfl) fun KE hE => ?_)
      | (refine hE _ _ (by kernel_rfl) (intsOk_no rfl) ?_; clear hE; clear KE)
      | (refine hE _ _ (by kernel_rfl) (intsOk_yes ?hi ?hj) ?_; (case hi => (repeat (refine intsDead_updB rfl ?_)); exact intsDead_nil); (case hj => simp); clear hE; clear KE)
      | (refine aCondT rfl ?hc ?_; case hc => simp only [go_sem, ↓reduceIte, hres, bne_self_eq_false])
      | (refine aCondF rfl ?hc ?_; case hc => simp only [go_sem, ↓reduceIte, hres, bne_self_eq_false])
      | (refine callT_of (k1) ?_ ?_; rotate_left; (repeat (refine intsDead_updB rfl ?_)); exact intsDead_nil)
      | (refine callT_ofN (k1) ?_)
      | (refine callU_of (k1) rfl ?_)
      | (refine callU_ofN (k1) rfl ?_)
      | (refine callT_of (k2) ?_ ?_; rotate_left; (repeat (refine intsDead_updB rfl ?_)); exact intsDead_nil)
      | (refine callT_ofN (k2) ?_)
      | (refine callU_of (k2) rfl ?_)
      | (refine callU_ofN (k2) rfl ?_)
      | (refine callT_of (k3) ?_ ?_; rotate_left; (repeat (refine intsDead_updB rfl ?_)); exact intsDead_nil)
      | (refine callT_ofN (k3) ?_)
      | (refine callU_of (k3) rfl ?_)
      | (refine callU_ofN (k3) rfl ?_)
      | (refine callT_of (k4) ?_ ?_; rotate_left; (repeat (refine intsDead_updB rfl ?_)); exact intsDead_nil)
      | (refine callT_ofN (k4) ?_)
      | (refine callU_of (k4) rfl ?_)
      | (refine callU_ofN (k4) rfl ?_)
      | (refine callT_of (k5) ?_ ?_; rotate_left; (repeat (refine intsDead_updB rfl ?_)); exact intsDead_nil)
      | (refine callT_ofN (k5) ?_)
      | (refine callU_of (k5) rfl ?_)
      | (refine callU_ofN (k5) rfl ?_)
      | (refine callT_of (k6) ?_ ?_; rotate_left; (repeat (refine intsDead_updB rfl ?_)); exact intsDead_nil)
      | (refine callT_ofN (k6) ?_)
      | (refine callU_of (k6) rfl ?_)
      | (refine callU_ofN (k6) rfl ?_)
      | (refine callT_of (k7) ?_ ?_; rotate_left; (repeat (refine intsDead_updB rfl ?_)); exact intsDead_nil)
      | (refine callT_ofN (k7) ?_)
      | (refine callU_of (k7) rfl ?_)
      | (refine callU_ofN (k7) rfl ?_)
      | (refine callT_of (k8) ?_ ?_; rotate_left; (repeat (refine intsDead_updB rfl ?_)); exact intsDead_nil)
      | (refine callT_ofN (k8) ?_)
      | (refine callU_of (k8) rfl ?_)
      | (refine callU_ofN (k8) rfl ?_)
      | (refine callT_of (k9) ?_ ?_; rotate_left; (repeat (refine intsDead_updB rfl ?_)); exact intsDead_nil)
      | (refine callT_ofN (k9) ?_)
      | (refine callU_of (k9) rfl ?_)
      | (refine callU_ofN (k9) rfl ?_)
      | (refine callT_of (k10) ?_ ?_; rotate_left; (repeat (refine intsDead_updB rfl ?_)); exact intsDead_nil)
      | (refine callT_ofN (k10) ?_)
      | (refine callU_of (k10) rfl ?_)
      | (refine callU_ofN (k10) rfl ?_)
      | (refine callT_of (k11) ?_ ?_; rotate_left; (repeat (refine intsDead_updB rfl ?_)); exact intsDead_nil)
      | (refine callT_ofN (k11) ?_)
      | (refine callU_of (k11) rfl ?_)
      | (refine callU_ofN (k11) rfl ?_)
      | (refine callT_of (k12) ?_ ?_; rotate_left; (repeat (refine intsDead_updB rfl ?_)); exact intsDead_nil)
      | (refine callT_ofN (k12) ?_)
      | (refine callU_of (k12) rfl ?_)
      | (refine callU_ofN (k12) rfl ?_)
      | (refine callT_of (k13) ?_ ?_; rotate_left; (repeat (refine intsDead_updB rfl ?_)); exact intsDead_nil)
      | (refine callT_ofN (k13) ?_)
      | (refine callU_of (k13) rfl ?_)
      | (refine callU_ofN (k13) rfl ?_)
      | (refine callT_of (k14) ?_ ?_; rotate_left; (repeat (refine intsDead_updB rfl ?_)); exact intsDead_nil)
      | (refine callT_ofN (k14) ?_)
      | (refine callU_of (k14) rfl ?_)
      | (refine callU_ofN (k14) rfl ?_)
      | (refine callT_of (k15) ?_ ?_; rotate_left; (repeat (refine intsDead_updB rfl ?_)); exact intsDead_nil)
      | (refine callT_ofN (k15) ?_)
      | (refine callU_of (k15) rfl ?_)
      | (refine callU_ofN (k15) rfl ?_)
      | (simp only [go_sem, ↓reduceIte, hres, bne_self_eq_false])
      | (clear hK; clear K))
end Go.Proofs.Ytenmlcpbjjlokaa

/-
  The statement ScaleTells, joined: the frame round the law's contract: the law returns true for every input, and each argument reads behind the call as it read before.
-/
namespace Go.Proofs.Ytenmlcpbjjlokaa.scaleTellsDone
set_option linter.unusedVariables false
set_option linter.unusedSimpArgs false
open Go.ChangeShapes Go.WideShapes Go.ChangeAt Go.RowKit
set_option linter.unusedVariables false

theorem own : ownKnob Try.prog.godebug = none := by kernel_rfl
theorem laidOut : laidOutB Try.prog = true := by kernel_rfl

set_option maxRecDepth 100000 in
theorem lifted (os : Os) (started : os.Started) (H : Type) (enc : TypeId × Value → H) :
    ReturnsInHanded {} Try.checked os 3 .any (Rows.scaleTellsSpec.pre6 enc Try.prog Try.f3 Rows.scaleTellsRow.domain false) (Rows.scaleTellsSpec.post enc Try.prog Try.f3 false true false false) := by
  refine returnsInHanded_of_change (C := Try.checked) own started (by kernel_rfl) Try.func3
    (ChangeSpec.witness6 (enc := enc) (C := Try.checked) false ⟨#[], #[.slice none 0 0, .slice none 0 0, .int .i64 0, .int .i64 0, .int .i64 0, .agg #[.int .i64 0, .int .i64 0, .int .i64 0, .int .i64 0, .int .i64 0, .int .i64 0]], []⟩ 8 (by kernel_rfl) (by kernel_rfl) (by kernel_rfl) (by kernel_rfl)) ?_
  intro W base args ds gs before hval0 hW hcnd _
  have hval : ∀ (j : Nat) t v, Try.f3.params[j]? = some t → args[j]? = some v → Value.okWide Try.prog W .any base t v := hval0
  have hW' := hW
  obtain ⟨p, q, hA0, hV, rfl, hfz, hnd⟩ := hW
  have hA : DataW.TrodAll enc Try.prog W 0 (fun _ => true) true Try.f3.params.toList args.toList ds p := hA0
  rw [Try.params3] at hA hval
  obtain ⟨v0, vs0, d0, ds0, p0, q0, hargs, rfl, rfl, h0, r0⟩ := trodAll_cons hA
  obtain ⟨v1, vs1, d1, ds1, p1, q1, rfl, rfl, rfl, h1, r1⟩ := trodAll_cons r0
  obtain ⟨v2, vs2, d2, ds2, p2, q2, rfl, rfl, rfl, h2, r2⟩ := trodAll_cons r1
  obtain ⟨v3, vs3, d3, ds3, p3, q3, rfl, rfl, rfl, h3, r3⟩ := trodAll_cons r2
  obtain ⟨v4, vs4, d4, ds4, p4, q4, rfl, rfl, rfl, h4, r4⟩ := trodAll_cons r3
  obtain ⟨v5, vs5, d5, ds5, p5, q5, rfl, rfl, rfl, h5, r5⟩ := trodAll_cons r4
  obtain ⟨rfl, rfl, rfl⟩ := trodAll_nil r5
  obtain rfl : args = #[v0, v1, v2, v3, v4, v5] := by cases args; simp_all
  obtain ⟨rfl, rfl⟩ := trodVars_none hV
  have k0 := h0
  have lt0 : ∀ x ∈ p0, x.block < W.heap.size := by obtain ⟨m, hm⟩ := k0; exact DataW.trod_lt m _ _ _ hm
  obtain ⟨es0, z0, sh0, w0⟩ := repA_slice (n := 4) Try.underlying22 (by kernel_rfl) (hval 0 22 v0 rfl rfl) h0
  obtain ⟨l0, rfl⟩ := map_of_all (f := cC) (fun x hx => cert_of (sh0 x hx))
  have k1 := h1
  have lt1 : ∀ x ∈ p1, x.block < W.heap.size := by obtain ⟨m, hm⟩ := k1; exact DataW.trod_lt m _ _ _ hm
  obtain ⟨es1, z1, sh1, w1⟩ := repA_slice (n := 4) Try.underlying23 (by kernel_rfl) (hval 1 23 v1 rfl rfl) h1
  obtain ⟨l1, rfl⟩ := map_of_all (f := cR) (fun x hx => rec_of (sh1 x hx))
  obtain ⟨a2, rfl, rfl, rfl, w2⟩ := open_int Try.underlying3 (hval 2 3 v2 rfl rfl) h2
  obtain ⟨a3, rfl, rfl, rfl, w3⟩ := open_int Try.underlying3 (hval 3 3 v3 rfl rfl) h3
  obtain ⟨a4, rfl, rfl, rfl, w4⟩ := open_int Try.underlying3 (hval 4 3 v4 rfl rfl) h4
  have k5 := h5
  have lt5 : ∀ x ∈ p5, x.block < W.heap.size := by obtain ⟨m, hm⟩ := k5; exact DataW.trod_lt m _ _ _ hm
  obtain ⟨cs5, sh5, w5⟩ := repA_struct (n := 4) Try.underlying25 (by kernel_rfl) (hval 5 25 v5 rfl rfl) h5
  obtain ⟨c5, rfl⟩ := cert_of sh5
  clear hA0 hval0
  have hc := (tells13_c l0 l1 a2 a3 a4 c5).2 allS W [v0, v1, .int .i64 a2, .int .i64 a3, .int .i64 a4, v5] (fun _ _ _ => trivial) (fun _ _ _ _ _ => trivial) (Reps.cons (w0) (Reps.cons (w1) (Reps.cons (.v _) (Reps.cons (.v _) (Reps.cons (.v _) (Reps.cons (w5) (Reps.nil)))))))
  refine hc.mono fun e W' he => ?_
  obtain ⟨u, rfl, bel, hu⟩ := he
  rw [hu.inv_v]
  exact ⟨_, rfl, _, _, _, [], _, [], hW', trodAll_mk1 (shut_bool Try.underlying4 _), (trodAll_cons_mk (Below.trod laidOut (by kernel_rfl) (of_decide_eq_true (by kernel_rfl)) k0 bel lt0) (trodAll_cons_mk (Below.trod laidOut (by kernel_rfl) (of_decide_eq_true (by kernel_rfl)) k1 bel lt1) (trodAll_cons_mk (shut_int Try.underlying3 w2) (trodAll_cons_mk (shut_int Try.underlying3 w3) (trodAll_cons_mk (shut_int Try.underlying3 w4) (trodAll_cons_mk (Below.trod laidOut (by kernel_rfl) (of_decide_eq_true (by kernel_rfl)) k5 bel lt5) (trodAll_mk0))))))), rfl, bel.frame _, fun h => by cases h⟩

theorem over : Rows.scaleTellsRow.holds Try.pinned (OpenSpec.ofChange Rows.scaleTellsSpec) :=
  OpenClaim.holds_of_wide 3 Try.f3 rfl rfl rfl rfl rfl rfl rfl ⟨rfl, rfl, rfl, rfl, rfl⟩ rfl rfl rfl rfl rfl (by kernel_rfl) Try.func3 (by kernel_rfl)
    (of_decide_eq_true (by kernel_rfl)) (by unfold Func.isWrapper; first | (rw [if_pos (by decide +kernel)]; kernel_rfl) | (rw [if_neg (by decide +kernel)]; exact ⟨rfl, rfl⟩))
    (fun os started H enc _ => lifted os started H enc)

/-- The statement. -/
theorem proved : Rows.ScaleTellsSaid := over
end Go.Proofs.Ytenmlcpbjjlokaa.scaleTellsDone
