/-
  ScaleTells: the walk.
-/
import Derived.Test.YtenmlcpbjjlokaaMLawS

/-
  ScaleTells: the walk.
-/
namespace Go.Proofs.Ytenmlcpbjjlokaa
set_option linter.unusedVariables false
set_option linter.unusedSimpArgs false
open Go Go.RowKit
attribute [local go_sem] opsL_nil opsL_go opsL_guard gSel_tt gSel_ff gSel_tf gSel_ft stepR_some stepR_none callS_some callE_some runL_nil runL_go runL_guard gSelE_tt gSelE_ff gSelE_tf gSelE_ft stepE_some stepE_none opF callD rd constD putT upd_get guardL gOf_bool gOf_undef fieldAddrF fieldF loadF storeF indexAddrF indexF sliceF strSliceF bound buildF fillF buildSliceF elemsF allocF makeSliceF lenF elemsOf appendF minmaxF convertF boxF ldE blkAt spliceE D.cells? D.isCell Res.pure ov TyI.agg binD unD boolD initT thenA inBlockA argD argDs refsD refsL killW datJ datJs endA_ret endA_normal endR_some oneD_one oneD_two oneD_three oneD_four resDs resD fzT Value.oneCell' strip tabT tabM
attribute [local go_sem] List.map Nat.reduceEqDiff Nat.reduceBEq List.getElem?_cons_zero List.getElem?_cons_succ List.getElem?_nil Option.getD_some Option.getD_none true_and and_true true_or or_true false_or or_false and_self Nat.add_zero Nat.zero_add List.length_nil List.length_cons forall_const ite_true ite_false Bool.or_self Bool.false_eq_true Option.map_some Option.map_none beq_self_eq_true Nat.reduceAdd Nat.reduceSub Nat.reduceMul reduceCtorEq List.getElem?_toArray Bool.not_true Bool.not_false decide_eq_true_eq decide_true decide_false Nat.reduceLeDiff Nat.reduceLT Bool.or_false Bool.or_true Bool.and_true Bool.and_false Bool.false_and Bool.true_and Bool.true_beq Bool.false_beq beq_true beq_false Bool.not_eq_true List.drop_succ_cons List.take_succ_cons List.drop_zero List.take_zero List.length_map List.getElem?_map List.length_append List.all_cons List.all_nil List.append_nil List.nil_append List.cons_append List.set_cons_zero List.set_cons_succ Int.toNat_natCast Int.toNat_zero Option.isSome_some Option.isSome_none Array.size_empty ByteArray.size_empty Int.reduceToNat Int.reduceAdd Int.reduceSub Int.reduceLT Int.reduceLE Int.reduceEq Int.reduceNe Int.reduceBEq Int.reduceNeg List.forall_mem_cons List.not_mem_nil false_implies List.forall_mem_map implies_true Nat.reduceBNe Int.cast_ofNat_Int Int.reduceMul Int.reduceGE Int.reduceGT wrap_in ty_2 ty_3 ty_4 ty_5 ty_6 ty_7 ty_8 ty_9 ty_10 ty_11 ty_12 ty_13 ty_14 ty_18 ty_19 ty_21 ty_22 ty_23 ty_24 ty_25 ty_30 ty_31 ty_32 ty_33 ty_34 ty_44 ty_51 ty_52 ty_54 ty_55 ty_56 ty_57 ty_58 ty_74 ty_75 ty_78 ty_93 ty_94 ty_121 ty_122 ty_131 ty_132 ty_133 ty_134 ty_135 ty_137 ty_138 ty_139 ty_142 ty_143 ty_144 ty_145
set_option maxRecDepth 100000
set_option maxHeartbeats 2000000

theorem szF_zF : szF zF = 0 := rfl
theorem szF_err (c : CertD) (reading day : Int) : (szF (errD c reading day).1 : Int) ≤ 100 := by
  unfold errD
  split
  · rename_i h; have := szQ_err h; rw [szF_ofQ]; omega
  · rw [szF_zF]; omega
theorem szF_inter (cs : List CertD) (rs : List RecD) (which reading day : Int) : (szF (intD cs rs which reading day).lo : Int) ≤ 100 ∧ (szF (intD cs rs which reading day).hi : Int) ≤ 100 := by
  unfold intD
  split
  · exact ⟨by show (szF zF : Int) ≤ 100; rw [szF_zF]; omega, by show (szF zF : Int) ≤ 100; rw [szF_zF]; omega⟩
  · rename_i b hb
    split
    · exact ⟨by show (szF zF : Int) ≤ 100; rw [szF_zF]; omega, by show (szF zF : Int) ≤ 100; rw [szF_zF]; omega⟩
    · rename_i c hc
      split
      · exact ⟨by show (szF zF : Int) ≤ 100; rw [szF_zF]; omega, by show (szF zF : Int) ≤ 100; rw [szF_zF]; omega⟩
      · rename_i h
        simp only [Bool.or_eq_true, not_or, Bool.not_eq_true, Bool.not_eq_eq_eq_not, Bool.not_true, Bool.not_false] at h
        obtain ⟨_, c', hc', hcv, _⟩ := findC_some hb
        rw [hc] at hc'
        cases hc'
        have hok : errOk c reading day = true := by simp [errOk, hcv, h.2]
        have hz := szQ_err hok
        obtain ⟨b1, b2, b3, b4, b5⟩ := err_bounds hok
        have z1 := szQ_int reading (by omega) (by omega)
        have z2 := szQ_sub (reading : Rat) (errQ c reading day)
        have z3 := szQ_add (reading : Rat) (errQ c reading day)
        have z4 := szQ_max ((reading : Rat) - errQ c reading day) 0
        have z5 : szQ 0 ≤ 4 := szQ_int 0 (by decide) (by decide)
        exact ⟨by show (szQ (maxQ ((reading : Rat) - errQ c reading day) 0) : Int) ≤ 100; omega, by show (szQ ((reading : Rat) + errQ c reading day) : Int) ≤ 100; omega⟩

theorem tells13_c (cs : List CertD) (rs : List RecD) (which reading day : Int) (c : CertD) : Contract Try.prog 3 [encCs cs, encRs rs, dI which, dI reading, dI day, encC c] (dB true) := by
  have hres := Try.results3
  have k1 := sane_c
  have k2 := few13_c cs rs
  cases hfew : (decide ((cs.length : Int) ≤ 120) && decide ((rs.length : Int) ≤ 60))
  · rw [hfew] at k2
    refine Contract.ofA (CallA.inline Try.func3 rfl (by kernel_rfl) (by kernel_rfl) (by kernel_rfl) ?_)
    rw [Try.ntmps3]
    repeat (first
      | (refine hK _ ?_; clear hK; clear K)
      | (refine aSeq fun K hK => ?_)
      | (refine aBlock ?_)
      | (refine aSkip ?_)
      | (refine aExit ?_)
      | (refine aRet ?_)
      | (refine aOps _ rfl (by kernel_rfl) ?_)
      | (refine aRunK _ rfl mixed (by kernel_rfl) (by kernel_rfl) fun KE hE => ?_)
      | (refine hE _ _ (by kernel_rfl) (intsOk_no rfl) ?_; clear hE; clear KE)
      | (refine hE _ _ (by kernel_rfl) (intsOk_yes ?hi ?hj) ?_; (case hi => (repeat (refine intsDead_updB rfl ?_)); exact intsDead_nil); (case hj => simp); clear hE; clear KE)
      | (refine aCondT rfl ?hc ?_; case hc => simp only [go_sem, ↓reduceIte, hres])
      | (refine aCondF rfl ?hc ?_; case hc => simp only [go_sem, ↓reduceIte, hres])
      | (refine callT_of (k1) ?_ ?_; rotate_left; (repeat (refine intsDead_updB rfl ?_)); exact intsDead_nil)
      | (refine callT_ofN (k1) ?_)
      | (refine callU_of (k1) rfl ?_)
      | (refine callU_ofN (k1) rfl ?_)
      | (refine callT_of (k2) ?_ ?_; rotate_left; (repeat (refine intsDead_updB rfl ?_)); exact intsDead_nil)
      | (refine callT_ofN (k2) ?_)
      | (refine callU_of (k2) rfl ?_)
      | (refine callU_ofN (k2) rfl ?_)
      | (simp only [go_sem, ↓reduceIte, hres])
      | (refine And.intro ?ho ?_; (case ho => omega))
      | (clear hK; clear K))
  · rw [hfew] at k2
    simp only [Bool.and_eq_true, decide_eq_true_eq] at hfew
    have k3 := find_c cs which day (by omega)
    have k4 := rfind_c cs which day (by omega)
    have k5 := err_c c reading day
    have k6 := rerr_c c reading day
    have k7 := inter_c cs rs which reading day (by omega) (by omega)
    have k8 := rinter_c cs rs which reading day (by omega) (by omega)
    have k9 := same_c (errD c reading day).1 (errD c reading day).1 (by have := szF_err c reading day; omega)
    have k10 := same_c (intD cs rs which reading day).lo (intD cs rs which reading day).lo (by have := (szF_inter cs rs which reading day).1; omega)
    have k11 := same_c (intD cs rs which reading day).hi (intD cs rs which reading day).hi (by have := (szF_inter cs rs which reading day).2; omega)
    rw [sameF_self] at k9 k10 k11
    have k12 := sright_c c
    have k13 := rright13_c c
    have k14 := recalled_c rs which day (by omega)
    have k15 := rrecalled_c rs which day (by omega)
    refine Contract.ofA (CallA.inline Try.func3 rfl (by kernel_rfl) (by kernel_rfl) (by kernel_rfl) ?_)
    rw [Try.ntmps3]
    repeat (first
      | (refine hK _ ?_; clear hK; clear K)
      | (refine aSeq fun K hK => ?_)
      | (refine aBlock ?_)
      | (refine aSkip ?_)
      | (refine aExit ?_)
      | (refine aRet ?_)
      | (refine aOps _ rfl (by kernel_rfl) ?_)
      | (refine aRunK _ rfl mixed (by kernel_rfl) (by kernel_rfl) fun KE hE => ?_)
      | (refine hE _ _ (by kernel_rfl) (intsOk_no rfl) ?_; clear hE; clear KE)
      | (refine hE _ _ (by kernel_rfl) (intsOk_yes ?hi ?hj) ?_; (case hi => (repeat (refine intsDead_updB rfl ?_)); exact intsDead_nil); (case hj => simp); clear hE; clear KE)
      | (refine aCondT rfl ?hc ?_; case hc => simp only [go_sem, ↓reduceIte, hres, bne_self_eq_false])
      | (refine aCondF rfl ?hc ?_; case hc => simp only [go_sem, ↓reduceIte, hres, bne_self_eq_false])
      | (refine callT_of (k1) ?_ ?_; rotate_left; (repeat (refine intsDead_updB rfl ?_)); exact intsDead_nil)
      | (refine callT_ofN (k1) ?_)
      | (refine callU_of (k1) rfl ?_)
      | (refine callU_ofN (k1) rfl ?_)
      | (refine callT_of (k2) ?_ ?_; rotate_left; (repeat (refine intsDead_updB rfl ?_)); exact intsDead_nil)
      | (refine callT_ofN (k2) ?_)
      | (refine callU_of (k2) rfl ?_)
      | (refine callU_ofN (k2) rfl ?_)
      | (refine callT_of (k3) ?_ ?_; rotate_left; (repeat (refine intsDead_updB rfl ?_)); exact intsDead_nil)
      | (refine callT_ofN (k3) ?_)
      | (refine callU_of (k3) rfl ?_)
      | (refine callU_ofN (k3) rfl ?_)
      | (refine callT_of (k4) ?_ ?_; rotate_left; (repeat (refine intsDead_updB rfl ?_)); exact intsDead_nil)
      | (refine callT_ofN (k4) ?_)
      | (refine callU_of (k4) rfl ?_)
      | (refine callU_ofN (k4) rfl ?_)
      | (refine callT_of (k5) ?_ ?_; rotate_left; (repeat (refine intsDead_updB rfl ?_)); exact intsDead_nil)
      | (refine callT_ofN (k5) ?_)
      | (refine callU_of (k5) rfl ?_)
      | (refine callU_ofN (k5) rfl ?_)
      | (refine callT_of (k6) ?_ ?_; rotate_left; (repeat (refine intsDead_updB rfl ?_)); exact intsDead_nil)
      | (refine callT_ofN (k6) ?_)
      | (refine callU_of (k6) rfl ?_)
      | (refine callU_ofN (k6) rfl ?_)
      | (refine callT_of (k7) ?_ ?_; rotate_left; (repeat (refine intsDead_updB rfl ?_)); exact intsDead_nil)
      | (refine callT_ofN (k7) ?_)
      | (refine callU_of (k7) rfl ?_)
      | (refine callU_ofN (k7) rfl ?_)
      | (refine callT_of (k8) ?_ ?_; rotate_left; (repeat (refine intsDead_updB rfl ?_)); exact intsDead_nil)
      | (refine callT_ofN (k8) ?_)
      | (refine callU_of (k8) rfl ?_)
      | (refine callU_ofN (k8) rfl ?_)
      | (refine callT_of (k9) ?_ ?_; rotate_left; (repeat (refine intsDead_updB rfl ?_)); exact intsDead_nil)
      | (refine callT_ofN (k9) ?_)
      | (refine callU_of (k9) rfl ?_)
      | (refine callU_ofN (k9) rfl ?_)
      | (refine callT_of (k10) ?_ ?_; rotate_left; (repeat (refine intsDead_updB rfl ?_)); exact intsDead_nil)
      | (refine callT_ofN (k10) ?_)
      | (refine callU_of (k10) rfl ?_)
      | (refine callU_ofN (k10) rfl ?_)
      | (refine callT_of (k11) ?_ ?_; rotate_left; (repeat (refine intsDead_updB rfl ?_)); exact intsDead_nil)
      | (refine callT_ofN (k11) ?_)
      | (refine callU_of (k11) rfl ?_)
      | (refine callU_ofN (k11) rfl ?_)
      | (refine callT_of (k12) ?_ ?_; rotate_left; (repeat (refine intsDead_updB rfl ?_)); exact intsDead_nil)
      | (refine callT_ofN (k12) ?_)
      | (refine callU_of (k12) rfl ?_)
      | (refine callU_ofN (k12) rfl ?_)
      | (refine callT_of (k13) ?_ ?_; rotate_left; (repeat (refine intsDead_updB rfl ?_)); exact intsDead_nil)
      | (refine callT_ofN (k13) ?_)
      | (refine callU_of (k13) rfl ?_)
      | (refine callU_ofN (k13) rfl ?_)
      | (refine callT_of (k14) ?_ ?_; rotate_left; (repeat (refine intsDead_updB rfl ?_)); exact intsDead_nil)
      | (refine callT_ofN (k14) ?_)
      | (refine callU_of (k14) rfl ?_)
      | (refine callU_ofN (k14) rfl ?_)
      | (refine callT_of (k15) ?_ ?_; rotate_left; (repeat (refine intsDead_updB rfl ?_)); exact intsDead_nil)
      | (refine callT_ofN (k15) ?_)
      | (refine callU_of (k15) rfl ?_)
      | (refine callU_ofN (k15) rfl ?_)
      | (simp only [go_sem, ↓reduceIte, hres, bne_self_eq_false])
      | (refine And.intro ?ho ?_; (case ho => omega))
      | (clear hK; clear K))
end Go.Proofs.Ytenmlcpbjjlokaa

/-
  ScaleHolds: the walk.
-/
namespace Go.Proofs.Ytenmlcpbjjlokaa
set_option linter.unusedVariables false
set_option linter.unusedSimpArgs false
open Go Go.RowKit
attribute [local go_sem] opsL_nil opsL_go opsL_guard gSel_tt gSel_ff gSel_tf gSel_ft stepR_some stepR_none callS_some callE_some runL_nil runL_go runL_guard gSelE_tt gSelE_ff gSelE_tf gSelE_ft stepE_some stepE_none opF callD rd constD putT upd_get guardL gOf_bool gOf_undef fieldAddrF fieldF loadF storeF indexAddrF indexF sliceF strSliceF bound buildF fillF buildSliceF elemsF allocF makeSliceF lenF elemsOf appendF minmaxF convertF boxF ldE blkAt spliceE D.cells? D.isCell Res.pure ov TyI.agg binD unD boolD initT thenA inBlockA argD argDs refsD refsL killW datJ datJs endA_ret endA_normal endR_some oneD_one oneD_two oneD_three oneD_four resDs resD fzT Value.oneCell' strip tabT tabM
attribute [local go_sem] List.map Nat.reduceEqDiff Nat.reduceBEq List.getElem?_cons_zero List.getElem?_cons_succ List.getElem?_nil Option.getD_some Option.getD_none true_and and_true true_or or_true false_or or_false and_self Nat.add_zero Nat.zero_add List.length_nil List.length_cons forall_const ite_true ite_false Bool.or_self Bool.false_eq_true Option.map_some Option.map_none beq_self_eq_true Nat.reduceAdd Nat.reduceSub Nat.reduceMul reduceCtorEq List.getElem?_toArray Bool.not_true Bool.not_false decide_eq_true_eq decide_true decide_false Nat.reduceLeDiff Nat.reduceLT Bool.or_false Bool.or_true Bool.and_true Bool.and_false Bool.false_and Bool.true_and Bool.true_beq Bool.false_beq beq_true beq_false Bool.not_eq_true List.drop_succ_cons List.take_succ_cons List.drop_zero List.take_zero List.length_map List.getElem?_map List.length_append List.all_cons List.all_nil List.append_nil List.nil_append List.cons_append List.set_cons_zero List.set_cons_succ Int.toNat_natCast Int.toNat_zero Option.isSome_some Option.isSome_none Array.size_empty ByteArray.size_empty Int.reduceToNat Int.reduceAdd Int.reduceSub Int.reduceLT Int.reduceLE Int.reduceEq Int.reduceNe Int.reduceBEq Int.reduceNeg List.forall_mem_cons List.not_mem_nil false_implies List.forall_mem_map implies_true Nat.reduceBNe Int.cast_ofNat_Int Int.reduceMul Int.reduceGE Int.reduceGT wrap_in ty_2 ty_3 ty_4 ty_5 ty_6 ty_7 ty_8 ty_9 ty_10 ty_11 ty_12 ty_13 ty_14 ty_18 ty_19 ty_21 ty_22 ty_23 ty_24 ty_25 ty_30 ty_31 ty_32 ty_33 ty_34 ty_44 ty_51 ty_52 ty_54 ty_55 ty_56 ty_57 ty_58 ty_74 ty_75 ty_78 ty_93 ty_94 ty_121 ty_122 ty_131 ty_132 ty_133 ty_134 ty_135 ty_137 ty_138 ty_139 ty_142 ty_143 ty_144 ty_145
set_option maxRecDepth 100000
set_option maxHeartbeats 2000000

theorem rcmp_q (a b : Rat) (za : (szQ a : Int) ≤ 68719476736) (zb : (szQ b : Int) ≤ 68719476736) : ContractN Try.prog 29 [encF (ofQ a), encF (ofQ b)] (dI (sgQ (a - b))) := by
  have := (rcompareF_c (ofQ a) (ofQ b) za zb).toN rfl
  rwa [cmpD_ofQ] at this
theorem divInt_nonneg {p q : Int} (hp : 0 ≤ p) (hq : 0 < q) : 0 ≤ Rat.divInt p q := by
  have h := sgQ_divInt (p := p) hq
  rcases sgQ_cases (Rat.divInt p q) with ⟨h1, h2⟩ | ⟨h1, h2⟩ | ⟨h1, h2⟩
  · rw [h2] at h
    have := Int.sign_nonneg_iff.2 hp
    omega
  · grind
  · grind
theorem err_nonneg {c : CertD} {reading day : Int} (h : errOk c reading day = true) : 0 ≤ errQ c reading day := by
  obtain ⟨b1, b2, b3, b4, b5⟩ := err_bounds h
  have h1 : 0 ≤ Rat.divInt (c.p * reading) 1000 := divInt_nonneg b1.1 (by decide)
  have h2 : (0 : Rat) ≤ ((c.g + c.d * (day - c.f) : Int) : Rat) := by exact_mod_cast (by omega : 0 ≤ c.g + c.d * (day - c.f))
  unfold errQ
  grind
theorem same_q (a : Rat) (za : (szQ a : Int) ≤ 68719476736) : ContractN Try.prog 22 [encF (ofQ a), encF (ofQ a)] (dB true) := by
  have := same_c (ofQ a) (ofQ a) (by rw [szF_ofQ]; omega)
  rwa [sameF_self] at this
theorem differ_q (a b : Rat) (za : (szQ a : Int) ≤ 68719476736) (h : a ≠ b) : ContractN Try.prog 22 [encF (ofQ a), encF (ofQ b)] (dB false) := by
  have := same_c (ofQ a) (ofQ b) (by rw [szF_ofQ]; omega)
  have e : sameF (ofQ a) (ofQ b) = false := by
    cases hs : sameF (ofQ a) (ofQ b) with
    | false => rfl
    | true => exact absurd (ofQ_inj (sameF_iff.1 hs)) h
  rwa [e] at this
theorem same_z : ContractN Try.prog 22 [encF zF, encF zF] (dB true) := by
  have := same_c zF zF (by rw [szF_zF]; decide)
  rwa [sameF_self] at this

theorem holds13_c (cs : List CertD) (rs : List RecD) (which reading day : Int) : Contract Try.prog 4 [encCs cs, encRs rs, dI which, dI reading, dI day] (dB true) := by
  have hres := Try.results4
  have k1 := sane_c
  have k2 := few13_c cs rs
  cases hfew : (decide ((cs.length : Int) ≤ 120) && decide ((rs.length : Int) ≤ 60))
  · rw [hfew] at k2
    refine Contract.ofA (CallA.inline Try.func4 rfl (by kernel_rfl) (by kernel_rfl) (by kernel_rfl) ?_)
    rw [Try.ntmps4]
    repeat (first
      | (refine hK _ ?_; clear hK; clear K)
      | (refine aSeq fun K hK => ?_)
      | (refine aBlock ?_)
      | (refine aSkip ?_)
      | (refine aExit ?_)
      | (refine aRet ?_)
      | (refine aOps _ rfl (by kernel_rfl) ?_)
      | (refine aRunK _ rfl mixed (by kernel_rfl) (by kernel_rfl) fun KE hE => ?_)
      | (refine hE _ _ (by kernel_rfl) (intsOk_no rfl) ?_; clear hE; clear KE)
      | (refine hE _ _ (by kernel_rfl) (intsOk_yes ?hi ?hj) ?_; (case hi => (repeat (refine intsDead_updB rfl ?_)); exact intsDead_nil); (case hj => simp); clear hE; clear KE)
      | (refine aCondT rfl ?hc ?_; case hc => simp only [go_sem, ↓reduceIte, hres])
      | (refine aCondF rfl ?hc ?_; case hc => simp only [go_sem, ↓reduceIte, hres])
      | (refine callT_of (k1) ?_ ?_; rotate_left; (repeat (refine intsDead_updB rfl ?_)); exact intsDead_nil)
      | (refine callT_ofN (k1) ?_)
      | (refine callU_of (k1) rfl ?_)
      | (refine callU_ofN (k1) rfl ?_)
      | (refine callT_of (k2) ?_ ?_; rotate_left; (repeat (refine intsDead_updB rfl ?_)); exact intsDead_nil)
      | (refine callT_ofN (k2) ?_)
      | (refine callU_of (k2) rfl ?_)
      | (refine callU_ofN (k2) rfl ?_)
      | (simp only [go_sem, ↓reduceIte, hres])
      | (refine And.intro ?ho ?_; (case ho => omega))
      | (clear hK; clear K))
  rw [hfew] at k2
  simp only [Bool.and_eq_true, decide_eq_true_eq] at hfew
  have kf := find_c cs which day (by omega)
  have kr := recalled_c rs which day (by omega)
  have ki := inter_c cs rs which reading day (by omega) (by omega)
  have kz := same_z
  cases h1 : findC cs which day with
  | none =>
    rw [h1] at kf
    rw [show intD cs rs which reading day = ⟨zF, zF, false⟩ by simp [intD, h1, noI]] at ki
    refine Contract.ofA (CallA.inline Try.func4 rfl (by kernel_rfl) (by kernel_rfl) (by kernel_rfl) ?_)
    rw [Try.ntmps4]
    repeat (first
      | (refine hK _ ?_; clear hK; clear K)
      | (refine aSeq fun K hK => ?_)
      | (refine aBlock ?_)
      | (refine aSkip ?_)
      | (refine aExit ?_)
      | (refine aRet ?_)
      | (refine aOps _ rfl (by kernel_rfl) ?_)
      | (refine aRunK _ rfl mixed (by kernel_rfl) (by kernel_rfl) fun KE hE => ?_)
      | (refine hE _ _ (by kernel_rfl) (intsOk_no rfl) ?_; clear hE; clear KE)
      | (refine hE _ _ (by kernel_rfl) (intsOk_yes ?hi ?hj) ?_; (case hi => (repeat (refine intsDead_updB rfl ?_)); exact intsDead_nil); (case hj => simp); clear hE; clear KE)
      | (refine aCondT rfl ?hc ?_; case hc => simp only [go_sem, ↓reduceIte, hres, bne_self_eq_false])
      | (refine aCondF rfl ?hc ?_; case hc => simp only [go_sem, ↓reduceIte, hres, bne_self_eq_false])
      | (refine callT_of (k1) ?_ ?_; rotate_left; (repeat (refine intsDead_updB rfl ?_)); exact intsDead_nil)
      | (refine callT_ofN (k1) ?_)
      | (refine callU_of (k1) rfl ?_)
      | (refine callU_ofN (k1) rfl ?_)
      | (refine callT_of (k2) ?_ ?_; rotate_left; (repeat (refine intsDead_updB rfl ?_)); exact intsDead_nil)
      | (refine callT_ofN (k2) ?_)
      | (refine callU_of (k2) rfl ?_)
      | (refine callU_ofN (k2) rfl ?_)
      | (refine callT_of (kf) ?_ ?_; rotate_left; (repeat (refine intsDead_updB rfl ?_)); exact intsDead_nil)
      | (refine callT_ofN (kf) ?_)
      | (refine callU_of (kf) rfl ?_)
      | (refine callU_ofN (kf) rfl ?_)
      | (refine callT_of (kr) ?_ ?_; rotate_left; (repeat (refine intsDead_updB rfl ?_)); exact intsDead_nil)
      | (refine callT_ofN (kr) ?_)
      | (refine callU_of (kr) rfl ?_)
      | (refine callU_ofN (kr) rfl ?_)
      | (refine callT_of (ki) ?_ ?_; rotate_left; (repeat (refine intsDead_updB rfl ?_)); exact intsDead_nil)
      | (refine callT_ofN (ki) ?_)
      | (refine callU_of (ki) rfl ?_)
      | (refine callU_ofN (ki) rfl ?_)
      | (refine callT_of (kz) ?_ ?_; rotate_left; (repeat (refine intsDead_updB rfl ?_)); exact intsDead_nil)
      | (refine callT_ofN (kz) ?_)
      | (refine callU_of (kz) rfl ?_)
      | (refine callU_ofN (kz) rfl ?_)
      | (simp only [go_sem, ↓reduceIte, hres, bne_self_eq_false])
      | (refine And.intro ?ho ?_; (case ho => omega))
      | (clear hK; clear K))
  | some b =>
    rw [h1] at kf
    obtain ⟨hb, c, hx, hcv, _⟩ := findC_some h1
    have h5 : (0 : Int) ≤ b := by omega
    have h6 : (b : Int) < cs.length := by omega
    have h6n : ¬ (b : Int) ≥ cs.length := by omega
    have h5n : ¬ (b : Int) < 0 := by omega
    by_cases h7 : reading ≥ 0
    rotate_left
    · rw [show intD cs rs which reading day = ⟨zF, zF, false⟩ by simp [intD, h1, hx, inB, h7, noI]] at ki
      refine Contract.ofA (CallA.inline Try.func4 rfl (by kernel_rfl) (by kernel_rfl) (by kernel_rfl) ?_)
      rw [Try.ntmps4]
      repeat (first
      | (refine hK _ ?_; clear hK; clear K)
      | (refine aSeq fun K hK => ?_)
      | (refine aBlock ?_)
      | (refine aSkip ?_)
      | (refine aExit ?_)
      | (refine aRet ?_)
      | (refine aOps _ rfl (by kernel_rfl) ?_)
      | (refine aRunK _ rfl mixed (by kernel_rfl) (by kernel_rfl) fun KE hE => ?_)
      | (refine hE _ _ (by kernel_rfl) (intsOk_no rfl) ?_; clear hE; clear KE)
      | (refine hE _ _ (by kernel_rfl) (intsOk_yes ?hi ?hj) ?_; (case hi => (repeat (refine intsDead_updB rfl ?_)); exact intsDead_nil); (case hj => simp); clear hE; clear KE)
      | (refine aCondT rfl ?hc ?_; case hc => simp only [go_sem, ↓reduceIte, hres, h5n, h6n, h7, bne_self_eq_false])
      | (refine aCondF rfl ?hc ?_; case hc => simp only [go_sem, ↓reduceIte, hres, h5n, h6n, h7, bne_self_eq_false])
      | (refine callT_of (k1) ?_ ?_; rotate_left; (repeat (refine intsDead_updB rfl ?_)); exact intsDead_nil)
      | (refine callT_ofN (k1) ?_)
      | (refine callU_of (k1) rfl ?_)
      | (refine callU_ofN (k1) rfl ?_)
      | (refine callT_of (k2) ?_ ?_; rotate_left; (repeat (refine intsDead_updB rfl ?_)); exact intsDead_nil)
      | (refine callT_ofN (k2) ?_)
      | (refine callU_of (k2) rfl ?_)
      | (refine callU_ofN (k2) rfl ?_)
      | (refine callT_of (kf) ?_ ?_; rotate_left; (repeat (refine intsDead_updB rfl ?_)); exact intsDead_nil)
      | (refine callT_ofN (kf) ?_)
      | (refine callU_of (kf) rfl ?_)
      | (refine callU_ofN (kf) rfl ?_)
      | (refine callT_of (kr) ?_ ?_; rotate_left; (repeat (refine intsDead_updB rfl ?_)); exact intsDead_nil)
      | (refine callT_ofN (kr) ?_)
      | (refine callU_of (kr) rfl ?_)
      | (refine callU_ofN (kr) rfl ?_)
      | (refine callT_of (ki) ?_ ?_; rotate_left; (repeat (refine intsDead_updB rfl ?_)); exact intsDead_nil)
      | (refine callT_ofN (ki) ?_)
      | (refine callU_of (ki) rfl ?_)
      | (refine callU_ofN (ki) rfl ?_)
      | (refine callT_of (kz) ?_ ?_; rotate_left; (repeat (refine intsDead_updB rfl ?_)); exact intsDead_nil)
      | (refine callT_ofN (kz) ?_)
      | (refine callU_of (kz) rfl ?_)
      | (refine callU_ofN (kz) rfl ?_)
      | (simp only [go_sem, ↓reduceIte, hres, h5n, h6n, h7, bne_self_eq_false])
      | (refine And.intro ?ho ?_; (case ho => omega))
      | (clear hK; clear K))
    by_cases h8 : reading ≤ 1099511627776
    rotate_left
    · rw [show intD cs rs which reading day = ⟨zF, zF, false⟩ by simp [intD, h1, hx, inB, h8, noI]] at ki
      refine Contract.ofA (CallA.inline Try.func4 rfl (by kernel_rfl) (by kernel_rfl) (by kernel_rfl) ?_)
      rw [Try.ntmps4]
      repeat (first
      | (refine hK _ ?_; clear hK; clear K)
      | (refine aSeq fun K hK => ?_)
      | (refine aBlock ?_)
      | (refine aSkip ?_)
      | (refine aExit ?_)
      | (refine aRet ?_)
      | (refine aOps _ rfl (by kernel_rfl) ?_)
      | (refine aRunK _ rfl mixed (by kernel_rfl) (by kernel_rfl) fun KE hE => ?_)
      | (refine hE _ _ (by kernel_rfl) (intsOk_no rfl) ?_; clear hE; clear KE)
      | (refine hE _ _ (by kernel_rfl) (intsOk_yes ?hi ?hj) ?_; (case hi => (repeat (refine intsDead_updB rfl ?_)); exact intsDead_nil); (case hj => simp); clear hE; clear KE)
      | (refine aCondT rfl ?hc ?_; case hc => simp only [go_sem, ↓reduceIte, hres, h5n, h6n, h7, h8, bne_self_eq_false])
      | (refine aCondF rfl ?hc ?_; case hc => simp only [go_sem, ↓reduceIte, hres, h5n, h6n, h7, h8, bne_self_eq_false])
      | (refine callT_of (k1) ?_ ?_; rotate_left; (repeat (refine intsDead_updB rfl ?_)); exact intsDead_nil)
      | (refine callT_ofN (k1) ?_)
      | (refine callU_of (k1) rfl ?_)
      | (refine callU_ofN (k1) rfl ?_)
      | (refine callT_of (k2) ?_ ?_; rotate_left; (repeat (refine intsDead_updB rfl ?_)); exact intsDead_nil)
      | (refine callT_ofN (k2) ?_)
      | (refine callU_of (k2) rfl ?_)
      | (refine callU_ofN (k2) rfl ?_)
      | (refine callT_of (kf) ?_ ?_; rotate_left; (repeat (refine intsDead_updB rfl ?_)); exact intsDead_nil)
      | (refine callT_ofN (kf) ?_)
      | (refine callU_of (kf) rfl ?_)
      | (refine callU_ofN (kf) rfl ?_)
      | (refine callT_of (kr) ?_ ?_; rotate_left; (repeat (refine intsDead_updB rfl ?_)); exact intsDead_nil)
      | (refine callT_ofN (kr) ?_)
      | (refine callU_of (kr) rfl ?_)
      | (refine callU_ofN (kr) rfl ?_)
      | (refine callT_of (ki) ?_ ?_; rotate_left; (repeat (refine intsDead_updB rfl ?_)); exact intsDead_nil)
      | (refine callT_ofN (ki) ?_)
      | (refine callU_of (ki) rfl ?_)
      | (refine callU_ofN (ki) rfl ?_)
      | (refine callT_of (kz) ?_ ?_; rotate_left; (repeat (refine intsDead_updB rfl ?_)); exact intsDead_nil)
      | (refine callT_ofN (kz) ?_)
      | (refine callU_of (kz) rfl ?_)
      | (refine callU_ofN (kz) rfl ?_)
      | (simp only [go_sem, ↓reduceIte, hres, h5n, h6n, h7, h8, bne_self_eq_false])
      | (refine And.intro ?ho ?_; (case ho => omega))
      | (clear hK; clear K))
    have h3 : inB reading 0 1099511627776 = true := by simp [inB, h8]; omega
    cases h2 : recC rs which day
    rotate_left
    · rw [show intD cs rs which reading day = ⟨zF, zF, false⟩ by simp [intD, h1, hx, h2, noI]] at ki
      rw [h2] at kr
      refine Contract.ofA (CallA.inline Try.func4 rfl (by kernel_rfl) (by kernel_rfl) (by kernel_rfl) ?_)
      rw [Try.ntmps4]
      repeat (first
      | (refine hK _ ?_; clear hK; clear K)
      | (refine aSeq fun K hK => ?_)
      | (refine aBlock ?_)
      | (refine aSkip ?_)
      | (refine aExit ?_)
      | (refine aRet ?_)
      | (refine aOps _ rfl (by kernel_rfl) ?_)
      | (refine aRunK _ rfl mixed (by kernel_rfl) (by kernel_rfl) fun KE hE => ?_)
      | (refine hE _ _ (by kernel_rfl) (intsOk_no rfl) ?_; clear hE; clear KE)
      | (refine hE _ _ (by kernel_rfl) (intsOk_yes ?hi ?hj) ?_; (case hi => (repeat (refine intsDead_updB rfl ?_)); exact intsDead_nil); (case hj => simp); clear hE; clear KE)
      | (refine aCondT rfl ?hc ?_; case hc => simp only [go_sem, ↓reduceIte, hres, h5n, h6n, h7, h8, bne_self_eq_false])
      | (refine aCondF rfl ?hc ?_; case hc => simp only [go_sem, ↓reduceIte, hres, h5n, h6n, h7, h8, bne_self_eq_false])
      | (refine callT_of (k1) ?_ ?_; rotate_left; (repeat (refine intsDead_updB rfl ?_)); exact intsDead_nil)
      | (refine callT_ofN (k1) ?_)
      | (refine callU_of (k1) rfl ?_)
      | (refine callU_ofN (k1) rfl ?_)
      | (refine callT_of (k2) ?_ ?_; rotate_left; (repeat (refine intsDead_updB rfl ?_)); exact intsDead_nil)
      | (refine callT_ofN (k2) ?_)
      | (refine callU_of (k2) rfl ?_)
      | (refine callU_ofN (k2) rfl ?_)
      | (refine callT_of (kf) ?_ ?_; rotate_left; (repeat (refine intsDead_updB rfl ?_)); exact intsDead_nil)
      | (refine callT_ofN (kf) ?_)
      | (refine callU_of (kf) rfl ?_)
      | (refine callU_ofN (kf) rfl ?_)
      | (refine callT_of (kr) ?_ ?_; rotate_left; (repeat (refine intsDead_updB rfl ?_)); exact intsDead_nil)
      | (refine callT_ofN (kr) ?_)
      | (refine callU_of (kr) rfl ?_)
      | (refine callU_ofN (kr) rfl ?_)
      | (refine callT_of (ki) ?_ ?_; rotate_left; (repeat (refine intsDead_updB rfl ?_)); exact intsDead_nil)
      | (refine callT_ofN (ki) ?_)
      | (refine callU_of (ki) rfl ?_)
      | (refine callU_ofN (ki) rfl ?_)
      | (refine callT_of (kz) ?_ ?_; rotate_left; (repeat (refine intsDead_updB rfl ?_)); exact intsDead_nil)
      | (refine callT_ofN (kz) ?_)
      | (refine callU_of (kz) rfl ?_)
      | (refine callU_ofN (kz) rfl ?_)
      | (simp only [go_sem, ↓reduceIte, hres, h5n, h6n, h7, h8, bne_self_eq_false])
      | (refine And.intro ?ho ?_; (case ho => omega))
      | (clear hK; clear K))
    rw [h2] at kr
    have hok : errOk c reading day = true := by simp [errOk, hcv, h3]
    have hz := szQ_err hok
    have he0 := err_nonneg hok
    have ke := err_c c reading day
    rw [show errD c reading day = (ofQ (errQ c reading day), true) by simp [errD, hok]] at ke
    have hid : intD cs rs which reading day = ⟨ofQ (maxQ ((reading : Rat) - errQ c reading day) 0), ofQ ((reading : Rat) + errQ c reading day), true⟩ := by simp [intD, h1, hx, h2, h3, okI]
    rw [hid] at ki
    have hr0 : (0 : Rat) ≤ (reading : Rat) := by exact_mod_cast h7
    have z1 := szQ_int reading (by omega) (by omega)
    have kn := rint_c reading (by omega) (by omega)
    clear hid hcv hok
    generalize errQ c reading day = e at *
    generalize (reading : Rat) = r at *
    have z2 := szQ_sub r e
    have z3 := szQ_add r e
    have z5 : szQ 0 ≤ 4 := szQ_int 0 (by decide) (by decide)
    have z4 := szQ_max (r - e) 0
    have g1 := fsub_q (r + e) r (by omega) (by omega)
    rw [show r + e - r = e by grind] at g1
    have g2 := same_q e (by omega)
    have g4 := rcmp_q r (r + e) (by omega) (by omega)
    have s4 : ¬ sgQ (r - (r + e)) > 0 := fun h => by have := sgQ_gt.1 h; grind
    by_cases hd : r - e < 0
    · have hl : maxQ (r - e) 0 = 0 := by unfold maxQ; rw [if_pos (by grind)]
      rw [hl] at ki
      have g5 := fsub_q r 0 (by omega) (by omega)
      rw [show r - 0 = r by grind] at g5
      have g6 := rcmp_q 0 r (by omega) (by omega)
      have s6 : ¬ sgQ (0 - r) > 0 := fun h => by have := sgQ_gt.1 h; grind
      have g7 := rsign_q 0 (by omega)
      rw [show sgQ 0 = 0 from rfl] at g7
      have g8 := differ_q r e (by omega) (by grind)
      have g9 := rcmp_q r e (by omega) (by omega)
      have s9 : sgQ (r - e) < 0 := sgQ_lt.2 hd
      refine Contract.ofA (CallA.inline Try.func4 rfl (by kernel_rfl) (by kernel_rfl) (by kernel_rfl) ?_)
      rw [Try.ntmps4]
      repeat (first
      | (refine hK _ ?_; clear hK; clear K)
      | (refine aSeq fun K hK => ?_)
      | (refine aBlock ?_)
      | (refine aSkip ?_)
      | (refine aExit ?_)
      | (refine aRet ?_)
      | (refine aOps _ rfl (by kernel_rfl) ?_)
      | (refine aRunK _ rfl mixed (by kernel_rfl) (by kernel_rfl) fun KE hE => ?_)
      | (refine hE _ _ (by kernel_rfl) (intsOk_no rfl) ?_; clear hE; clear KE)
      | (refine hE _ _ (by kernel_rfl) (intsOk_yes ?hi ?hj) ?_; (case hi => (repeat (refine intsDead_updB rfl ?_)); exact intsDead_nil); (case hj => simp); clear hE; clear KE)
      | (refine aCondT rfl ?hc ?_; case hc => simp only [go_sem, ↓reduceIte, hres, h5, h6, h5n, h6n, h7, h8, hx, s4, s6, s9, bne_self_eq_false])
      | (refine aCondF rfl ?hc ?_; case hc => simp only [go_sem, ↓reduceIte, hres, h5, h6, h5n, h6n, h7, h8, hx, s4, s6, s9, bne_self_eq_false])
      | (refine callT_of (k1) ?_ ?_; rotate_left; (repeat (refine intsDead_updB rfl ?_)); exact intsDead_nil)
      | (refine callT_ofN (k1) ?_)
      | (refine callU_of (k1) rfl ?_)
      | (refine callU_ofN (k1) rfl ?_)
      | (refine callT_of (k2) ?_ ?_; rotate_left; (repeat (refine intsDead_updB rfl ?_)); exact intsDead_nil)
      | (refine callT_ofN (k2) ?_)
      | (refine callU_of (k2) rfl ?_)
      | (refine callU_ofN (k2) rfl ?_)
      | (refine callT_of (kf) ?_ ?_; rotate_left; (repeat (refine intsDead_updB rfl ?_)); exact intsDead_nil)
      | (refine callT_ofN (kf) ?_)
      | (refine callU_of (kf) rfl ?_)
      | (refine callU_ofN (kf) rfl ?_)
      | (refine callT_of (kr) ?_ ?_; rotate_left; (repeat (refine intsDead_updB rfl ?_)); exact intsDead_nil)
      | (refine callT_ofN (kr) ?_)
      | (refine callU_of (kr) rfl ?_)
      | (refine callU_ofN (kr) rfl ?_)
      | (refine callT_of (ki) ?_ ?_; rotate_left; (repeat (refine intsDead_updB rfl ?_)); exact intsDead_nil)
      | (refine callT_ofN (ki) ?_)
      | (refine callU_of (ki) rfl ?_)
      | (refine callU_ofN (ki) rfl ?_)
      | (refine callT_of (ke) ?_ ?_; rotate_left; (repeat (refine intsDead_updB rfl ?_)); exact intsDead_nil)
      | (refine callT_ofN (ke) ?_)
      | (refine callU_of (ke) rfl ?_)
      | (refine callU_ofN (ke) rfl ?_)
      | (refine callT_of (kn) ?_ ?_; rotate_left; (repeat (refine intsDead_updB rfl ?_)); exact intsDead_nil)
      | (refine callT_ofN (kn) ?_)
      | (refine callU_of (kn) rfl ?_)
      | (refine callU_ofN (kn) rfl ?_)
      | (refine callT_of (g1) ?_ ?_; rotate_left; (repeat (refine intsDead_updB rfl ?_)); exact intsDead_nil)
      | (refine callT_ofN (g1) ?_)
      | (refine callU_of (g1) rfl ?_)
      | (refine callU_ofN (g1) rfl ?_)
      | (refine callT_of (g2) ?_ ?_; rotate_left; (repeat (refine intsDead_updB rfl ?_)); exact intsDead_nil)
      | (refine callT_ofN (g2) ?_)
      | (refine callU_of (g2) rfl ?_)
      | (refine callU_ofN (g2) rfl ?_)
      | (refine callT_of (g4) ?_ ?_; rotate_left; (repeat (refine intsDead_updB rfl ?_)); exact intsDead_nil)
      | (refine callT_ofN (g4) ?_)
      | (refine callU_of (g4) rfl ?_)
      | (refine callU_ofN (g4) rfl ?_)
      | (refine callT_of (g5) ?_ ?_; rotate_left; (repeat (refine intsDead_updB rfl ?_)); exact intsDead_nil)
      | (refine callT_ofN (g5) ?_)
      | (refine callU_of (g5) rfl ?_)
      | (refine callU_ofN (g5) rfl ?_)
      | (refine callT_of (g6) ?_ ?_; rotate_left; (repeat (refine intsDead_updB rfl ?_)); exact intsDead_nil)
      | (refine callT_ofN (g6) ?_)
      | (refine callU_of (g6) rfl ?_)
      | (refine callU_ofN (g6) rfl ?_)
      | (refine callT_of (g7) ?_ ?_; rotate_left; (repeat (refine intsDead_updB rfl ?_)); exact intsDead_nil)
      | (refine callT_ofN (g7) ?_)
      | (refine callU_of (g7) rfl ?_)
      | (refine callU_ofN (g7) rfl ?_)
      | (refine callT_of (g8) ?_ ?_; rotate_left; (repeat (refine intsDead_updB rfl ?_)); exact intsDead_nil)
      | (refine callT_ofN (g8) ?_)
      | (refine callU_of (g8) rfl ?_)
      | (refine callU_ofN (g8) rfl ?_)
      | (refine callT_of (g9) ?_ ?_; rotate_left; (repeat (refine intsDead_updB rfl ?_)); exact intsDead_nil)
      | (refine callT_ofN (g9) ?_)
      | (refine callU_of (g9) rfl ?_)
      | (refine callU_ofN (g9) rfl ?_)
      | (simp only [go_sem, ↓reduceIte, hres, h5, h6, h5n, h6n, h7, h8, hx, s4, s6, s9, bne_self_eq_false])
      | (refine And.intro ?ho ?_; (case ho => omega))
      | (clear hK; clear K))
    · have hl : maxQ (r - e) 0 = r - e := by unfold maxQ; split <;> grind
      rw [hl] at ki
      have g5 := fsub_q r (r - e) (by omega) (by omega)
      rw [show r - (r - e) = e by grind] at g5
      have g6 := rcmp_q (r - e) r (by omega) (by omega)
      have s6 : ¬ sgQ (r - e - r) > 0 := fun h => by have := sgQ_gt.1 h; grind
      have g7 := rsign_q (r - e) (by omega)
      have s7 : ¬ sgQ (r - e) < 0 := fun h => hd (sgQ_lt.1 h)
      refine Contract.ofA (CallA.inline Try.func4 rfl (by kernel_rfl) (by kernel_rfl) (by kernel_rfl) ?_)
      rw [Try.ntmps4]
      repeat (first
      | (refine hK _ ?_; clear hK; clear K)
      | (refine aSeq fun K hK => ?_)
      | (refine aBlock ?_)
      | (refine aSkip ?_)
      | (refine aExit ?_)
      | (refine aRet ?_)
      | (refine aOps _ rfl (by kernel_rfl) ?_)
      | (refine aRunK _ rfl mixed (by kernel_rfl) (by kernel_rfl) fun KE hE => ?_)
      | (refine hE _ _ (by kernel_rfl) (intsOk_no rfl) ?_; clear hE; clear KE)
      | (refine hE _ _ (by kernel_rfl) (intsOk_yes ?hi ?hj) ?_; (case hi => (repeat (refine intsDead_updB rfl ?_)); exact intsDead_nil); (case hj => simp); clear hE; clear KE)
      | (refine aCondT rfl ?hc ?_; case hc => simp only [go_sem, ↓reduceIte, hres, h5, h6, h5n, h6n, h7, h8, hx, s4, s6, s7, bne_self_eq_false])
      | (refine aCondF rfl ?hc ?_; case hc => simp only [go_sem, ↓reduceIte, hres, h5, h6, h5n, h6n, h7, h8, hx, s4, s6, s7, bne_self_eq_false])
      | (refine callT_of (k1) ?_ ?_; rotate_left; (repeat (refine intsDead_updB rfl ?_)); exact intsDead_nil)
      | (refine callT_ofN (k1) ?_)
      | (refine callU_of (k1) rfl ?_)
      | (refine callU_ofN (k1) rfl ?_)
      | (refine callT_of (k2) ?_ ?_; rotate_left; (repeat (refine intsDead_updB rfl ?_)); exact intsDead_nil)
      | (refine callT_ofN (k2) ?_)
      | (refine callU_of (k2) rfl ?_)
      | (refine callU_ofN (k2) rfl ?_)
      | (refine callT_of (kf) ?_ ?_; rotate_left; (repeat (refine intsDead_updB rfl ?_)); exact intsDead_nil)
      | (refine callT_ofN (kf) ?_)
      | (refine callU_of (kf) rfl ?_)
      | (refine callU_ofN (kf) rfl ?_)
      | (refine callT_of (kr) ?_ ?_; rotate_left; (repeat (refine intsDead_updB rfl ?_)); exact intsDead_nil)
      | (refine callT_ofN (kr) ?_)
      | (refine callU_of (kr) rfl ?_)
      | (refine callU_ofN (kr) rfl ?_)
      | (refine callT_of (ki) ?_ ?_; rotate_left; (repeat (refine intsDead_updB rfl ?_)); exact intsDead_nil)
      | (refine callT_ofN (ki) ?_)
      | (refine callU_of (ki) rfl ?_)
      | (refine callU_ofN (ki) rfl ?_)
      | (refine callT_of (ke) ?_ ?_; rotate_left; (repeat (refine intsDead_updB rfl ?_)); exact intsDead_nil)
      | (refine callT_ofN (ke) ?_)
      | (refine callU_of (ke) rfl ?_)
      | (refine callU_ofN (ke) rfl ?_)
      | (refine callT_of (kn) ?_ ?_; rotate_left; (repeat (refine intsDead_updB rfl ?_)); exact intsDead_nil)
      | (refine callT_ofN (kn) ?_)
      | (refine callU_of (kn) rfl ?_)
      | (refine callU_ofN (kn) rfl ?_)
      | (refine callT_of (g1) ?_ ?_; rotate_left; (repeat (refine intsDead_updB rfl ?_)); exact intsDead_nil)
      | (refine callT_ofN (g1) ?_)
      | (refine callU_of (g1) rfl ?_)
      | (refine callU_ofN (g1) rfl ?_)
      | (refine callT_of (g2) ?_ ?_; rotate_left; (repeat (refine intsDead_updB rfl ?_)); exact intsDead_nil)
      | (refine callT_ofN (g2) ?_)
      | (refine callU_of (g2) rfl ?_)
      | (refine callU_ofN (g2) rfl ?_)
      | (refine callT_of (g4) ?_ ?_; rotate_left; (repeat (refine intsDead_updB rfl ?_)); exact intsDead_nil)
      | (refine callT_ofN (g4) ?_)
      | (refine callU_of (g4) rfl ?_)
      | (refine callU_ofN (g4) rfl ?_)
      | (refine callT_of (g5) ?_ ?_; rotate_left; (repeat (refine intsDead_updB rfl ?_)); exact intsDead_nil)
      | (refine callT_ofN (g5) ?_)
      | (refine callU_of (g5) rfl ?_)
      | (refine callU_ofN (g5) rfl ?_)
      | (refine callT_of (g6) ?_ ?_; rotate_left; (repeat (refine intsDead_updB rfl ?_)); exact intsDead_nil)
      | (refine callT_ofN (g6) ?_)
      | (refine callU_of (g6) rfl ?_)
      | (refine callU_ofN (g6) rfl ?_)
      | (refine callT_of (g7) ?_ ?_; rotate_left; (repeat (refine intsDead_updB rfl ?_)); exact intsDead_nil)
      | (refine callT_ofN (g7) ?_)
      | (refine callU_of (g7) rfl ?_)
      | (refine callU_ofN (g7) rfl ?_)
      | (simp only [go_sem, ↓reduceIte, hres, h5, h6, h5n, h6n, h7, h8, hx, s4, s6, s7, bne_self_eq_false])
      | (refine And.intro ?ho ?_; (case ho => omega))
      | (clear hK; clear K))
end Go.Proofs.Ytenmlcpbjjlokaa

/-
  ScaleGrows: the walk.
-/
namespace Go.Proofs.Ytenmlcpbjjlokaa
set_option linter.unusedVariables false
set_option linter.unusedSimpArgs false
open Go Go.RowKit
attribute [local go_sem] opsL_nil opsL_go opsL_guard gSel_tt gSel_ff gSel_tf gSel_ft stepR_some stepR_none callS_some callE_some runL_nil runL_go runL_guard gSelE_tt gSelE_ff gSelE_tf gSelE_ft stepE_some stepE_none opF callD rd constD putT upd_get guardL gOf_bool gOf_undef fieldAddrF fieldF loadF storeF indexAddrF indexF sliceF strSliceF bound buildF fillF buildSliceF elemsF allocF makeSliceF lenF elemsOf appendF minmaxF convertF boxF ldE blkAt spliceE D.cells? D.isCell Res.pure ov TyI.agg binD unD boolD initT thenA inBlockA argD argDs refsD refsL killW datJ datJs endA_ret endA_normal endR_some oneD_one oneD_two oneD_three oneD_four resDs resD fzT Value.oneCell' strip tabT tabM
attribute [local go_sem] List.map Nat.reduceEqDiff Nat.reduceBEq List.getElem?_cons_zero List.getElem?_cons_succ List.getElem?_nil Option.getD_some Option.getD_none true_and and_true true_or or_true false_or or_false and_self Nat.add_zero Nat.zero_add List.length_nil List.length_cons forall_const ite_true ite_false Bool.or_self Bool.false_eq_true Option.map_some Option.map_none beq_self_eq_true Nat.reduceAdd Nat.reduceSub Nat.reduceMul reduceCtorEq List.getElem?_toArray Bool.not_true Bool.not_false decide_eq_true_eq decide_true decide_false Nat.reduceLeDiff Nat.reduceLT Bool.or_false Bool.or_true Bool.and_true Bool.and_false Bool.false_and Bool.true_and Bool.true_beq Bool.false_beq beq_true beq_false Bool.not_eq_true List.drop_succ_cons List.take_succ_cons List.drop_zero List.take_zero List.length_map List.getElem?_map List.length_append List.all_cons List.all_nil List.append_nil List.nil_append List.cons_append List.set_cons_zero List.set_cons_succ Int.toNat_natCast Int.toNat_zero Option.isSome_some Option.isSome_none Array.size_empty ByteArray.size_empty Int.reduceToNat Int.reduceAdd Int.reduceSub Int.reduceLT Int.reduceLE Int.reduceEq Int.reduceNe Int.reduceBEq Int.reduceNeg List.forall_mem_cons List.not_mem_nil false_implies List.forall_mem_map implies_true Nat.reduceBNe Int.cast_ofNat_Int Int.reduceMul Int.reduceGE Int.reduceGT wrap_in ty_2 ty_3 ty_4 ty_5 ty_6 ty_7 ty_8 ty_9 ty_10 ty_11 ty_12 ty_13 ty_14 ty_18 ty_19 ty_21 ty_22 ty_23 ty_24 ty_25 ty_30 ty_31 ty_32 ty_33 ty_34 ty_44 ty_51 ty_52 ty_54 ty_55 ty_56 ty_57 ty_58 ty_74 ty_75 ty_78 ty_93 ty_94 ty_121 ty_122 ty_131 ty_132 ty_133 ty_134 ty_135 ty_137 ty_138 ty_139 ty_142 ty_143 ty_144 ty_145
set_option maxRecDepth 100000
set_option maxHeartbeats 2000000

theorem divInt_div (a b : Int) : Rat.divInt a b = (a : Rat) / (b : Rat) := Rat.divInt_eq_div a b
theorem err_more (c : CertD) (r m day : Int) : errQ c m day - errQ c r day = Rat.divInt (c.p * (m - r)) 1000 := by
  unfold errQ
  rw [divInt_div, divInt_div, divInt_div, show c.p * (m - r) = c.p * m - c.p * r by grind, Rat.intCast_sub]
  grind
theorem err_later (c : CertD) (r day later : Int) : errQ c r later - errQ c r day = ((c.d * (later - day) : Int) : Rat) := by
  unfold errQ
  rw [show c.d * (later - day) = (c.g + c.d * (later - c.f)) - (c.g + c.d * (day - c.f)) by grind, Rat.intCast_sub]
  grind
theorem divInt_le_int (a b : Int) (h : a ≤ 1000 * b) : Rat.divInt a 1000 ≤ (b : Rat) := by
  have h2 : 0 ≤ (((1000 * b - a : Int)) : Rat) := Rat.intCast_nonneg.2 (by omega)
  rw [Rat.intCast_sub, Rat.intCast_mul] at h2
  rw [divInt_div]
  grind
/-- What an interval is. -/
theorem intD_cases (cs : List CertD) (rs : List RecD) (which reading day : Int) : intD cs rs which reading day = ⟨zF, zF, false⟩ ∨
    ∃ b c, findC cs which day = some b ∧ b < cs.length ∧ cs[b]? = some c ∧ recC rs which day = false ∧ errOk c reading day = true ∧ intD cs rs which reading day = ⟨ofQ (maxQ ((reading : Rat) - errQ c reading day) 0), ofQ ((reading : Rat) + errQ c reading day), true⟩ := by
  cases h1 : findC cs which day with
  | none => exact .inl (by simp [intD, h1, noI])
  | some b =>
    obtain ⟨hb, c, hx, hcv, _⟩ := findC_some h1
    cases h2 : recC rs which day
    · cases h3 : inB reading 0 1099511627776
      · exact .inl (by simp [intD, h1, hx, h3, noI])
      · exact .inr ⟨b, c, rfl, hb, hx, rfl, by simp [errOk, hcv, h3], by simp [intD, h1, hx, h2, h3, okI]⟩
    · exact .inl (by simp [intD, h1, hx, h2, noI])

theorem grows13_c (cs : List CertD) (rs : List RecD) (which reading more day later : Int) : Contract Try.prog 5 [encCs cs, encRs rs, dI which, dI reading, dI more, dI day, dI later] (dB true) := by
  have hres := Try.results5
  have k1 := sane_c
  have k2 := few13_c cs rs
  cases hfew : (decide ((cs.length : Int) ≤ 120) && decide ((rs.length : Int) ≤ 60))
  · rw [hfew] at k2
    refine Contract.ofA (CallA.inline Try.func5 rfl (by kernel_rfl) (by kernel_rfl) (by kernel_rfl) ?_)
    rw [Try.ntmps5]
    repeat (first
      | (refine hK _ ?_; clear hK; clear K)
      | (refine aSeq fun K hK => ?_)
      | (refine aBlock ?_)
      | (refine aSkip ?_)
      | (refine aExit ?_)
      | (refine aRet ?_)
      | (refine aOps _ rfl (by kernel_rfl) ?_)
      | (refine aRunK _ rfl mixed (by kernel_rfl) (by kernel_rfl) fun KE hE => ?_)
      | (refine hE _ _ (by kernel_rfl) (intsOk_no rfl) ?_; clear hE; clear KE)
      | (refine hE _ _ (by kernel_rfl) (intsOk_yes ?hi ?hj) ?_; (case hi => (repeat (refine intsDead_updB rfl ?_)); exact intsDead_nil); (case hj => simp); clear hE; clear KE)
      | (refine aCondT rfl ?hc ?_; case hc => simp only [go_sem, ↓reduceIte, hres])
      | (refine aCondF rfl ?hc ?_; case hc => simp only [go_sem, ↓reduceIte, hres])
      | (refine callT_of (k1) ?_ ?_; rotate_left; (repeat (refine intsDead_updB rfl ?_)); exact intsDead_nil)
      | (refine callT_ofN (k1) ?_)
      | (refine callU_of (k1) rfl ?_)
      | (refine callU_ofN (k1) rfl ?_)
      | (refine callT_of (k2) ?_ ?_; rotate_left; (repeat (refine intsDead_updB rfl ?_)); exact intsDead_nil)
      | (refine callT_ofN (k2) ?_)
      | (refine callU_of (k2) rfl ?_)
      | (refine callU_ofN (k2) rfl ?_)
      | (simp only [go_sem, ↓reduceIte, hres])
      | (refine And.intro ?ho ?_; (case ho => omega))
      | (clear hK; clear K))
  rw [hfew] at k2
  simp only [Bool.and_eq_true, decide_eq_true_eq] at hfew
  by_cases hm : more < reading
  · refine Contract.ofA (CallA.inline Try.func5 rfl (by kernel_rfl) (by kernel_rfl) (by kernel_rfl) ?_)
    rw [Try.ntmps5]
    repeat (first
      | (refine hK _ ?_; clear hK; clear K)
      | (refine aSeq fun K hK => ?_)
      | (refine aBlock ?_)
      | (refine aSkip ?_)
      | (refine aExit ?_)
      | (refine aRet ?_)
      | (refine aOps _ rfl (by kernel_rfl) ?_)
      | (refine aRunK _ rfl mixed (by kernel_rfl) (by kernel_rfl) fun KE hE => ?_)
      | (refine hE _ _ (by kernel_rfl) (intsOk_no rfl) ?_; clear hE; clear KE)
      | (refine hE _ _ (by kernel_rfl) (intsOk_yes ?hi ?hj) ?_; (case hi => (repeat (refine intsDead_updB rfl ?_)); exact intsDead_nil); (case hj => simp); clear hE; clear KE)
      | (refine aCondT rfl ?hc ?_; case hc => simp only [go_sem, ↓reduceIte, hres, hm])
      | (refine aCondF rfl ?hc ?_; case hc => simp only [go_sem, ↓reduceIte, hres, hm])
      | (refine callT_of (k1) ?_ ?_; rotate_left; (repeat (refine intsDead_updB rfl ?_)); exact intsDead_nil)
      | (refine callT_ofN (k1) ?_)
      | (refine callU_of (k1) rfl ?_)
      | (refine callU_ofN (k1) rfl ?_)
      | (refine callT_of (k2) ?_ ?_; rotate_left; (repeat (refine intsDead_updB rfl ?_)); exact intsDead_nil)
      | (refine callT_ofN (k2) ?_)
      | (refine callU_of (k2) rfl ?_)
      | (refine callU_ofN (k2) rfl ?_)
      | (simp only [go_sem, ↓reduceIte, hres, hm])
      | (refine And.intro ?ho ?_; (case ho => omega))
      | (clear hK; clear K))
  have ki := inter_c cs rs which reading day (by omega) (by omega)
  have kj := inter_c cs rs which more day (by omega) (by omega)
  rcases intD_cases cs rs which reading day with hX | ⟨b, c, h1, hb, hx, h2, hok, hX⟩
  · rw [hX] at ki
    refine Contract.ofA (CallA.inline Try.func5 rfl (by kernel_rfl) (by kernel_rfl) (by kernel_rfl) ?_)
    rw [Try.ntmps5]
    repeat (first
      | (refine hK _ ?_; clear hK; clear K)
      | (refine aSeq fun K hK => ?_)
      | (refine aBlock ?_)
      | (refine aSkip ?_)
      | (refine aExit ?_)
      | (refine aRet ?_)
      | (refine aOps _ rfl (by kernel_rfl) ?_)
      | (refine aRunK _ rfl mixed (by kernel_rfl) (by kernel_rfl) fun KE hE => ?_)
      | (refine hE _ _ (by kernel_rfl) (intsOk_no rfl) ?_; clear hE; clear KE)
      | (refine hE _ _ (by kernel_rfl) (intsOk_yes ?hi ?hj) ?_; (case hi => (repeat (refine intsDead_updB rfl ?_)); exact intsDead_nil); (case hj => simp); clear hE; clear KE)
      | (refine aCondT rfl ?hc ?_; case hc => simp only [go_sem, ↓reduceIte, hres, hm])
      | (refine aCondF rfl ?hc ?_; case hc => simp only [go_sem, ↓reduceIte, hres, hm])
      | (refine callT_of (k1) ?_ ?_; rotate_left; (repeat (refine intsDead_updB rfl ?_)); exact intsDead_nil)
      | (refine callT_ofN (k1) ?_)
      | (refine callU_of (k1) rfl ?_)
      | (refine callU_ofN (k1) rfl ?_)
      | (refine callT_of (k2) ?_ ?_; rotate_left; (repeat (refine intsDead_updB rfl ?_)); exact intsDead_nil)
      | (refine callT_ofN (k2) ?_)
      | (refine callU_of (k2) rfl ?_)
      | (refine callU_ofN (k2) rfl ?_)
      | (refine callT_of (ki) ?_ ?_; rotate_left; (repeat (refine intsDead_updB rfl ?_)); exact intsDead_nil)
      | (refine callT_ofN (ki) ?_)
      | (refine callU_of (ki) rfl ?_)
      | (refine callU_ofN (ki) rfl ?_)
      | (refine callT_of (kj) ?_ ?_; rotate_left; (repeat (refine intsDead_updB rfl ?_)); exact intsDead_nil)
      | (refine callT_ofN (kj) ?_)
      | (refine callU_of (kj) rfl ?_)
      | (refine callU_ofN (kj) rfl ?_)
      | (simp only [go_sem, ↓reduceIte, hres, hm])
      | (refine And.intro ?ho ?_; (case ho => omega))
      | (clear hK; clear K))
  rw [hX] at ki
  rcases intD_cases cs rs which more day with hY | ⟨b', c', h1', hb', hx', h2', hok', hY⟩
  · rw [hY] at kj
    refine Contract.ofA (CallA.inline Try.func5 rfl (by kernel_rfl) (by kernel_rfl) (by kernel_rfl) ?_)
    rw [Try.ntmps5]
    repeat (first
      | (refine hK _ ?_; clear hK; clear K)
      | (refine aSeq fun K hK => ?_)
      | (refine aBlock ?_)
      | (refine aSkip ?_)
      | (refine aExit ?_)
      | (refine aRet ?_)
      | (refine aOps _ rfl (by kernel_rfl) ?_)
      | (refine aRunK _ rfl mixed (by kernel_rfl) (by kernel_rfl) fun KE hE => ?_)
      | (refine hE _ _ (by kernel_rfl) (intsOk_no rfl) ?_; clear hE; clear KE)
      | (refine hE _ _ (by kernel_rfl) (intsOk_yes ?hi ?hj) ?_; (case hi => (repeat (refine intsDead_updB rfl ?_)); exact intsDead_nil); (case hj => simp); clear hE; clear KE)
      | (refine aCondT rfl ?hc ?_; case hc => simp only [go_sem, ↓reduceIte, hres, hm])
      | (refine aCondF rfl ?hc ?_; case hc => simp only [go_sem, ↓reduceIte, hres, hm])
      | (refine callT_of (k1) ?_ ?_; rotate_left; (repeat (refine intsDead_updB rfl ?_)); exact intsDead_nil)
      | (refine callT_ofN (k1) ?_)
      | (refine callU_of (k1) rfl ?_)
      | (refine callU_ofN (k1) rfl ?_)
      | (refine callT_of (k2) ?_ ?_; rotate_left; (repeat (refine intsDead_updB rfl ?_)); exact intsDead_nil)
      | (refine callT_ofN (k2) ?_)
      | (refine callU_of (k2) rfl ?_)
      | (refine callU_ofN (k2) rfl ?_)
      | (refine callT_of (ki) ?_ ?_; rotate_left; (repeat (refine intsDead_updB rfl ?_)); exact intsDead_nil)
      | (refine callT_ofN (ki) ?_)
      | (refine callU_of (ki) rfl ?_)
      | (refine callU_ofN (ki) rfl ?_)
      | (refine callT_of (kj) ?_ ?_; rotate_left; (repeat (refine intsDead_updB rfl ?_)); exact intsDead_nil)
      | (refine callT_ofN (kj) ?_)
      | (refine callU_of (kj) rfl ?_)
      | (refine callU_ofN (kj) rfl ?_)
      | (simp only [go_sem, ↓reduceIte, hres, hm])
      | (refine And.intro ?ho ?_; (case ho => omega))
      | (clear hK; clear K))
  rw [hY] at kj
  have hbb : b' = b := by rw [h1] at h1'; cases h1'; rfl
  subst hbb
  have hcc : c' = c := by rw [hx] at hx'; cases hx'; rfl
  subst hcc
  clear hX hY h1' hx' hb' h2'
  have kf := find_c cs which day (by omega)
  rw [h1] at kf
  have h5 : (0 : Int) ≤ b' := by omega
  have h6 : (b' : Int) < cs.length := by omega
  have h6n : ¬ (b' : Int) ≥ cs.length := by omega
  have h5n : ¬ (b' : Int) < 0 := by omega
  have ke := err_c c' reading later
  obtain ⟨b1, b2, b3, b4, b5⟩ := err_bounds hok
  obtain ⟨m1, m2, m3, m4, m5⟩ := err_bounds hok'
  have zr := szQ_int reading (by omega) (by omega)
  have zm := szQ_int more (by omega) (by omega)
  have ze := szQ_err hok
  have zf := szQ_err hok'
  have n1 := rint_c reading (by omega) (by omega)
  have n2 := rint_c more (by omega) (by omega)
  have hcv : rightC c' = true := by simp only [errOk, coversC, Bool.and_eq_true] at hok; exact hok.1.1.1
  have hR := rightC_iff.1 hcv
  have q1 := err_more c' reading more day
  have q2 : 0 ≤ Rat.divInt (c'.p * (more - reading)) 1000 := divInt_nonneg (Int.mul_nonneg hR.2.2.2.2.2.1.1 (by omega)) (by decide)
  have q3 : Rat.divInt (c'.p * (more - reading)) 1000 ≤ ((more - reading : Int) : Rat) := divInt_le_int _ _ (Int.mul_le_mul_of_nonneg_right hR.2.2.2.2.2.1.2 (by omega))
  rw [Rat.intCast_sub] at q3
  have g1 := fsub_q ((reading : Rat) + errQ c' reading day) (reading : Rat) (by have := szQ_add (reading : Rat) (errQ c' reading day); omega) (by omega)
  rw [show (reading : Rat) + errQ c' reading day - reading = errQ c' reading day by grind] at g1
  have g2 := fsub_q ((more : Rat) + errQ c' more day) (more : Rat) (by have := szQ_add (more : Rat) (errQ c' more day); omega) (by omega)
  rw [show (more : Rat) + errQ c' more day - more = errQ c' more day by grind] at g2
  have z5 : szQ 0 ≤ 4 := szQ_int 0 (by decide) (by decide)
  have g3 := rcmp_q (maxQ ((reading : Rat) - errQ c' reading day) 0) (maxQ ((more : Rat) - errQ c' more day) 0) (by have := szQ_max ((reading : Rat) - errQ c' reading day) 0; have := szQ_sub (reading : Rat) (errQ c' reading day); omega) (by have := szQ_max ((more : Rat) - errQ c' more day) 0; have := szQ_sub (more : Rat) (errQ c' more day); omega)
  have s3 : ¬ sgQ (maxQ ((reading : Rat) - errQ c' reading day) 0 - maxQ ((more : Rat) - errQ c' more day) 0) > 0 := fun h => by
    have := sgQ_gt.1 h
    unfold maxQ at this
    split at this <;> split at this <;> grind
  have g4 := rcmp_q ((reading : Rat) + errQ c' reading day) ((more : Rat) + errQ c' more day) (by have := szQ_add (reading : Rat) (errQ c' reading day); omega) (by have := szQ_add (more : Rat) (errQ c' more day); omega)
  have s4 : ¬ sgQ ((reading : Rat) + errQ c' reading day - ((more : Rat) + errQ c' more day)) > 0 := fun h => by
    have := sgQ_gt.1 h
    have h0 : 0 ≤ (((more - reading : Int)) : Rat) := Rat.intCast_nonneg.2 (by omega)
    rw [Rat.intCast_sub] at h0
    grind
  have g5 := rcmp_q (errQ c' reading day) (errQ c' more day) (by omega) (by omega)
  have s5 : ¬ sgQ (errQ c' reading day - errQ c' more day) > 0 := fun h => by have := sgQ_gt.1 h; grind
  cases hl : errOk c' reading later
  · rw [show errD c' reading later = (zF, false) by simp [errD, hl]] at ke
    have hin : inB reading 0 1099511627776 = true := by simp only [errOk, Bool.and_eq_true] at hok; exact hok.2
    have hout : later < c'.f ∨ later > c'.u := by
      simp only [errOk, coversC, hcv, hin, Bool.true_and, Bool.and_true, Bool.and_eq_false_iff, decide_eq_false_iff_not] at hl
      omega
    by_cases hl1 : later < c'.f
    · refine Contract.ofA (CallA.inline Try.func5 rfl (by kernel_rfl) (by kernel_rfl) (by kernel_rfl) ?_)
      rw [Try.ntmps5]
      repeat (first
      | (refine hK _ ?_; clear hK; clear K)
      | (refine aSeq fun K hK => ?_)
      | (refine aBlock ?_)
      | (refine aSkip ?_)
      | (refine aExit ?_)
      | (refine aRet ?_)
      | (refine aOps _ rfl (by kernel_rfl) ?_)
      | (refine aRunK _ rfl mixed (by kernel_rfl) (by kernel_rfl) fun KE hE => ?_)
      | (refine hE _ _ (by kernel_rfl) (intsOk_no rfl) ?_; clear hE; clear KE)
      | (refine hE _ _ (by kernel_rfl) (intsOk_yes ?hi ?hj) ?_; (case hi => (repeat (refine intsDead_updB rfl ?_)); exact intsDead_nil); (case hj => simp); clear hE; clear KE)
      | (refine aCondT rfl ?hc ?_; case hc => simp only [go_sem, ↓reduceIte, hres, hm, h5, h6, h5n, h6n, hx, s3, s4, s5, hl1])
      | (refine aCondF rfl ?hc ?_; case hc => simp only [go_sem, ↓reduceIte, hres, hm, h5, h6, h5n, h6n, hx, s3, s4, s5, hl1])
      | (refine callT_of (k1) ?_ ?_; rotate_left; (repeat (refine intsDead_updB rfl ?_)); exact intsDead_nil)
      | (refine callT_ofN (k1) ?_)
      | (refine callU_of (k1) rfl ?_)
      | (refine callU_ofN (k1) rfl ?_)
      | (refine callT_of (k2) ?_ ?_; rotate_left; (repeat (refine intsDead_updB rfl ?_)); exact intsDead_nil)
      | (refine callT_ofN (k2) ?_)
      | (refine callU_of (k2) rfl ?_)
      | (refine callU_ofN (k2) rfl ?_)
      | (refine callT_of (ki) ?_ ?_; rotate_left; (repeat (refine intsDead_updB rfl ?_)); exact intsDead_nil)
      | (refine callT_ofN (ki) ?_)
      | (refine callU_of (ki) rfl ?_)
      | (refine callU_ofN (ki) rfl ?_)
      | (refine callT_of (kj) ?_ ?_; rotate_left; (repeat (refine intsDead_updB rfl ?_)); exact intsDead_nil)
      | (refine callT_ofN (kj) ?_)
      | (refine callU_of (kj) rfl ?_)
      | (refine callU_ofN (kj) rfl ?_)
      | (refine callT_of (kf) ?_ ?_; rotate_left; (repeat (refine intsDead_updB rfl ?_)); exact intsDead_nil)
      | (refine callT_ofN (kf) ?_)
      | (refine callU_of (kf) rfl ?_)
      | (refine callU_ofN (kf) rfl ?_)
      | (refine callT_of (ke) ?_ ?_; rotate_left; (repeat (refine intsDead_updB rfl ?_)); exact intsDead_nil)
      | (refine callT_ofN (ke) ?_)
      | (refine callU_of (ke) rfl ?_)
      | (refine callU_ofN (ke) rfl ?_)
      | (refine callT_of (n1) ?_ ?_; rotate_left; (repeat (refine intsDead_updB rfl ?_)); exact intsDead_nil)
      | (refine callT_ofN (n1) ?_)
      | (refine callU_of (n1) rfl ?_)
      | (refine callU_ofN (n1) rfl ?_)
      | (refine callT_of (n2) ?_ ?_; rotate_left; (repeat (refine intsDead_updB rfl ?_)); exact intsDead_nil)
      | (refine callT_ofN (n2) ?_)
      | (refine callU_of (n2) rfl ?_)
      | (refine callU_ofN (n2) rfl ?_)
      | (refine callT_of (g1) ?_ ?_; rotate_left; (repeat (refine intsDead_updB rfl ?_)); exact intsDead_nil)
      | (refine callT_ofN (g1) ?_)
      | (refine callU_of (g1) rfl ?_)
      | (refine callU_ofN (g1) rfl ?_)
      | (refine callT_of (g2) ?_ ?_; rotate_left; (repeat (refine intsDead_updB rfl ?_)); exact intsDead_nil)
      | (refine callT_ofN (g2) ?_)
      | (refine callU_of (g2) rfl ?_)
      | (refine callU_ofN (g2) rfl ?_)
      | (refine callT_of (g3) ?_ ?_; rotate_left; (repeat (refine intsDead_updB rfl ?_)); exact intsDead_nil)
      | (refine callT_ofN (g3) ?_)
      | (refine callU_of (g3) rfl ?_)
      | (refine callU_ofN (g3) rfl ?_)
      | (refine callT_of (g4) ?_ ?_; rotate_left; (repeat (refine intsDead_updB rfl ?_)); exact intsDead_nil)
      | (refine callT_ofN (g4) ?_)
      | (refine callU_of (g4) rfl ?_)
      | (refine callU_ofN (g4) rfl ?_)
      | (refine callT_of (g5) ?_ ?_; rotate_left; (repeat (refine intsDead_updB rfl ?_)); exact intsDead_nil)
      | (refine callT_ofN (g5) ?_)
      | (refine callU_of (g5) rfl ?_)
      | (refine callU_ofN (g5) rfl ?_)
      | (simp only [go_sem, ↓reduceIte, hres, hm, h5, h6, h5n, h6n, hx, s3, s4, s5, hl1])
      | (refine And.intro ?ho ?_; (case ho => omega))
      | (clear hK; clear K))
    · have hl2 : later > c'.u := by omega
      refine Contract.ofA (CallA.inline Try.func5 rfl (by kernel_rfl) (by kernel_rfl) (by kernel_rfl) ?_)
      rw [Try.ntmps5]
      repeat (first
      | (refine hK _ ?_; clear hK; clear K)
      | (refine aSeq fun K hK => ?_)
      | (refine aBlock ?_)
      | (refine aSkip ?_)
      | (refine aExit ?_)
      | (refine aRet ?_)
      | (refine aOps _ rfl (by kernel_rfl) ?_)
      | (refine aRunK _ rfl mixed (by kernel_rfl) (by kernel_rfl) fun KE hE => ?_)
      | (refine hE _ _ (by kernel_rfl) (intsOk_no rfl) ?_; clear hE; clear KE)
      | (refine hE _ _ (by kernel_rfl) (intsOk_yes ?hi ?hj) ?_; (case hi => (repeat (refine intsDead_updB rfl ?_)); exact intsDead_nil); (case hj => simp); clear hE; clear KE)
      | (refine aCondT rfl ?hc ?_; case hc => simp only [go_sem, ↓reduceIte, hres, hm, h5, h6, h5n, h6n, hx, s3, s4, s5, hl1, hl2])
      | (refine aCondF rfl ?hc ?_; case hc => simp only [go_sem, ↓reduceIte, hres, hm, h5, h6, h5n, h6n, hx, s3, s4, s5, hl1, hl2])
      | (refine callT_of (k1) ?_ ?_; rotate_left; (repeat (refine intsDead_updB rfl ?_)); exact intsDead_nil)
      | (refine callT_ofN (k1) ?_)
      | (refine callU_of (k1) rfl ?_)
      | (refine callU_ofN (k1) rfl ?_)
      | (refine callT_of (k2) ?_ ?_; rotate_left; (repeat (refine intsDead_updB rfl ?_)); exact intsDead_nil)
      | (refine callT_ofN (k2) ?_)
      | (refine callU_of (k2) rfl ?_)
      | (refine callU_ofN (k2) rfl ?_)
      | (refine callT_of (ki) ?_ ?_; rotate_left; (repeat (refine intsDead_updB rfl ?_)); exact intsDead_nil)
      | (refine callT_ofN (ki) ?_)
      | (refine callU_of (ki) rfl ?_)
      | (refine callU_ofN (ki) rfl ?_)
      | (refine callT_of (kj) ?_ ?_; rotate_left; (repeat (refine intsDead_updB rfl ?_)); exact intsDead_nil)
      | (refine callT_ofN (kj) ?_)
      | (refine callU_of (kj) rfl ?_)
      | (refine callU_ofN (kj) rfl ?_)
      | (refine callT_of (kf) ?_ ?_; rotate_left; (repeat (refine intsDead_updB rfl ?_)); exact intsDead_nil)
      | (refine callT_ofN (kf) ?_)
      | (refine callU_of (kf) rfl ?_)
      | (refine callU_ofN (kf) rfl ?_)
      | (refine callT_of (ke) ?_ ?_; rotate_left; (repeat (refine intsDead_updB rfl ?_)); exact intsDead_nil)
      | (refine callT_ofN (ke) ?_)
      | (refine callU_of (ke) rfl ?_)
      | (refine callU_ofN (ke) rfl ?_)
      | (refine callT_of (n1) ?_ ?_; rotate_left; (repeat (refine intsDead_updB rfl ?_)); exact intsDead_nil)
      | (refine callT_ofN (n1) ?_)
      | (refine callU_of (n1) rfl ?_)
      | (refine callU_ofN (n1) rfl ?_)
      | (refine callT_of (n2) ?_ ?_; rotate_left; (repeat (refine intsDead_updB rfl ?_)); exact intsDead_nil)
      | (refine callT_ofN (n2) ?_)
      | (refine callU_of (n2) rfl ?_)
      | (refine callU_ofN (n2) rfl ?_)
      | (refine callT_of (g1) ?_ ?_; rotate_left; (repeat (refine intsDead_updB rfl ?_)); exact intsDead_nil)
      | (refine callT_ofN (g1) ?_)
      | (refine callU_of (g1) rfl ?_)
      | (refine callU_ofN (g1) rfl ?_)
      | (refine callT_of (g2) ?_ ?_; rotate_left; (repeat (refine intsDead_updB rfl ?_)); exact intsDead_nil)
      | (refine callT_ofN (g2) ?_)
      | (refine callU_of (g2) rfl ?_)
      | (refine callU_ofN (g2) rfl ?_)
      | (refine callT_of (g3) ?_ ?_; rotate_left; (repeat (refine intsDead_updB rfl ?_)); exact intsDead_nil)
      | (refine callT_ofN (g3) ?_)
      | (refine callU_of (g3) rfl ?_)
      | (refine callU_ofN (g3) rfl ?_)
      | (refine callT_of (g4) ?_ ?_; rotate_left; (repeat (refine intsDead_updB rfl ?_)); exact intsDead_nil)
      | (refine callT_ofN (g4) ?_)
      | (refine callU_of (g4) rfl ?_)
      | (refine callU_ofN (g4) rfl ?_)
      | (refine callT_of (g5) ?_ ?_; rotate_left; (repeat (refine intsDead_updB rfl ?_)); exact intsDead_nil)
      | (refine callT_ofN (g5) ?_)
      | (refine callU_of (g5) rfl ?_)
      | (refine callU_ofN (g5) rfl ?_)
      | (simp only [go_sem, ↓reduceIte, hres, hm, h5, h6, h5n, h6n, hx, s3, s4, s5, hl1, hl2])
      | (refine And.intro ?ho ?_; (case ho => omega))
      | (clear hK; clear K))
  · rw [show errD c' reading later = (ofQ (errQ c' reading later), true) by simp [errD, hl]] at ke
    obtain ⟨l1, l2, l3, l4, l5⟩ := err_bounds hl
    have zl := szQ_err hl
    have g6 := fsub_q (errQ c' reading later) (errQ c' reading day) (by omega) (by omega)
    rw [err_later] at g6
    have e0 : c'.d * (later - day) = c'.d * (later - c'.f) - c'.d * (day - c'.f) := by grind
    have w1 : IntKind.i64.wrap (later - day) = later - day := wrap_in (by omega) (by omega)
    have w2 : IntKind.i64.wrap (c'.d * (later - day)) = c'.d * (later - day) := wrap_in (by omega) (by omega)
    have n3 := rint_c (c'.d * (later - day)) (by omega) (by omega)
    have g7 := same_q ((c'.d * (later - day) : Int) : Rat) (by have := szQ_int (c'.d * (later - day)) (by omega) (by omega); omega)
    refine Contract.ofA (CallA.inline Try.func5 rfl (by kernel_rfl) (by kernel_rfl) (by kernel_rfl) ?_)
    rw [Try.ntmps5]
    repeat (first
      | (refine hK _ ?_; clear hK; clear K)
      | (refine aSeq fun K hK => ?_)
      | (refine aBlock ?_)
      | (refine aSkip ?_)
      | (refine aExit ?_)
      | (refine aRet ?_)
      | (refine aOps _ rfl (by kernel_rfl) ?_)
      | (refine aRunK _ rfl mixed (by kernel_rfl) (by kernel_rfl) fun KE hE => ?_)
      | (refine hE _ _ (by kernel_rfl) (intsOk_no rfl) ?_; clear hE; clear KE)
      | (refine hE _ _ (by kernel_rfl) (intsOk_yes ?hi ?hj) ?_; (case hi => (repeat (refine intsDead_updB rfl ?_)); exact intsDead_nil); (case hj => simp); clear hE; clear KE)
      | (refine aCondT rfl ?hc ?_; case hc => simp only [go_sem, ↓reduceIte, hres, hm, h5, h6, h5n, h6n, hx, s3, s4, s5, w1, w2])
      | (refine aCondF rfl ?hc ?_; case hc => simp only [go_sem, ↓reduceIte, hres, hm, h5, h6, h5n, h6n, hx, s3, s4, s5, w1, w2])
      | (refine callT_of (k1) ?_ ?_; rotate_left; (repeat (refine intsDead_updB rfl ?_)); exact intsDead_nil)
      | (refine callT_ofN (k1) ?_)
      | (refine callU_of (k1) rfl ?_)
      | (refine callU_ofN (k1) rfl ?_)
      | (refine callT_of (k2) ?_ ?_; rotate_left; (repeat (refine intsDead_updB rfl ?_)); exact intsDead_nil)
      | (refine callT_ofN (k2) ?_)
      | (refine callU_of (k2) rfl ?_)
      | (refine callU_ofN (k2) rfl ?_)
      | (refine callT_of (ki) ?_ ?_; rotate_left; (repeat (refine intsDead_updB rfl ?_)); exact intsDead_nil)
      | (refine callT_ofN (ki) ?_)
      | (refine callU_of (ki) rfl ?_)
      | (refine callU_ofN (ki) rfl ?_)
      | (refine callT_of (kj) ?_ ?_; rotate_left; (repeat (refine intsDead_updB rfl ?_)); exact intsDead_nil)
      | (refine callT_ofN (kj) ?_)
      | (refine callU_of (kj) rfl ?_)
      | (refine callU_ofN (kj) rfl ?_)
      | (refine callT_of (kf) ?_ ?_; rotate_left; (repeat (refine intsDead_updB rfl ?_)); exact intsDead_nil)
      | (refine callT_ofN (kf) ?_)
      | (refine callU_of (kf) rfl ?_)
      | (refine callU_ofN (kf) rfl ?_)
      | (refine callT_of (ke) ?_ ?_; rotate_left; (repeat (refine intsDead_updB rfl ?_)); exact intsDead_nil)
      | (refine callT_ofN (ke) ?_)
      | (refine callU_of (ke) rfl ?_)
      | (refine callU_ofN (ke) rfl ?_)
      | (refine callT_of (n1) ?_ ?_; rotate_left; (repeat (refine intsDead_updB rfl ?_)); exact intsDead_nil)
      | (refine callT_ofN (n1) ?_)
      | (refine callU_of (n1) rfl ?_)
      | (refine callU_ofN (n1) rfl ?_)
      | (refine callT_of (n2) ?_ ?_; rotate_left; (repeat (refine intsDead_updB rfl ?_)); exact intsDead_nil)
      | (refine callT_ofN (n2) ?_)
      | (refine callU_of (n2) rfl ?_)
      | (refine callU_ofN (n2) rfl ?_)
      | (refine callT_of (g1) ?_ ?_; rotate_left; (repeat (refine intsDead_updB rfl ?_)); exact intsDead_nil)
      | (refine callT_ofN (g1) ?_)
      | (refine callU_of (g1) rfl ?_)
      | (refine callU_ofN (g1) rfl ?_)
      | (refine callT_of (g2) ?_ ?_; rotate_left; (repeat (refine intsDead_updB rfl ?_)); exact intsDead_nil)
      | (refine callT_ofN (g2) ?_)
      | (refine callU_of (g2) rfl ?_)
      | (refine callU_ofN (g2) rfl ?_)
      | (refine callT_of (g3) ?_ ?_; rotate_left; (repeat (refine intsDead_updB rfl ?_)); exact intsDead_nil)
      | (refine callT_ofN (g3) ?_)
      | (refine callU_of (g3) rfl ?_)
      | (refine callU_ofN (g3) rfl ?_)
      | (refine callT_of (g4) ?_ ?_; rotate_left; (repeat (refine intsDead_updB rfl ?_)); exact intsDead_nil)
      | (refine callT_ofN (g4) ?_)
      | (refine callU_of (g4) rfl ?_)
      | (refine callU_ofN (g4) rfl ?_)
      | (refine callT_of (g5) ?_ ?_; rotate_left; (repeat (refine intsDead_updB rfl ?_)); exact intsDead_nil)
      | (refine callT_ofN (g5) ?_)
      | (refine callU_of (g5) rfl ?_)
      | (refine callU_ofN (g5) rfl ?_)
      | (refine callT_of (g6) ?_ ?_; rotate_left; (repeat (refine intsDead_updB rfl ?_)); exact intsDead_nil)
      | (refine callT_ofN (g6) ?_)
      | (refine callU_of (g6) rfl ?_)
      | (refine callU_ofN (g6) rfl ?_)
      | (refine callT_of (n3) ?_ ?_; rotate_left; (repeat (refine intsDead_updB rfl ?_)); exact intsDead_nil)
      | (refine callT_ofN (n3) ?_)
      | (refine callU_of (n3) rfl ?_)
      | (refine callU_ofN (n3) rfl ?_)
      | (refine callT_of (g7) ?_ ?_; rotate_left; (repeat (refine intsDead_updB rfl ?_)); exact intsDead_nil)
      | (refine callT_ofN (g7) ?_)
      | (refine callU_of (g7) rfl ?_)
      | (refine callU_ofN (g7) rfl ?_)
      | (simp only [go_sem, ↓reduceIte, hres, hm, h5, h6, h5n, h6n, hx, s3, s4, s5, w1, w2])
      | (refine And.intro ?ho ?_; (case ho => omega))
      | (clear hK; clear K))
end Go.Proofs.Ytenmlcpbjjlokaa
