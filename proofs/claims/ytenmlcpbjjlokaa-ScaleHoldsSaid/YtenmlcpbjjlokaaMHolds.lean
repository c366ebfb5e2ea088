/-
  ScaleHolds: the walk.
-/
import Derived.Test.YtenmlcpbjjlokaaMTells
import Derived.Test.YtenmlcpbjjlokaaMLawS

/-
  ScaleHolds: the walk.
-/
namespace Go.Proofs.Ytenmlcpbjjlokaa
set_option linter.unusedVariables false
set_option linter.unusedSimpArgs false
open Go Go.RowKit
attribute [local go_sem] opsL_nil opsL_go opsL_guard gSel_tt gSel_ff gSel_tf gSel_ft stepR_some stepR_none callS_some callE_some runL_nil runL_go runL_guard gSelE_tt gSelE_ff gSelE_tf gSelE_ft stepE_some stepE_none opF callD rd constD putT upd_get guardL gOf_bool gOf_undef fieldAddrF fieldF loadF storeF indexAddrF indexF sliceF strSliceF bound buildF fillF buildSliceF elemsF allocF makeSliceF lenF elemsOf appendF minmaxF convertF boxF ldE blkAt spliceE D.cells? D.isCell Res.pure ov TyI.agg binD unD boolD initT thenA inBlockA argD argDs refsD refsL killW datJ datJs endA_ret endA_normal endR_some oneD_one oneD_two oneD_three oneD_four resDs resD fzT Value.oneCell' strip tabT tabM
attribute [local go_sem] List.map Nat.reduceEqDiff Nat.reduceBEq List.getElem?_cons_zero List.getElem?_cons_succ List.getElem?_nil Option.getD_some Option.getD_none true_and and_true true_or or_true false_or or_false and_self Nat.add_zero Nat.zero_add List.length_nil List.length_cons forall_const ite_true ite_false Bool.or_self Bool.false_eq_true Option.map_some Option.map_none beq_self_eq_true Nat.reduceAdd Nat.reduceSub Nat.reduceMul reduceCtorEq List.getElem?_toArray Bool.not_true Bool.not_false decide_eq_true_eq decide_true decide_false Nat.reduceLeDiff Nat.reduceLT Bool.or_false Bool.or_true Bool.and_true Bool.and_false Bool.false_and Bool.true_and Bool.true_beq Bool.false_beq beq_true beq_false Bool.not_eq_true List.drop_succ_cons List.take_succ_cons List.drop_zero List.take_zero List.length_map List.getElem?_map List.length_append List.all_cons List.all_nil List.append_nil List.nil_append List.cons_append List.set_cons_zero List.set_cons_succ Int.toNat_natCast Int.toNat_zero Option.isSome_some Option.isSome_none Array.size_empty ByteArray.size_empty Int.reduceToNat Int.reduceAdd Int.reduceSub Int.reduceLT Int.reduceLE Int.reduceEq Int.reduceNe Int.reduceBEq Int.reduceNeg List.forall_mem_cons List.not_mem_nil false_implies List.forall_mem_map implies_true Nat.reduceBNe Int.cast_ofNat_Int Int.reduceMul Int.reduceGE Int.reduceGT wrap_in ty_2 ty_3 ty_4 ty_5 ty_6 ty_7 ty_8 ty_9 ty_10 ty_11 ty_12 ty_13 ty_14 ty_18 ty_19 ty_21 ty_22 ty_23 ty_24 ty_25 ty_30 ty_31 ty_32 ty_33 ty_34 ty_44 ty_51 ty_52 ty_54 ty_55 ty_56 ty_57 ty_58 ty_74 ty_75 ty_78 ty_93 ty_94 ty_121 ty_122 ty_131 ty_132 ty_133 ty_134 ty_135 ty_137 ty_138 ty_139 ty_142 ty_143 ty_144 ty_145
set_option maxRecDepth 100000
set_option maxHeartbeats 2000000

theorem rcmp_q (a b : Rat) (za : (szQ a : Int) ≤ 68719476736) (zb : (szQ b : Int) ≤ 68719476736) : ContractN Try.prog 29 [encF (ofQ a), encF (ofQ b)] (dI (sgQ (a - b))) := by
  have := (rcompareF_c (ofQ a) (ofQ b) za zb).toN rfl
  rwa [cmpD_ofQ] at this
theorem divInt_nonneg {p q : Int} (hp : 0 ≤ p) (hq : 0 < q) : 0 ≤ Rat.divInt p q := by
  have h := sgQ_divInt (p := p) hq
  rcases sgQ_cases (Rat.divInt p q) with ⟨h1, h2⟩ | ⟨h1, h2⟩ | ⟨h1, h2⟩
  · rw [h2] at h
    have := Int.sign_nonneg_iff.2 hp
    omega
  · grind
  · grind
theorem err_nonneg {c : CertD} {reading day : Int} (h : errOk c reading day = true) : 0 ≤ errQ c reading day := by
  obtain ⟨b1, b2, b3, b4, b5⟩ := err_bounds h
  have h1 : 0 ≤ Rat.divInt (c.p * reading) 1000 := divInt_nonneg b1.1 (by decide)
  have h2 : (0 : Rat) ≤ ((c.g + c.d * (day - c.f) : Int) : Rat) := by exact_mod_cast (by omega : 0 ≤ c.g + c.d * (day - c.f))
  unfold errQ
  grind
theorem same_q (a : Rat) (za : (szQ a : Int) ≤ 68719476736) : ContractN Try.prog 22 [encF (ofQ a), encF (ofQ a)] (dB true) := by
  have := same_c (ofQ a) (ofQ a) (by rw [szF_ofQ]; omega)
  rwa [sameF_self] at this
theorem differ_q (a b : Rat) (za : (szQ a : Int) ≤ 68719476736) (h : a ≠ b) : ContractN Try.prog 22 [encF (ofQ a), encF (ofQ b)] (dB false) := by
  have := same_c (ofQ a) (ofQ b) (by rw [szF_ofQ]; omega)
  have e : sameF (ofQ a) (ofQ b) = false := by
    cases hs : sameF (ofQ a) (ofQ b) with
    | false => rfl
    | true => exact absurd (ofQ_inj (sameF_iff.1 hs)) h
  rwa [e] at this
theorem same_z : ContractN Try.prog 22 [encF zF, encF zF] (dB true) := by
  have := same_c zF zF (by rw [szF_zF]; decide)
  rwa [sameF_self] at this

theorem holds13_c (cs : List CertD) (rs : List RecD) (which reading day : Int) : Contract Try.prog 4 [encCs cs, encRs rs, dI which, dI reading, dI day] (dB true) := by
  have hres := Try.results4
  have k1 := sane_c
  have k2 := few13_c cs rs
  cases hfew : (decide ((cs.length : Int) ≤ 120) && decide ((rs.length : Int) ≤ 60))
  · rw [hfew] at k2
    refine Contract.ofA (CallA.inline Try.func4 rfl (by kernel_rfl) (by kernel_rfl) (by kernel_rfl) ?_)
    rw [Try.ntmps4]
    repeat (first
      | (refine hK _ ?_; clear hK; clear K)
      | (refine aSeq fun K hK => ?_)
      | (refine aBlock ?_)
      | (refine aSkip ?_)
      | (refine aExit ?_)
      | (refine aRet ?_)
      | (refine aOps _ rfl (by kernel_rfl) ?_)
      | (refine aRunK _ rfl mixed (by kernel_rfl) (by kernel_rfl) fun KE hE => ?_)
      | (refine hE _ _ (by kernel_rfl) (intsOk_no rfl) ?_; clear hE; clear KE)
      | (refine hE _ _ (by kernel_rfl) (intsOk_yes ?hi ?hj) ?_; (case hi => (repeat (refine intsDead_updB rfl ?_)); exact intsDead_nil); (case hj => simp); clear hE; clear KE)
      | (refine aCondT rfl ?hc ?_; case hc => simp only [go_sem, ↓reduceIte, hres])
      | (refine aCondF rfl ?hc ?_; case hc => simp only [go_sem, ↓reduceIte, hres])
      | (refine callT_of (k1) ?_ ?_; rotate_left; (repeat (refine intsDead_updB rfl ?_)); exact intsDead_nil)
      | (refine callT_ofN (k1) ?_)
      | (refine callU_of (k1) rfl ?_)
      | (refine callU_ofN (k1) rfl ?_)
      | (refine callT_of (k2) ?_ ?_; rotate_left; (repeat (refine intsDead_updB rfl ?_)); exact intsDead_nil)
      | (refine callT_ofN (k2) ?_)
      | (refine callU_of (k2) rfl ?_)
      | (refine callU_ofN (k2) rfl ?_)
      | (simp only [go_sem, ↓reduceIte, hres])
      | (refine And.intro ?ho ?_; (case ho => omega))
      | (clear hK; clear K))
  rw [hfew] at k2
  simp only [Bool.and_eq_true, decide_eq_true_eq] at hfew
  have kf := find_c cs which day (by omega)
  have kr := recalled_c rs which day (by omega)
  have ki := inter_c cs rs which reading day (by omega) (by omega)
  have kz := same_z
  cases h1 : findC cs which day with
  | none =>
    rw [h1] at kf
    rw [show intD cs rs which reading day = ⟨zF, zF, false⟩ by simp [intD, h1, noI]] at ki
    refine Contract.ofA (CallA.inline Try.func4 rfl (by kernel_rfl) (by kernel_rfl) (by kernel_rfl) ?_)
    rw [Try.ntmps4]
    repeat (first
      | (refine hK _ ?_; clear hK; clear K)
      | (refine aSeq fun K hK => ?_)
      | (refine aBlock ?_)
      | (refine aSkip ?_)
      | (refine aExit ?_)
      | (refine aRet ?_)
      | (refine aOps _ rfl (by kernel_rfl) ?_)
      | (refine aRunK _ rfl mixed (by kernel_rfl) (by kernel_rfl) fun KE hE => ?_)
      | (refine hE _ _ (by kernel_rfl) (intsOk_no rfl) ?_; clear hE; clear KE)
      | (refine hE _ _ (by kernel_rfl) (intsOk_yes ?hi ?hj) ?_; (case hi => (repeat (refine intsDead_updB rfl ?_)); exact intsDead_nil); (case hj => simp); clear hE; clear KE)
      | (refine aCondT rfl ?hc ?_; case hc => simp only [go_sem, ↓reduceIte, hres, bne_self_eq_false])
      | (refine aCondF rfl ?hc ?_; case hc => simp only [go_sem, ↓reduceIte, hres, bne_self_eq_false])
      | (refine callT_of (k1) ?_ ?_; rotate_left; (repeat (refine intsDead_updB rfl ?_)); exact intsDead_nil)
      | (refine callT_ofN (k1) ?_)
      | (refine callU_of (k1) rfl ?_)
      | (refine callU_ofN (k1) rfl ?_)
      | (refine callT_of (k2) ?_ ?_; rotate_left; (repeat (refine intsDead_updB rfl ?_)); exact intsDead_nil)
      | (refine callT_ofN (k2) ?_)
      | (refine callU_of (k2) rfl ?_)
      | (refine callU_ofN (k2) rfl ?_)
      | (refine callT_of (kf) ?_ ?_; rotate_left; (repeat (refine intsDead_updB rfl ?_)); exact intsDead_nil)
      | (refine callT_ofN (kf) ?_)
      | (refine callU_of (kf) rfl ?_)
      | (refine callU_ofN (kf) rfl ?_)
      | (refine callT_of (kr) ?_ ?_; rotate_left; (repeat (refine intsDead_updB rfl ?_)); exact intsDead_nil)
      | (refine callT_ofN (kr) ?_)
      | (refine callU_of (kr) rfl ?_)
      | (refine callU_ofN (kr) rfl ?_)
      | (refine callT_of (ki) ?_ ?_; rotate_left; (repeat (refine intsDead_updB rfl ?_)); exact intsDead_nil)
      | (refine callT_ofN (ki) ?_)
      | (refine callU_of (ki) rfl ?_)
      | (refine callU_ofN (ki) rfl ?_)
      | (refine callT_of (kz) ?_ ?_; rotate_left; (repeat (refine intsDead_updB rfl ?_)); exact intsDead_nil)
      | (refine callT_ofN (kz) ?_)
      | (refine callU_of (kz) rfl ?_)
      | (refine callU_ofN (kz) rfl ?_)
      | (simp only [go_sem, ↓reduceIte, hres, bne_self_eq_false])
      | (refine And.intro ?ho ?_; (case ho => omega))
      | (clear hK; clear K))
  | some b =>
    rw [h1] at kf
    obtain ⟨hb, c, hx, hcv, _⟩ := findC_some h1
    have h5 : (0 : Int) ≤ b := by omega
    have h6 : (b : Int) < cs.length := by omega
    have h6n : ¬ (b : Int) ≥ cs.length := by omega
    have h5n : ¬ (b : Int) < 0 := by omega
    by_cases h7 : reading ≥ 0
    rotate_left
    · rw [show intD cs rs which reading day = ⟨zF, zF, false⟩ by simp [intD, h1, hx, inB, h7, noI]] at ki
      refine Contract.ofA (CallA.inline Try.func4 rfl (by kernel_rfl) (by kernel_rfl) (by kernel_rfl) ?_)
      rw [Try.ntmps4]
      repeat (first
      | (refine hK _ ?_; clear hK; clear K)
      | (refine aSeq fun K hK => ?_)
      | (refine aBlock ?_)
      | (refine aSkip ?_)
      | (refine aExit ?_)
      | (refine aRet ?_)
      | (refine aOps _ rfl (by kernel_rfl) ?_)
      | (refine aRunK _ rfl mixed (by kernel_rfl) (by kernel_rfl) fun KE hE => ?_)
      | (refine hE _ _ (by kernel_rfl) (intsOk_no rfl) ?_; clear hE; clear KE)
      | (refine hE _ _ (by kernel_rfl) (intsOk_yes ?hi ?hj) ?_; (case hi => (repeat (refine intsDead_updB rfl ?_)); exact intsDead_nil); (case hj => simp); clear hE; clear KE)
      | (refine aCondT rfl ?hc ?_; case hc => simp only [go_sem, ↓reduceIte, hres, h5n, h6n, h7, bne_self_eq_false])
      | (refine aCondF rfl ?hc ?_; case hc => simp only [go_sem, ↓reduceIte, hres, h5n, h6n, h7, bne_self_eq_false])
      | (refine callT_of (k1) ?_ ?_; rotate_left; (repeat (refine intsDead_updB rfl ?_)); exact intsDead_nil)
      | (refine callT_ofN (k1) ?_)
      | (refine callU_of (k1) rfl ?_)
      | (refine callU_ofN (k1) rfl ?_)
      | (refine callT_of (k2) ?_ ?_; rotate_left; (repeat (refine intsDead_updB rfl ?_)); exact intsDead_nil)
      | (refine callT_ofN (k2) ?_)
      | (refine callU_of (k2) rfl ?_)
      | (refine callU_ofN (k2) rfl ?_)
      | (refine callT_of (kf) ?_ ?_; rotate_left; (repeat (refine intsDead_updB rfl ?_)); exact intsDead_nil)
      | (refine callT_ofN (kf) ?_)
      | (refine callU_of (kf) rfl ?_)
      | (refine callU_ofN (kf) rfl ?_)
      | (refine callT_of (kr) ?_ ?_; rotate_left; (repeat (refine intsDead_updB rfl ?_)); exact intsDead_nil)
      | (refine callT_ofN (kr) ?_)
      | (refine callU_of (kr) rfl ?_)
      | (refine callU_ofN (kr) rfl ?_)
      | (refine callT_of (ki) ?_ ?_; rotate_left; (repeat (refine intsDead_updB rfl ?_)); exact intsDead_nil)
      | (refine callT_ofN (ki) ?_)
      | (refine callU_of (ki) rfl ?_)
      | (refine callU_ofN (ki) rfl ?_)
      | (refine callT_of (kz) ?_ ?_; rotate_left; (repeat (refine intsDead_updB rfl ?_)); exact intsDead_nil)
      | (refine callT_ofN (kz) ?_)
      | (refine callU_of (kz) rfl ?_)
      | (refine callU_ofN (kz) rfl ?_)
      | (simp only [go_sem, ↓reduceIte, hres, h5n, h6n, h7, bne_self_eq_false])
      | (refine And.intro ?ho ?_; (case ho => omega))
      | (clear hK; clear K))
    by_cases h8 : reading ≤ 1099511627776
    rotate_left
    · rw [show intD cs rs which reading day = ⟨zF, zF, false⟩ by simp [intD, h1, hx, inB, h8, noI]] at ki
      refine Contract.ofA (CallA.inline Try.func4 rfl (by kernel_rfl) (by kernel_rfl) (by kernel_rfl) ?_)
      rw [Try.ntmps4]
      repeat (first
      | (refine hK _ ?_; clear hK; clear K)
      | (refine aSeq fun K hK => ?_)
      | (refine aBlock ?_)
      | (refine aSkip ?_)
      | (refine aExit ?_)
      | (refine aRet ?_)
      | (refine aOps _ rfl (by kernel_rfl) ?_)
      | (refine aRunK _ rfl mixed (by kernel_rfl) (by kernel_rfl) fun KE hE => ?_)
      | (refine hE _ _ (by kernel_rfl) (intsOk_no rfl) ?_; clear hE; clear KE)
      | (refine hE _ _ (by kernel_rfl) (intsOk_yes ?hi ?hj) ?_; (case hi => (repeat (refine intsDead_updB rfl ?_)); exact intsDead_nil); (case hj => simp); clear hE; clear KE)
      | (refine aCondT rfl ?hc ?_; case hc => simp only [go_sem, ↓reduceIte, hres, h5n, h6n, h7, h8, bne_self_eq_false])
      | (refine aCondF rfl ?hc ?_; case hc => simp only [go_sem, ↓reduceIte, hres, h5n, h6n, h7, h8, bne_self_eq_false])
      | (refine callT_of (k1) ?_ ?_; rotate_left; (repeat (refine intsDead_updB rfl ?_)); exact intsDead_nil)
      | (refine callT_ofN (k1) ?_)
      | (refine callU_of (k1) rfl ?_)
      | (refine callU_ofN (k1) rfl ?_)
      | (refine callT_of (k2) ?_ ?_; rotate_left; (repeat (refine intsDead_updB rfl ?_)); exact intsDead_nil)
      | (refine callT_ofN (k2) ?_)
      | (refine callU_of (k2) rfl ?_)
      | (refine callU_ofN (k2) rfl ?_)
      | (refine callT_of (kf) ?_ ?_; rotate_left; (repeat (refine intsDead_updB rfl ?_)); exact intsDead_nil)
      | (refine callT_ofN (kf) ?_)
      | (refine callU_of (kf) rfl ?_)
      | (refine callU_ofN (kf) rfl ?_)
      | (refine callT_of (kr) ?_ ?_; rotate_left; (repeat (refine intsDead_updB rfl ?_)); exact intsDead_nil)
      | (refine callT_ofN (kr) ?_)
      | (refine callU_of (kr) rfl ?_)
      | (refine callU_ofN (kr) rfl ?_)
      | (refine callT_of (ki) ?_ ?_; rotate_left; (repeat (refine intsDead_updB rfl ?_)); exact intsDead_nil)
      | (refine callT_ofN (ki) ?_)
      | (refine callU_of (ki) rfl ?_)
      | (refine callU_ofN (ki) rfl ?_)
      | (refine callT_of (kz) ?_ ?_; rotate_left; (repeat (refine intsDead_updB rfl ?_)); exact intsDead_nil)
      | (refine callT_ofN (kz) ?_)
      | (refine callU_of (kz) rfl ?_)
      | (refine callU_ofN (kz) rfl ?_)
      | (simp only [go_sem, ↓reduceIte, hres, h5n, h6n, h7, h8, bne_self_eq_false])
      | (refine And.intro ?ho ?_; (case ho => omega))
      | (clear hK; clear K))
    have h3 : inB reading 0 1099511627776 = true := by simp [inB, h8]; omega
    cases h2 : recC rs which day
    rotate_left
    · rw [show intD cs rs which reading day = ⟨zF, zF, false⟩ by simp [intD, h1, hx, h2, noI]] at ki
      rw [h2] at kr
      refine Contract.ofA (CallA.inline Try.func4 rfl (by kernel_rfl) (by kernel_rfl) (by kernel_rfl) ?_)
      rw [Try.ntmps4]
      repeat (first
      | (refine hK _ ?_; clear hK; clear K)
      | (refine aSeq fun K hK => ?_)
      | (refine aBlock ?_)
      | (refine aSkip ?_)
      | (refine aExit ?_)
      | (refine aRet ?_)
      | (refine aOps _ rfl (by kernel_rfl) ?_)
      | (refine aRunK _ rfl mixed (by kernel_rfl) (by kernel_rfl) fun KE hE => ?_)
      | (refine hE _ _ (by kernel_rfl) (intsOk_no rfl) ?_; clear hE; clear KE)
      | (refine hE _ _ (by kernel_rfl) (intsOk_yes ?hi ?hj) ?_; (case hi => (repeat (refine intsDead_updB rfl ?_)); exact intsDead_nil); (case hj => simp); clear hE; clear KE)
      | (refine aCondT rfl ?hc ?_; case hc => simp only [go_sem, ↓reduceIte, hres, h5n, h6n, h7, h8, bne_self_eq_false])
      | (refine aCondF rfl ?hc ?_; case hc => simp only [go_sem, ↓reduceIte, hres, h5n, h6n, h7, h8, bne_self_eq_false])
      | (refine callT_of (k1) ?_ ?_; rotate_left; (repeat (refine intsDead_updB rfl ?_)); exact intsDead_nil)
      | (refine callT_ofN (k1) ?_)
      | (refine callU_of (k1) rfl ?_)
      | (refine callU_ofN (k1) rfl ?_)
      | (refine callT_of (k2) ?_ ?_; rotate_left; (repeat (refine intsDead_updB rfl ?_)); exact intsDead_nil)
      | (refine callT_ofN (k2) ?_)
      | (refine callU_of (k2) rfl ?_)
      | (refine callU_ofN (k2) rfl ?_)
      | (refine callT_of (kf) ?_ ?_; rotate_left; (repeat (refine intsDead_updB rfl ?_)); exact intsDead_nil)
      | (refine callT_ofN (kf) ?_)
      | (refine callU_of (kf) rfl ?_)
      | (refine callU_ofN (kf) rfl ?_)
      | (refine callT_of (kr) ?_ ?_; rotate_left; (repeat (refine intsDead_updB rfl ?_)); exact intsDead_nil)
      | (refine callT_ofN (kr) ?_)
      | (refine callU_of (kr) rfl ?_)
      | (refine callU_ofN (kr) rfl ?_)
      | (refine callT_of (ki) ?_ ?_; rotate_left; (repeat (refine intsDead_updB rfl ?_)); exact intsDead_nil)
      | (refine callT_ofN (ki) ?_)
      | (refine callU_of (ki) rfl ?_)
      | (refine callU_ofN (ki) rfl ?_)
      | (refine callT_of (kz) ?_ ?_; rotate_left; (repeat (refine intsDead_updB rfl ?_)); exact intsDead_nil)
      | (refine callT_ofN (kz) ?_)
      | (refine callU_of (kz) rfl ?_)
      | (refine callU_ofN (kz) rfl ?_)
      | (simp only [go_sem, ↓reduceIte, hres, h5n, h6n, h7, h8, bne_self_eq_false])
      | (refine And.intro ?ho ?_; (case ho => omega))
      | (clear hK; clear K))
    rw [h2] at kr
    have hok : errOk c reading day = true := by simp [errOk, hcv, h3]
    have hz := szQ_err hok
    have he0 := err_nonneg hok
    have ke := err_c c reading day
    rw [show errD c reading day = (ofQ (errQ c reading day), true) by simp [errD, hok]] at ke
    have hid : intD cs rs which reading day = ⟨ofQ (maxQ ((reading : Rat) - errQ c reading day) 0), ofQ ((reading : Rat) + errQ c reading day), true⟩ := by simp [intD, h1, hx, h2, h3, okI]
    rw [hid] at ki
    have hr0 : (0 : Rat) ≤ (reading : Rat) := by exact_mod_cast h7
    have z1 := szQ_int reading (by omega) (by omega)
    have kn := rint_c reading (by omega) (by omega)
    clear hid hcv hok
    generalize errQ c reading day = e at *
    generalize (reading : Rat) = r at *
    have z2 := szQ_sub r e
    have z3 := szQ_add r e
    have z5 : szQ 0 ≤ 4 := szQ_int 0 (by decide) (by decide)
    have z4 := szQ_max (r - e) 0
    have g1 := fsub_q (r + e) r (by omega) (by omega)
    rw [show r + e - r = e by grind] at g1
    have g2 := same_q e (by omega)
    have g4 := rcmp_q r (r + e) (by omega) (by omega)
    have s4 : ¬ sgQ (r - (r + e)) > 0 := fun h => by have := sgQ_gt.1 h; grind
    by_cases hd : r - e < 0
    · have hl : maxQ (r - e) 0 = 0 := by unfold maxQ; rw [if_pos (by grind)]
      rw [hl] at ki
      have g5 := fsub_q r 0 (by omega) (by omega)
      rw [show r - 0 = r by grind] at g5
      have g6 := rcmp_q 0 r (by omega) (by omega)
      have s6 : ¬ sgQ (0 - r) > 0 := fun h => by have := sgQ_gt.1 h; grind
      have g7 := rsign_q 0 (by omega)
      rw [show sgQ 0 = 0 from rfl] at g7
      have g8 := differ_q r e (by omega) (by grind)
      have g9 := rcmp_q r e (by omega) (by omega)
      have s9 : sgQ (r - e) < 0 := sgQ_lt.2 hd
      refine Contract.ofA (CallA.inline Try.func4 rfl (by kernel_rfl) (by kernel_rfl) (by kernel_rfl) ?_)
      rw [Try.ntmps4]
      repeat (first
      | (refine hK _ ?_; clear hK; clear K)
      | (refine aSeq fun K hK => ?_)
      | (refine aBlock ?_)
      | (refine aSkip ?_)
      | (refine aExit ?_)
      | (refine aRet ?_)
      | (refine aOps _ rfl (by kernel_rfl) ?_)
      | (refine aRunK _ rfl mixed (by kernel_rfl) (by kernel_rfl) fun KE hE => ?_)
      | (refine hE _ _ (by kernel_rfl) (intsOk_no rfl) ?_; clear hE; clear KE)
      | (refine hE _ _ (by kernel_rfl) (intsOk_yes ?hi ?hj) ?_; (case hi => (repeat (refine intsDead_updB rfl ?_)); exact intsDead_nil); (case hj => simp); clear hE; clear KE)
      | (refine aCondT rfl ?hc ?_; case hc => simp only [go_sem, ↓reduceIte, hres, h5, h6, h5n, h6n, h7, h8, hx, s4, s6, s9, bne_self_eq_false])
      | (refine aCondF rfl ?hc ?_; case hc => simp only [go_sem, ↓reduceIte, hres, h5, h6, h5n, h6n, h7, h8, hx, s4, s6, s9, bne_self_eq_false])
      | (refine callT_of (k1) ?_ ?_; rotate_left; (repeat (refine intsDead_updB rfl ?_)); exact intsDead_nil)
      | (refine callT_ofN (k1) ?_)
      | (refine callU_of (k1) rfl ?_)
      | (refine callU_ofN (k1) rfl ?_)
      | (refine callT_of (k2) ?_ ?_; rotate_left; (repeat (refine intsDead_updB rfl ?_)); exact intsDead_nil)
      | (refine callT_ofN (k2) ?_)
      | (refine callU_of (k2) rfl ?_)
      | (refine callU_ofN (k2) rfl ?_)
      | (refine callT_of (kf) ?_ ?_; rotate_left; (repeat (refine intsDead_updB rfl ?_)); exact intsDead_nil)
      | (refine callT_ofN (kf) ?_)
      | (refine callU_of (kf) rfl ?_)
      | (refine callU_ofN (kf) rfl ?_)
      | (refine callT_of (kr) ?_ ?_; rotate_left; (repeat (refine intsDead_updB rfl ?_)); exact intsDead_nil)
      | (refine callT_ofN (kr) ?_)
      | (refine callU_of (kr) rfl ?_)
      | (refine callU_ofN (kr) rfl ?_)
      | (refine callT_of (ki) ?_ ?_; rotate_left; (repeat (refine intsDead_updB rfl ?_)); exact intsDead_nil)
      | (refine callT_ofN (ki) ?_)
      | (refine callU_of (ki) rfl ?_)
      | (refine callU_ofN (ki) rfl ?_)
      | (refine callT_of (ke) ?_ ?_; rotate_left; (repeat (refine intsDead_updB rfl ?_)); exact intsDead_nil)
      | (refine callT_ofN (ke) ?_)
      | (refine callU_of (ke) rfl ?_)
      | (refine callU_ofN (ke) rfl ?_)
      | (refine callT_of (kn) ?_ ?_; rotate_left; (repeat (refine intsDead_updB rfl ?_)); exact intsDead_nil)
      | (refine callT_ofN (kn) ?_)
      | (refine callU_of (kn) rfl ?_)
      | (refine callU_ofN (kn) rfl ?_)
      | (refine callT_of (g1) ?_ ?_; rotate_left; (repeat (refine intsDead_updB rfl ?_)); exact intsDead_nil)
      | (refine callT_ofN (g1) ?_)
      | (refine callU_of (g1) rfl ?_)
      | (refine callU_ofN (g1) rfl ?_)
      | (refine callT_of (g2) ?_ ?_; rotate_left; (repeat (refine intsDead_updB rfl ?_)); exact intsDead_nil)
      | (refine callT_ofN (g2) ?_)
      | (refine callU_of (g2) rfl ?_)
      | (refine callU_ofN (g2) rfl ?_)
      | (refine callT_of (g4) ?_ ?_; rotate_left; (repeat (refine intsDead_updB rfl ?_)); exact intsDead_nil)
      | (refine callT_ofN (g4) ?_)
      | (refine callU_of (g4) rfl ?_)
      | (refine callU_ofN (g4) rfl ?_)
      | (refine callT_of (g5) ?_ ?_; rotate_left; (repeat (refine intsDead_updB rfl ?_)); exact intsDead_nil)
      | (refine callT_ofN (g5) ?_)
      | (refine callU_of (g5) rfl ?_)
      | (refine callU_ofN (g5) rfl ?_)
      | (refine callT_of (g6) ?_ ?_; rotate_left; (repeat (refine intsDead_updB rfl ?_)); exact intsDead_nil)
      | (refine callT_ofN (g6) ?_)
      | (refine callU_of (g6) rfl ?_)
      | (refine callU_ofN (g6) rfl ?_)
      | (refine callT_of (g7) ?_ ?_; rotate_left; (repeat (refine intsDead_updB rfl ?_)); exact intsDead_nil)
      | (refine callT_ofN (g7) ?_)
      | (refine callU_of (g7) rfl ?_)
      | (refine callU_ofN (g7) rfl ?_)
      | (refine callT_of (g8) ?_ ?_; rotate_left; (repeat (refine intsDead_updB rfl ?_)); exact intsDead_nil)
      | (refine callT_ofN (g8) ?_)
      | (refine callU_of (g8) rfl ?_)
      | (refine callU_ofN (g8) rfl ?_)
      | (refine callT_of (g9) ?_ ?_; rotate_left; (repeat (refine intsDead_updB rfl ?_)); exact intsDead_nil)
      | (refine callT_ofN (g9) ?_)
      | (refine callU_of (g9) rfl ?_)
      | (refine callU_ofN (g9) rfl ?_)
      | (simp only [go_sem, ↓reduceIte, hres, h5, h6, h5n, h6n, h7, h8, hx, s4, s6, s9, bne_self_eq_false])
      | (refine And.intro ?ho ?_; (case ho => omega))
      | (clear hK; clear K))
    · have hl : maxQ (r - e) 0 = r - e := by unfold maxQ; split <;> grind
      rw [hl] at ki
      have g5 := fsub_q r (r - e) (by omega) (by omega)
      rw [show r - (r - e) = e by grind] at g5
      have g6 := rcmp_q (r - e) r (by omega) (by omega)
      have s6 : ¬ sgQ (r - e - r) > 0 := fun h => by have := sgQ_gt.1 h; grind
      have g7 := rsign_q (r - e) (by omega)
      have s7 : ¬ sgQ (r - e) < 0 := fun h => hd (sgQ_lt.1 h)
      refine Contract.ofA (CallA.inline Try.func4 rfl (by kernel_rfl) (by kernel_rfl) (by kernel_rfl) ?_)
      rw [Try.ntmps4]
      repeat (first
      | (refine hK _ ?_; clear hK; clear K)
      | (refine aSeq fun K hK => ?_)
      | (refine aBlock ?_)
      | (refine aSkip ?_)
      | (refine aExit ?_)
      | (refine aRet ?_)
      | (refine aOps _ rfl (by kernel_rfl) ?_)
      | (refine aRunK _ rfl mixed (by kernel_rfl) (by kernel_rfl) fun KE hE => ?_)
      | (refine hE _ _ (by kernel_rfl) (intsOk_no rfl) ?_; clear hE; clear KE)
      | (refine hE _ _ (by kernel_rfl) (intsOk_yes ?hi ?hj) ?_; (case hi => (repeat (refine intsDead_updB rfl ?_)); exact intsDead_nil); (case hj => simp); clear hE; clear KE)
      | (refine aCondT rfl ?hc ?_; case hc => simp only [go_sem, ↓reduceIte, hres, h5, h6, h5n, h6n, h7, h8, hx, s4, s6, s7, bne_self_eq_false])
      | (refine aCondF rfl ?hc ?_; case hc => simp only [go_sem, ↓reduceIte, hres, h5, h6, h5n, h6n, h7, h8, hx, s4, s6, s7, bne_self_eq_false])
      | (refine callT_of (k1) ?_ ?_; rotate_left; (repeat (refine intsDead_updB rfl ?_)); exact intsDead_nil)
      | (refine callT_ofN (k1) ?_)
      | (refine callU_of (k1) rfl ?_)
      | (refine callU_ofN (k1) rfl ?_)
      | (refine callT_of (k2) ?_ ?_; rotate_left; (repeat (refine intsDead_updB rfl ?_)); exact intsDead_nil)
      | (refine callT_ofN (k2) ?_)
      | (refine callU_of (k2) rfl ?_)
      | (refine callU_ofN (k2) rfl ?_)
      | (refine callT_of (kf) ?_ ?_; rotate_left; (repeat (refine intsDead_updB rfl ?_)); exact intsDead_nil)
      | (refine callT_ofN (kf) ?_)
      | (refine callU_of (kf) rfl ?_)
      | (refine callU_ofN (kf) rfl ?_)
      | (refine callT_of (kr) ?_ ?_; rotate_left; (repeat (refine intsDead_updB rfl ?_)); exact intsDead_nil)
      | (refine callT_ofN (kr) ?_)
      | (refine callU_of (kr) rfl ?_)
      | (refine callU_ofN (kr) rfl ?_)
      | (refine callT_of (ki) ?_ ?_; rotate_left; (repeat (refine intsDead_updB rfl ?_)); exact intsDead_nil)
      | (refine callT_ofN (ki) ?_)
      | (refine callU_of (ki) rfl ?_)
      | (refine callU_ofN (ki) rfl ?_)
      | (refine callT_of (ke) ?_ ?_; rotate_left; (repeat (refine intsDead_updB rfl ?_)); exact intsDead_nil)
      | (refine callT_ofN (ke) ?_)
      | (refine callU_of (ke) rfl ?_)
      | (refine callU_ofN (ke) rfl ?_)
      | (refine callT_of (kn) ?_ ?_; rotate_left; (repeat (refine intsDead_updB rfl ?_)); exact intsDead_nil)
      | (refine callT_ofN (kn) ?_)
      | (refine callU_of (kn) rfl ?_)
      | (refine callU_ofN (kn) rfl ?_)
      | (refine callT_of (g1) ?_ ?_; rotate_left; (repeat (refine intsDead_updB rfl ?_)); exact intsDead_nil)
      | (refine callT_ofN (g1) ?_)
      | (refine callU_of (g1) rfl ?_)
      | (refine callU_ofN (g1) rfl ?_)
      | (refine callT_of (g2) ?_ ?_; rotate_left; (repeat (refine intsDead_updB rfl ?_)); exact intsDead_nil)
      | (refine callT_ofN (g2) ?_)
      | (refine callU_of (g2) rfl ?_)
      | (refine callU_ofN (g2) rfl ?_)
      | (refine callT_of (g4) ?_ ?_; rotate_left; (repeat (refine intsDead_updB rfl ?_)); exact intsDead_nil)
      | (refine callT_ofN (g4) ?_)
      | (refine callU_of (g4) rfl ?_)
      | (refine callU_ofN (g4) rfl ?_)
      | (refine callT_of (g5) ?_ ?_; rotate_left; (repeat (refine intsDead_updB rfl ?_)); exact intsDead_nil)
      | (refine callT_ofN (g5) ?_)
      | (refine callU_of (g5) rfl ?_)
      | (refine callU_ofN (g5) rfl ?_)
      | (refine callT_of (g6) ?_ ?_; rotate_left; (repeat (refine intsDead_updB rfl ?_)); exact intsDead_nil)
      | (refine callT_ofN (g6) ?_)
      | (refine callU_of (g6) rfl ?_)
      | (refine callU_ofN (g6) rfl ?_)
      | (refine callT_of (g7) ?_ ?_; rotate_left; (repeat (refine intsDead_updB rfl ?_)); exact intsDead_nil)
      | (refine callT_ofN (g7) ?_)
      | (refine callU_of (g7) rfl ?_)
      | (refine callU_ofN (g7) rfl ?_)
      | (simp only [go_sem, ↓reduceIte, hres, h5, h6, h5n, h6n, h7, h8, hx, s4, s6, s7, bne_self_eq_false])
      | (refine And.intro ?ho ?_; (case ho => omega))
      | (clear hK; clear K))
end Go.Proofs.Ytenmlcpbjjlokaa

/-
  The statement ScaleHolds, joined: the frame round the law's contract: the law returns true for every input, and each argument reads behind the call as it read before.
-/
namespace Go.Proofs.Ytenmlcpbjjlokaa.scaleHoldsDone
set_option linter.unusedVariables false
set_option linter.unusedSimpArgs false
open Go.ChangeShapes Go.WideShapes Go.ChangeAt Go.RowKit
set_option linter.unusedVariables false

theorem own : ownKnob Try.prog.godebug = none := by kernel_rfl
theorem laidOut : laidOutB Try.prog = true := by kernel_rfl

set_option maxRecDepth 100000 in
theorem lifted (os : Os) (started : os.Started) (H : Type) (enc : TypeId × Value → H) :
    ReturnsInHanded {} Try.checked os 4 .any (Rows.scaleHoldsSpec.pre6 enc Try.prog Try.f4 Rows.scaleHoldsRow.domain false) (Rows.scaleHoldsSpec.post enc Try.prog Try.f4 false true false false) := by
  refine returnsInHanded_of_change (C := Try.checked) own started (by kernel_rfl) Try.func4
    (ChangeSpec.witness6 (enc := enc) (C := Try.checked) false ⟨#[], #[.slice none 0 0, .slice none 0 0, .int .i64 0, .int .i64 0, .int .i64 0], []⟩ 8 (by kernel_rfl) (by kernel_rfl) (by kernel_rfl) (by kernel_rfl)) ?_
  intro W base args ds gs before hval0 hW hcnd _
  have hval : ∀ (j : Nat) t v, Try.f4.params[j]? = some t → args[j]? = some v → Value.okWide Try.prog W .any base t v := hval0
  have hW' := hW
  obtain ⟨p, q, hA0, hV, rfl, hfz, hnd⟩ := hW
  have hA : DataW.TrodAll enc Try.prog W 0 (fun _ => true) true Try.f4.params.toList args.toList ds p := hA0
  rw [Try.params4] at hA hval
  obtain ⟨v0, vs0, d0, ds0, p0, q0, hargs, rfl, rfl, h0, r0⟩ := trodAll_cons hA
  obtain ⟨v1, vs1, d1, ds1, p1, q1, rfl, rfl, rfl, h1, r1⟩ := trodAll_cons r0
  obtain ⟨v2, vs2, d2, ds2, p2, q2, rfl, rfl, rfl, h2, r2⟩ := trodAll_cons r1
  obtain ⟨v3, vs3, d3, ds3, p3, q3, rfl, rfl, rfl, h3, r3⟩ := trodAll_cons r2
  obtain ⟨v4, vs4, d4, ds4, p4, q4, rfl, rfl, rfl, h4, r4⟩ := trodAll_cons r3
  obtain ⟨rfl, rfl, rfl⟩ := trodAll_nil r4
  obtain rfl : args = #[v0, v1, v2, v3, v4] := by cases args; simp_all
  obtain ⟨rfl, rfl⟩ := trodVars_none hV
  have k0 := h0
  have lt0 : ∀ x ∈ p0, x.block < W.heap.size := by obtain ⟨m, hm⟩ := k0; exact DataW.trod_lt m _ _ _ hm
  obtain ⟨es0, z0, sh0, w0⟩ := repA_slice (n := 4) Try.underlying22 (by kernel_rfl) (hval 0 22 v0 rfl rfl) h0
  obtain ⟨l0, rfl⟩ := map_of_all (f := cC) (fun x hx => cert_of (sh0 x hx))
  have k1 := h1
  have lt1 : ∀ x ∈ p1, x.block < W.heap.size := by obtain ⟨m, hm⟩ := k1; exact DataW.trod_lt m _ _ _ hm
  obtain ⟨es1, z1, sh1, w1⟩ := repA_slice (n := 4) Try.underlying23 (by kernel_rfl) (hval 1 23 v1 rfl rfl) h1
  obtain ⟨l1, rfl⟩ := map_of_all (f := cR) (fun x hx => rec_of (sh1 x hx))
  obtain ⟨a2, rfl, rfl, rfl, w2⟩ := open_int Try.underlying3 (hval 2 3 v2 rfl rfl) h2
  obtain ⟨a3, rfl, rfl, rfl, w3⟩ := open_int Try.underlying3 (hval 3 3 v3 rfl rfl) h3
  obtain ⟨a4, rfl, rfl, rfl, w4⟩ := open_int Try.underlying3 (hval 4 3 v4 rfl rfl) h4
  clear hA0 hval0
  have hc := (holds13_c l0 l1 a2 a3 a4).2 allS W [v0, v1, .int .i64 a2, .int .i64 a3, .int .i64 a4] (fun _ _ _ => trivial) (fun _ _ _ _ _ => trivial) (Reps.cons (w0) (Reps.cons (w1) (Reps.cons (.v _) (Reps.cons (.v _) (Reps.cons (.v _) (Reps.nil))))))
  refine hc.mono fun e W' he => ?_
  obtain ⟨u, rfl, bel, hu⟩ := he
  rw [hu.inv_v]
  exact ⟨_, rfl, _, _, _, [], _, [], hW', trodAll_mk1 (shut_bool Try.underlying4 _), (trodAll_cons_mk (Below.trod laidOut (by kernel_rfl) (of_decide_eq_true (by kernel_rfl)) k0 bel lt0) (trodAll_cons_mk (Below.trod laidOut (by kernel_rfl) (of_decide_eq_true (by kernel_rfl)) k1 bel lt1) (trodAll_cons_mk (shut_int Try.underlying3 w2) (trodAll_cons_mk (shut_int Try.underlying3 w3) (trodAll_cons_mk (shut_int Try.underlying3 w4) (trodAll_mk0)))))), rfl, bel.frame _, fun h => by cases h⟩

theorem over : Rows.scaleHoldsRow.holds Try.pinned (OpenSpec.ofChange Rows.scaleHoldsSpec) :=
  OpenClaim.holds_of_wide 4 Try.f4 rfl rfl rfl rfl rfl rfl rfl ⟨rfl, rfl, rfl, rfl, rfl⟩ rfl rfl rfl rfl rfl (by kernel_rfl) Try.func4 (by kernel_rfl)
    (of_decide_eq_true (by kernel_rfl)) (by unfold Func.isWrapper; first | (rw [if_pos (by decide +kernel)]; kernel_rfl) | (rw [if_neg (by decide +kernel)]; exact ⟨rfl, rfl⟩))
    (fun os started H enc _ => lifted os started H enc)

/-- The statement. -/
theorem proved : Rows.ScaleHoldsSaid := over
end Go.Proofs.Ytenmlcpbjjlokaa.scaleHoldsDone
