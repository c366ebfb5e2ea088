/-
  Certificates and recalls, as data; scale's and the reference's Right, covers.
-/
import Derived.Test.YtenmlcpbjjlokaaMRefB

/-
  Certificates and recalls, as data; scale's and the reference's Right, covers.
-/
namespace Go.Proofs.Ytenmlcpbjjlokaa
set_option linter.unusedVariables false
set_option linter.unusedSimpArgs false
open Go Go.RowKit
attribute [local go_sem] opsL_nil opsL_go opsL_guard gSel_tt gSel_ff gSel_tf gSel_ft stepR_some stepR_none callS_some callE_some runL_nil runL_go runL_guard gSelE_tt gSelE_ff gSelE_tf gSelE_ft stepE_some stepE_none opF callD rd constD putT upd_get guardL gOf_bool gOf_undef fieldAddrF fieldF loadF storeF indexAddrF indexF sliceF strSliceF bound buildF fillF buildSliceF elemsF allocF makeSliceF lenF elemsOf appendF minmaxF convertF boxF ldE blkAt spliceE D.cells? D.isCell Res.pure ov TyI.agg binD unD boolD initT thenA inBlockA argD argDs refsD refsL killW datJ datJs endA_ret endA_normal endR_some oneD_one oneD_two oneD_three oneD_four resDs resD fzT Value.oneCell' strip tabT tabM
attribute [local go_sem] List.map Nat.reduceEqDiff Nat.reduceBEq List.getElem?_cons_zero List.getElem?_cons_succ List.getElem?_nil Option.getD_some Option.getD_none true_and and_true true_or or_true false_or or_false and_self Nat.add_zero Nat.zero_add List.length_nil List.length_cons forall_const ite_true ite_false Bool.or_self Bool.false_eq_true Option.map_some Option.map_none beq_self_eq_true Nat.reduceAdd Nat.reduceSub Nat.reduceMul reduceCtorEq List.getElem?_toArray Bool.not_true Bool.not_false decide_eq_true_eq decide_true decide_false Nat.reduceLeDiff Nat.reduceLT Bool.or_false Bool.or_true Bool.and_true Bool.and_false Bool.false_and Bool.true_and Bool.true_beq Bool.false_beq beq_true beq_false Bool.not_eq_true List.drop_succ_cons List.take_succ_cons List.drop_zero List.take_zero List.length_map List.getElem?_map List.length_append List.all_cons List.all_nil List.append_nil List.nil_append List.cons_append List.set_cons_zero List.set_cons_succ Int.toNat_natCast Int.toNat_zero Option.isSome_some Option.isSome_none Array.size_empty ByteArray.size_empty Int.reduceToNat Int.reduceAdd Int.reduceSub Int.reduceLT Int.reduceLE Int.reduceEq Int.reduceNe Int.reduceBEq Int.reduceNeg List.forall_mem_cons List.not_mem_nil false_implies List.forall_mem_map implies_true Nat.reduceBNe Int.cast_ofNat_Int Int.reduceMul Int.reduceGE Int.reduceGT wrap_in ty_2 ty_3 ty_4 ty_5 ty_6 ty_7 ty_8 ty_9 ty_10 ty_11 ty_12 ty_13 ty_14 ty_18 ty_19 ty_21 ty_22 ty_23 ty_24 ty_25 ty_30 ty_31 ty_32 ty_33 ty_34 ty_44 ty_51 ty_52 ty_54 ty_55 ty_56 ty_57 ty_58 ty_74 ty_75 ty_78 ty_93 ty_94 ty_121 ty_122 ty_131 ty_132 ty_133 ty_134 ty_135 ty_137 ty_138 ty_139 ty_142 ty_143 ty_144 ty_145
set_option maxRecDepth 100000
set_option maxHeartbeats 1000000

structure CertD where
  s : Int
  f : Int
  u : Int
  g : Int
  p : Int
  d : Int
structure RecD where
  s : Int
  d : Int
abbrev cC (c : CertD) : List D := [dI c.s, dI c.f, dI c.u, dI c.g, dI c.p, dI c.d]
abbrev encC (c : CertD) : D := .agg (cC c)
abbrev encCs (l : List CertD) : D := .sl (l.map cC)
abbrev cR (r : RecD) : List D := [dI r.s, dI r.d]
abbrev encR (r : RecD) : D := .agg (cR r)
abbrev encRs (l : List RecD) : D := .sl (l.map cR)

def inB (n lo hi : Int) : Bool := decide (lo ≤ n) && decide (n ≤ hi)
def rightC (c : CertD) : Bool := decide (0 ≤ c.f) && decide (c.f ≤ c.u) && decide (c.u ≤ 100000) && inB c.s 0 29 && inB c.g 0 1099511627776 && inB c.p 0 1000 && inB c.d 0 10000000
def coversC (c : CertD) (day : Int) : Bool := rightC c && decide (c.f ≤ day) && decide (day ≤ c.u)
theorem rightC_iff {c : CertD} : rightC c = true ↔ 0 ≤ c.f ∧ c.f ≤ c.u ∧ c.u ≤ 100000 ∧ (0 ≤ c.s ∧ c.s ≤ 29) ∧ (0 ≤ c.g ∧ c.g ≤ 1099511627776) ∧ (0 ≤ c.p ∧ c.p ≤ 1000) ∧ (0 ≤ c.d ∧ c.d ≤ 10000000) := by
  simp [rightC, inB, and_assoc]

theorem within_c (n m : Int) : ContractN Try.prog 63 [dI n, dI m] (dB (inB n 0 m)) := by
  refine Contract.toN ?_ rfl
  refine Contract.ofA (CallA.inline Try.func63 rfl (by kernel_rfl) (by kernel_rfl) (by kernel_rfl) ?_)
  rw [Try.ntmps63]
  have hres := Try.results63
  by_cases h1 : n ≥ 0
  rotate_left
  · repeat (first
      | (refine hK _ ?_; clear hK; clear K)
      | (refine aSeq fun K hK => ?_)
      | (refine aBlock ?_)
      | (refine aSkip ?_)
      | (refine aExit ?_)
      | (refine aRet ?_)
      | (refine aOps _ rfl (by kernel_rfl) ?_)
      | (refine aRunK _ rfl mixed (by kernel_rfl) (by kernel_rfl) fun KE hE => ?_)
      | (refine hE _ _ (by kernel_rfl) (intsOk_no rfl) ?_; clear hE; clear KE)
      | (refine hE _ _ (by kernel_rfl) (intsOk_yes ?hi ?hj) ?_; (case hi => (repeat (refine intsDead_updB rfl ?_)); exact intsDead_nil); (case hj => simp); clear hE; clear KE)
      | (refine aCondT rfl ?hc ?_; case hc => simp only [go_sem, ↓reduceIte, hres, h1])
      | (refine aCondF rfl ?hc ?_; case hc => simp only [go_sem, ↓reduceIte, hres, h1])
      | (simp only [go_sem, ↓reduceIte, hres, h1])
      | (refine And.intro ?ho ?_; (case ho => omega))
      | (clear hK; clear K))
    exact bool_eq (by simp [inB, h1])
  by_cases h2 : n ≤ m
  rotate_left
  · repeat (first
      | (refine hK _ ?_; clear hK; clear K)
      | (refine aSeq fun K hK => ?_)
      | (refine aBlock ?_)
      | (refine aSkip ?_)
      | (refine aExit ?_)
      | (refine aRet ?_)
      | (refine aOps _ rfl (by kernel_rfl) ?_)
      | (refine aRunK _ rfl mixed (by kernel_rfl) (by kernel_rfl) fun KE hE => ?_)
      | (refine hE _ _ (by kernel_rfl) (intsOk_no rfl) ?_; clear hE; clear KE)
      | (refine hE _ _ (by kernel_rfl) (intsOk_yes ?hi ?hj) ?_; (case hi => (repeat (refine intsDead_updB rfl ?_)); exact intsDead_nil); (case hj => simp); clear hE; clear KE)
      | (refine aCondT rfl ?hc ?_; case hc => simp only [go_sem, ↓reduceIte, hres, h1, h2])
      | (refine aCondF rfl ?hc ?_; case hc => simp only [go_sem, ↓reduceIte, hres, h1, h2])
      | (simp only [go_sem, ↓reduceIte, hres, h1, h2])
      | (refine And.intro ?ho ?_; (case ho => omega))
      | (clear hK; clear K))
    exact bool_eq (by simp [inB, h1, h2])
  repeat (first
      | (refine hK _ ?_; clear hK; clear K)
      | (refine aSeq fun K hK => ?_)
      | (refine aBlock ?_)
      | (refine aSkip ?_)
      | (refine aExit ?_)
      | (refine aRet ?_)
      | (refine aOps _ rfl (by kernel_rfl) ?_)
      | (refine aRunK _ rfl mixed (by kernel_rfl) (by kernel_rfl) fun KE hE => ?_)
      | (refine hE _ _ (by kernel_rfl) (intsOk_no rfl) ?_; clear hE; clear KE)
      | (refine hE _ _ (by kernel_rfl) (intsOk_yes ?hi ?hj) ?_; (case hi => (repeat (refine intsDead_updB rfl ?_)); exact intsDead_nil); (case hj => simp); clear hE; clear KE)
      | (refine aCondT rfl ?hc ?_; case hc => simp only [go_sem, ↓reduceIte, hres, h1, h2])
      | (refine aCondF rfl ?hc ?_; case hc => simp only [go_sem, ↓reduceIte, hres, h1, h2])
      | (simp only [go_sem, ↓reduceIte, hres, h1, h2])
      | (refine And.intro ?ho ?_; (case ho => omega))
      | (clear hK; clear K))
  exact bool_eq (by simp [inB, h1, h2])
theorem rin_c (n lo hi : Int) : ContractN Try.prog 62 [dI n, dI lo, dI hi] (dB (inB n lo hi)) := by
  refine Contract.toN ?_ rfl
  refine Contract.ofA (CallA.inline Try.func62 rfl (by kernel_rfl) (by kernel_rfl) (by kernel_rfl) ?_)
  rw [Try.ntmps62]
  have hres := Try.results62
  by_cases h1 : n ≥ lo
  rotate_left
  · repeat (first
      | (refine hK _ ?_; clear hK; clear K)
      | (refine aSeq fun K hK => ?_)
      | (refine aBlock ?_)
      | (refine aSkip ?_)
      | (refine aExit ?_)
      | (refine aRet ?_)
      | (refine aOps _ rfl (by kernel_rfl) ?_)
      | (refine aRunK _ rfl mixed (by kernel_rfl) (by kernel_rfl) fun KE hE => ?_)
      | (refine hE _ _ (by kernel_rfl) (intsOk_no rfl) ?_; clear hE; clear KE)
      | (refine hE _ _ (by kernel_rfl) (intsOk_yes ?hi ?hj) ?_; (case hi => (repeat (refine intsDead_updB rfl ?_)); exact intsDead_nil); (case hj => simp); clear hE; clear KE)
      | (refine aCondT rfl ?hc ?_; case hc => simp only [go_sem, ↓reduceIte, hres, h1])
      | (refine aCondF rfl ?hc ?_; case hc => simp only [go_sem, ↓reduceIte, hres, h1])
      | (simp only [go_sem, ↓reduceIte, hres, h1])
      | (refine And.intro ?ho ?_; (case ho => omega))
      | (clear hK; clear K))
    exact bool_eq (by simp [inB, h1])
  by_cases h2 : n ≤ hi
  rotate_left
  · repeat (first
      | (refine hK _ ?_; clear hK; clear K)
      | (refine aSeq fun K hK => ?_)
      | (refine aBlock ?_)
      | (refine aSkip ?_)
      | (refine aExit ?_)
      | (refine aRet ?_)
      | (refine aOps _ rfl (by kernel_rfl) ?_)
      | (refine aRunK _ rfl mixed (by kernel_rfl) (by kernel_rfl) fun KE hE => ?_)
      | (refine hE _ _ (by kernel_rfl) (intsOk_no rfl) ?_; clear hE; clear KE)
      | (refine hE _ _ (by kernel_rfl) (intsOk_yes ?hi ?hj) ?_; (case hi => (repeat (refine intsDead_updB rfl ?_)); exact intsDead_nil); (case hj => simp); clear hE; clear KE)
      | (refine aCondT rfl ?hc ?_; case hc => simp only [go_sem, ↓reduceIte, hres, h1, h2])
      | (refine aCondF rfl ?hc ?_; case hc => simp only [go_sem, ↓reduceIte, hres, h1, h2])
      | (simp only [go_sem, ↓reduceIte, hres, h1, h2])
      | (refine And.intro ?ho ?_; (case ho => omega))
      | (clear hK; clear K))
    exact bool_eq (by simp [inB, h1, h2])
  repeat (first
      | (refine hK _ ?_; clear hK; clear K)
      | (refine aSeq fun K hK => ?_)
      | (refine aBlock ?_)
      | (refine aSkip ?_)
      | (refine aExit ?_)
      | (refine aRet ?_)
      | (refine aOps _ rfl (by kernel_rfl) ?_)
      | (refine aRunK _ rfl mixed (by kernel_rfl) (by kernel_rfl) fun KE hE => ?_)
      | (refine hE _ _ (by kernel_rfl) (intsOk_no rfl) ?_; clear hE; clear KE)
      | (refine hE _ _ (by kernel_rfl) (intsOk_yes ?hi ?hj) ?_; (case hi => (repeat (refine intsDead_updB rfl ?_)); exact intsDead_nil); (case hj => simp); clear hE; clear KE)
      | (refine aCondT rfl ?hc ?_; case hc => simp only [go_sem, ↓reduceIte, hres, h1, h2])
      | (refine aCondF rfl ?hc ?_; case hc => simp only [go_sem, ↓reduceIte, hres, h1, h2])
      | (simp only [go_sem, ↓reduceIte, hres, h1, h2])
      | (refine And.intro ?ho ?_; (case ho => omega))
      | (clear hK; clear K))
  exact bool_eq (by simp [inB, h1, h2])
theorem sright_c (c : CertD) : ContractN Try.prog 23 [encC c] (dB (rightC c)) := by
  refine Contract.toN ?_ rfl
  refine Contract.ofA (CallA.inline Try.func23 rfl (by kernel_rfl) (by kernel_rfl) (by kernel_rfl) ?_)
  rw [Try.ntmps23]
  have hres := Try.results23
  by_cases h1 : 0 ≤ c.f
  rotate_left
  · repeat (first
      | (refine hK _ ?_; clear hK; clear K)
      | (refine aSeq fun K hK => ?_)
      | (refine aBlock ?_)
      | (refine aSkip ?_)
      | (refine aExit ?_)
      | (refine aRet ?_)
      | (refine aOps _ rfl (by kernel_rfl) ?_)
      | (refine aRunK _ rfl mixed (by kernel_rfl) (by kernel_rfl) fun KE hE => ?_)
      | (refine hE _ _ (by kernel_rfl) (intsOk_no rfl) ?_; clear hE; clear KE)
      | (refine hE _ _ (by kernel_rfl) (intsOk_yes ?hi ?hj) ?_; (case hi => (repeat (refine intsDead_updB rfl ?_)); exact intsDead_nil); (case hj => simp); clear hE; clear KE)
      | (refine aCondT rfl ?hc ?_; case hc => simp only [go_sem, ↓reduceIte, hres, h1])
      | (refine aCondF rfl ?hc ?_; case hc => simp only [go_sem, ↓reduceIte, hres, h1])
      | (refine callT_of (within_c _ _) ?_ ?_; rotate_left; (repeat (refine intsDead_updB rfl ?_)); exact intsDead_nil)
      | (refine callT_ofN (within_c _ _) ?_)
      | (refine callU_of (within_c _ _) rfl ?_)
      | (refine callU_ofN (within_c _ _) rfl ?_)
      | (simp only [go_sem, ↓reduceIte, hres, h1])
      | (refine And.intro ?ho ?_; (case ho => omega))
      | (clear hK; clear K))
    exact bool_eq (by simp [rightC, h1])
  by_cases h2 : c.f ≤ c.u
  rotate_left
  · repeat (first
      | (refine hK _ ?_; clear hK; clear K)
      | (refine aSeq fun K hK => ?_)
      | (refine aBlock ?_)
      | (refine aSkip ?_)
      | (refine aExit ?_)
      | (refine aRet ?_)
      | (refine aOps _ rfl (by kernel_rfl) ?_)
      | (refine aRunK _ rfl mixed (by kernel_rfl) (by kernel_rfl) fun KE hE => ?_)
      | (refine hE _ _ (by kernel_rfl) (intsOk_no rfl) ?_; clear hE; clear KE)
      | (refine hE _ _ (by kernel_rfl) (intsOk_yes ?hi ?hj) ?_; (case hi => (repeat (refine intsDead_updB rfl ?_)); exact intsDead_nil); (case hj => simp); clear hE; clear KE)
      | (refine aCondT rfl ?hc ?_; case hc => simp only [go_sem, ↓reduceIte, hres, h1, h2])
      | (refine aCondF rfl ?hc ?_; case hc => simp only [go_sem, ↓reduceIte, hres, h1, h2])
      | (refine callT_of (within_c _ _) ?_ ?_; rotate_left; (repeat (refine intsDead_updB rfl ?_)); exact intsDead_nil)
      | (refine callT_ofN (within_c _ _) ?_)
      | (refine callU_of (within_c _ _) rfl ?_)
      | (refine callU_ofN (within_c _ _) rfl ?_)
      | (simp only [go_sem, ↓reduceIte, hres, h1, h2])
      | (refine And.intro ?ho ?_; (case ho => omega))
      | (clear hK; clear K))
    exact bool_eq (by simp [rightC, h1, h2])
  by_cases h3 : c.u ≤ 100000
  rotate_left
  · repeat (first
      | (refine hK _ ?_; clear hK; clear K)
      | (refine aSeq fun K hK => ?_)
      | (refine aBlock ?_)
      | (refine aSkip ?_)
      | (refine aExit ?_)
      | (refine aRet ?_)
      | (refine aOps _ rfl (by kernel_rfl) ?_)
      | (refine aRunK _ rfl mixed (by kernel_rfl) (by kernel_rfl) fun KE hE => ?_)
      | (refine hE _ _ (by kernel_rfl) (intsOk_no rfl) ?_; clear hE; clear KE)
      | (refine hE _ _ (by kernel_rfl) (intsOk_yes ?hi ?hj) ?_; (case hi => (repeat (refine intsDead_updB rfl ?_)); exact intsDead_nil); (case hj => simp); clear hE; clear KE)
      | (refine aCondT rfl ?hc ?_; case hc => simp only [go_sem, ↓reduceIte, hres, h1, h2, h3])
      | (refine aCondF rfl ?hc ?_; case hc => simp only [go_sem, ↓reduceIte, hres, h1, h2, h3])
      | (refine callT_of (within_c _ _) ?_ ?_; rotate_left; (repeat (refine intsDead_updB rfl ?_)); exact intsDead_nil)
      | (refine callT_ofN (within_c _ _) ?_)
      | (refine callU_of (within_c _ _) rfl ?_)
      | (refine callU_ofN (within_c _ _) rfl ?_)
      | (simp only [go_sem, ↓reduceIte, hres, h1, h2, h3])
      | (refine And.intro ?ho ?_; (case ho => omega))
      | (clear hK; clear K))
    exact bool_eq (by simp [rightC, h1, h2, h3])
  by_cases h4 : inB c.s 0 29 = true
  rotate_left
  · repeat (first
      | (refine hK _ ?_; clear hK; clear K)
      | (refine aSeq fun K hK => ?_)
      | (refine aBlock ?_)
      | (refine aSkip ?_)
      | (refine aExit ?_)
      | (refine aRet ?_)
      | (refine aOps _ rfl (by kernel_rfl) ?_)
      | (refine aRunK _ rfl mixed (by kernel_rfl) (by kernel_rfl) fun KE hE => ?_)
      | (refine hE _ _ (by kernel_rfl) (intsOk_no rfl) ?_; clear hE; clear KE)
      | (refine hE _ _ (by kernel_rfl) (intsOk_yes ?hi ?hj) ?_; (case hi => (repeat (refine intsDead_updB rfl ?_)); exact intsDead_nil); (case hj => simp); clear hE; clear KE)
      | (refine aCondT rfl ?hc ?_; case hc => simp only [go_sem, ↓reduceIte, hres, h1, h2, h3, h4])
      | (refine aCondF rfl ?hc ?_; case hc => simp only [go_sem, ↓reduceIte, hres, h1, h2, h3, h4])
      | (refine callT_of (within_c _ _) ?_ ?_; rotate_left; (repeat (refine intsDead_updB rfl ?_)); exact intsDead_nil)
      | (refine callT_ofN (within_c _ _) ?_)
      | (refine callU_of (within_c _ _) rfl ?_)
      | (refine callU_ofN (within_c _ _) rfl ?_)
      | (simp only [go_sem, ↓reduceIte, hres, h1, h2, h3, h4])
      | (refine And.intro ?ho ?_; (case ho => omega))
      | (clear hK; clear K))
    exact bool_eq (by simp [rightC, h1, h2, h3, h4])
  by_cases h5 : inB c.g 0 1099511627776 = true
  rotate_left
  · repeat (first
      | (refine hK _ ?_; clear hK; clear K)
      | (refine aSeq fun K hK => ?_)
      | (refine aBlock ?_)
      | (refine aSkip ?_)
      | (refine aExit ?_)
      | (refine aRet ?_)
      | (refine aOps _ rfl (by kernel_rfl) ?_)
      | (refine aRunK _ rfl mixed (by kernel_rfl) (by kernel_rfl) fun KE hE => ?_)
      | (refine hE _ _ (by kernel_rfl) (intsOk_no rfl) ?_; clear hE; clear KE)
      | (refine hE _ _ (by kernel_rfl) (intsOk_yes ?hi ?hj) ?_; (case hi => (repeat (refine intsDead_updB rfl ?_)); exact intsDead_nil); (case hj => simp); clear hE; clear KE)
      | (refine aCondT rfl ?hc ?_; case hc => simp only [go_sem, ↓reduceIte, hres, h1, h2, h3, h4, h5])
      | (refine aCondF rfl ?hc ?_; case hc => simp only [go_sem, ↓reduceIte, hres, h1, h2, h3, h4, h5])
      | (refine callT_of (within_c _ _) ?_ ?_; rotate_left; (repeat (refine intsDead_updB rfl ?_)); exact intsDead_nil)
      | (refine callT_ofN (within_c _ _) ?_)
      | (refine callU_of (within_c _ _) rfl ?_)
      | (refine callU_ofN (within_c _ _) rfl ?_)
      | (simp only [go_sem, ↓reduceIte, hres, h1, h2, h3, h4, h5])
      | (refine And.intro ?ho ?_; (case ho => omega))
      | (clear hK; clear K))
    exact bool_eq (by simp [rightC, h1, h2, h3, h4, h5])
  by_cases h6 : inB c.p 0 1000 = true
  rotate_left
  · repeat (first
      | (refine hK _ ?_; clear hK; clear K)
      | (refine aSeq fun K hK => ?_)
      | (refine aBlock ?_)
      | (refine aSkip ?_)
      | (refine aExit ?_)
      | (refine aRet ?_)
      | (refine aOps _ rfl (by kernel_rfl) ?_)
      | (refine aRunK _ rfl mixed (by kernel_rfl) (by kernel_rfl) fun KE hE => ?_)
      | (refine hE _ _ (by kernel_rfl) (intsOk_no rfl) ?_; clear hE; clear KE)
      | (refine hE _ _ (by kernel_rfl) (intsOk_yes ?hi ?hj) ?_; (case hi => (repeat (refine intsDead_updB rfl ?_)); exact intsDead_nil); (case hj => simp); clear hE; clear KE)
      | (refine aCondT rfl ?hc ?_; case hc => simp only [go_sem, ↓reduceIte, hres, h1, h2, h3, h4, h5, h6])
      | (refine aCondF rfl ?hc ?_; case hc => simp only [go_sem, ↓reduceIte, hres, h1, h2, h3, h4, h5, h6])
      | (refine callT_of (within_c _ _) ?_ ?_; rotate_left; (repeat (refine intsDead_updB rfl ?_)); exact intsDead_nil)
      | (refine callT_ofN (within_c _ _) ?_)
      | (refine callU_of (within_c _ _) rfl ?_)
      | (refine callU_ofN (within_c _ _) rfl ?_)
      | (simp only [go_sem, ↓reduceIte, hres, h1, h2, h3, h4, h5, h6])
      | (refine And.intro ?ho ?_; (case ho => omega))
      | (clear hK; clear K))
    exact bool_eq (by simp [rightC, h1, h2, h3, h4, h5, h6])
  by_cases h7 : inB c.d 0 10000000 = true
  rotate_left
  · repeat (first
      | (refine hK _ ?_; clear hK; clear K)
      | (refine aSeq fun K hK => ?_)
      | (refine aBlock ?_)
      | (refine aSkip ?_)
      | (refine aExit ?_)
      | (refine aRet ?_)
      | (refine aOps _ rfl (by kernel_rfl) ?_)
      | (refine aRunK _ rfl mixed (by kernel_rfl) (by kernel_rfl) fun KE hE => ?_)
      | (refine hE _ _ (by kernel_rfl) (intsOk_no rfl) ?_; clear hE; clear KE)
      | (refine hE _ _ (by kernel_rfl) (intsOk_yes ?hi ?hj) ?_; (case hi => (repeat (refine intsDead_updB rfl ?_)); exact intsDead_nil); (case hj => simp); clear hE; clear KE)
      | (refine aCondT rfl ?hc ?_; case hc => simp only [go_sem, ↓reduceIte, hres, h1, h2, h3, h4, h5, h6, h7])
      | (refine aCondF rfl ?hc ?_; case hc => simp only [go_sem, ↓reduceIte, hres, h1, h2, h3, h4, h5, h6, h7])
      | (refine callT_of (within_c _ _) ?_ ?_; rotate_left; (repeat (refine intsDead_updB rfl ?_)); exact intsDead_nil)
      | (refine callT_ofN (within_c _ _) ?_)
      | (refine callU_of (within_c _ _) rfl ?_)
      | (refine callU_ofN (within_c _ _) rfl ?_)
      | (simp only [go_sem, ↓reduceIte, hres, h1, h2, h3, h4, h5, h6, h7])
      | (refine And.intro ?ho ?_; (case ho => omega))
      | (clear hK; clear K))
    exact bool_eq (by simp [rightC, h1, h2, h3, h4, h5, h6, h7])
  repeat (first
      | (refine hK _ ?_; clear hK; clear K)
      | (refine aSeq fun K hK => ?_)
      | (refine aBlock ?_)
      | (refine aSkip ?_)
      | (refine aExit ?_)
      | (refine aRet ?_)
      | (refine aOps _ rfl (by kernel_rfl) ?_)
      | (refine aRunK _ rfl mixed (by kernel_rfl) (by kernel_rfl) fun KE hE => ?_)
      | (refine hE _ _ (by kernel_rfl) (intsOk_no rfl) ?_; clear hE; clear KE)
      | (refine hE _ _ (by kernel_rfl) (intsOk_yes ?hi ?hj) ?_; (case hi => (repeat (refine intsDead_updB rfl ?_)); exact intsDead_nil); (case hj => simp); clear hE; clear KE)
      | (refine aCondT rfl ?hc ?_; case hc => simp only [go_sem, ↓reduceIte, hres, h1, h2, h3, h4, h5, h6, h7])
      | (refine aCondF rfl ?hc ?_; case hc => simp only [go_sem, ↓reduceIte, hres, h1, h2, h3, h4, h5, h6, h7])
      | (refine callT_of (within_c _ _) ?_ ?_; rotate_left; (repeat (refine intsDead_updB rfl ?_)); exact intsDead_nil)
      | (refine callT_ofN (within_c _ _) ?_)
      | (refine callU_of (within_c _ _) rfl ?_)
      | (refine callU_ofN (within_c _ _) rfl ?_)
      | (simp only [go_sem, ↓reduceIte, hres, h1, h2, h3, h4, h5, h6, h7])
      | (refine And.intro ?ho ?_; (case ho => omega))
      | (clear hK; clear K))
  exact bool_eq (by simp [rightC, h1, h2, h3, h4, h5, h6, h7])
theorem rright13_c (c : CertD) : ContractN Try.prog 24 [encC c] (dB (rightC c)) := by
  refine Contract.toN ?_ rfl
  refine Contract.ofA (CallA.inline Try.func24 rfl (by kernel_rfl) (by kernel_rfl) (by kernel_rfl) ?_)
  rw [Try.ntmps24]
  have hres := Try.results24
  by_cases h4 : inB c.s 0 29 = true
  rotate_left
  · repeat (first
      | (refine hK _ ?_; clear hK; clear K)
      | (refine aSeq fun K hK => ?_)
      | (refine aBlock ?_)
      | (refine aSkip ?_)
      | (refine aExit ?_)
      | (refine aRet ?_)
      | (refine aOps _ rfl (by kernel_rfl) ?_)
      | (refine aRunK _ rfl mixed (by kernel_rfl) (by kernel_rfl) fun KE hE => ?_)
      | (refine hE _ _ (by kernel_rfl) (intsOk_no rfl) ?_; clear hE; clear KE)
      | (refine hE _ _ (by kernel_rfl) (intsOk_yes ?hi ?hj) ?_; (case hi => (repeat (refine intsDead_updB rfl ?_)); exact intsDead_nil); (case hj => simp); clear hE; clear KE)
      | (refine aCondT rfl ?hc ?_; case hc => simp only [go_sem, ↓reduceIte, hres, h4])
      | (refine aCondF rfl ?hc ?_; case hc => simp only [go_sem, ↓reduceIte, hres, h4])
      | (refine callT_of (rin_c _ _ _) ?_ ?_; rotate_left; (repeat (refine intsDead_updB rfl ?_)); exact intsDead_nil)
      | (refine callT_ofN (rin_c _ _ _) ?_)
      | (refine callU_of (rin_c _ _ _) rfl ?_)
      | (refine callU_ofN (rin_c _ _ _) rfl ?_)
      | (simp only [go_sem, ↓reduceIte, hres, h4])
      | (refine And.intro ?ho ?_; (case ho => omega))
      | (clear hK; clear K))
    exact bool_eq (by simp [rightC, h4])
  by_cases h1 : c.f ≥ 0
  rotate_left
  · repeat (first
      | (refine hK _ ?_; clear hK; clear K)
      | (refine aSeq fun K hK => ?_)
      | (refine aBlock ?_)
      | (refine aSkip ?_)
      | (refine aExit ?_)
      | (refine aRet ?_)
      | (refine aOps _ rfl (by kernel_rfl) ?_)
      | (refine aRunK _ rfl mixed (by kernel_rfl) (by kernel_rfl) fun KE hE => ?_)
      | (refine hE _ _ (by kernel_rfl) (intsOk_no rfl) ?_; clear hE; clear KE)
      | (refine hE _ _ (by kernel_rfl) (intsOk_yes ?hi ?hj) ?_; (case hi => (repeat (refine intsDead_updB rfl ?_)); exact intsDead_nil); (case hj => simp); clear hE; clear KE)
      | (refine aCondT rfl ?hc ?_; case hc => simp only [go_sem, ↓reduceIte, hres, h4, h1])
      | (refine aCondF rfl ?hc ?_; case hc => simp only [go_sem, ↓reduceIte, hres, h4, h1])
      | (refine callT_of (rin_c _ _ _) ?_ ?_; rotate_left; (repeat (refine intsDead_updB rfl ?_)); exact intsDead_nil)
      | (refine callT_ofN (rin_c _ _ _) ?_)
      | (refine callU_of (rin_c _ _ _) rfl ?_)
      | (refine callU_ofN (rin_c _ _ _) rfl ?_)
      | (simp only [go_sem, ↓reduceIte, hres, h4, h1])
      | (refine And.intro ?ho ?_; (case ho => omega))
      | (clear hK; clear K))
    exact bool_eq (by simp [rightC, h4, h1])
  by_cases h2 : c.f ≤ c.u
  rotate_left
  · repeat (first
      | (refine hK _ ?_; clear hK; clear K)
      | (refine aSeq fun K hK => ?_)
      | (refine aBlock ?_)
      | (refine aSkip ?_)
      | (refine aExit ?_)
      | (refine aRet ?_)
      | (refine aOps _ rfl (by kernel_rfl) ?_)
      | (refine aRunK _ rfl mixed (by kernel_rfl) (by kernel_rfl) fun KE hE => ?_)
      | (refine hE _ _ (by kernel_rfl) (intsOk_no rfl) ?_; clear hE; clear KE)
      | (refine hE _ _ (by kernel_rfl) (intsOk_yes ?hi ?hj) ?_; (case hi => (repeat (refine intsDead_updB rfl ?_)); exact intsDead_nil); (case hj => simp); clear hE; clear KE)
      | (refine aCondT rfl ?hc ?_; case hc => simp only [go_sem, ↓reduceIte, hres, h4, h1, h2])
      | (refine aCondF rfl ?hc ?_; case hc => simp only [go_sem, ↓reduceIte, hres, h4, h1, h2])
      | (refine callT_of (rin_c _ _ _) ?_ ?_; rotate_left; (repeat (refine intsDead_updB rfl ?_)); exact intsDead_nil)
      | (refine callT_ofN (rin_c _ _ _) ?_)
      | (refine callU_of (rin_c _ _ _) rfl ?_)
      | (refine callU_ofN (rin_c _ _ _) rfl ?_)
      | (simp only [go_sem, ↓reduceIte, hres, h4, h1, h2])
      | (refine And.intro ?ho ?_; (case ho => omega))
      | (clear hK; clear K))
    exact bool_eq (by simp [rightC, h4, h1, h2])
  by_cases h3 : c.u ≤ 100000
  rotate_left
  · repeat (first
      | (refine hK _ ?_; clear hK; clear K)
      | (refine aSeq fun K hK => ?_)
      | (refine aBlock ?_)
      | (refine aSkip ?_)
      | (refine aExit ?_)
      | (refine aRet ?_)
      | (refine aOps _ rfl (by kernel_rfl) ?_)
      | (refine aRunK _ rfl mixed (by kernel_rfl) (by kernel_rfl) fun KE hE => ?_)
      | (refine hE _ _ (by kernel_rfl) (intsOk_no rfl) ?_; clear hE; clear KE)
      | (refine hE _ _ (by kernel_rfl) (intsOk_yes ?hi ?hj) ?_; (case hi => (repeat (refine intsDead_updB rfl ?_)); exact intsDead_nil); (case hj => simp); clear hE; clear KE)
      | (refine aCondT rfl ?hc ?_; case hc => simp only [go_sem, ↓reduceIte, hres, h4, h1, h2, h3])
      | (refine aCondF rfl ?hc ?_; case hc => simp only [go_sem, ↓reduceIte, hres, h4, h1, h2, h3])
      | (refine callT_of (rin_c _ _ _) ?_ ?_; rotate_left; (repeat (refine intsDead_updB rfl ?_)); exact intsDead_nil)
      | (refine callT_ofN (rin_c _ _ _) ?_)
      | (refine callU_of (rin_c _ _ _) rfl ?_)
      | (refine callU_ofN (rin_c _ _ _) rfl ?_)
      | (simp only [go_sem, ↓reduceIte, hres, h4, h1, h2, h3])
      | (refine And.intro ?ho ?_; (case ho => omega))
      | (clear hK; clear K))
    exact bool_eq (by simp [rightC, h4, h1, h2, h3])
  by_cases h5 : inB c.g 0 1099511627776 = true
  rotate_left
  · repeat (first
      | (refine hK _ ?_; clear hK; clear K)
      | (refine aSeq fun K hK => ?_)
      | (refine aBlock ?_)
      | (refine aSkip ?_)
      | (refine aExit ?_)
      | (refine aRet ?_)
      | (refine aOps _ rfl (by kernel_rfl) ?_)
      | (refine aRunK _ rfl mixed (by kernel_rfl) (by kernel_rfl) fun KE hE => ?_)
      | (refine hE _ _ (by kernel_rfl) (intsOk_no rfl) ?_; clear hE; clear KE)
      | (refine hE _ _ (by kernel_rfl) (intsOk_yes ?hi ?hj) ?_; (case hi => (repeat (refine intsDead_updB rfl ?_)); exact intsDead_nil); (case hj => simp); clear hE; clear KE)
      | (refine aCondT rfl ?hc ?_; case hc => simp only [go_sem, ↓reduceIte, hres, h4, h1, h2, h3, h5])
      | (refine aCondF rfl ?hc ?_; case hc => simp only [go_sem, ↓reduceIte, hres, h4, h1, h2, h3, h5])
      | (refine callT_of (rin_c _ _ _) ?_ ?_; rotate_left; (repeat (refine intsDead_updB rfl ?_)); exact intsDead_nil)
      | (refine callT_ofN (rin_c _ _ _) ?_)
      | (refine callU_of (rin_c _ _ _) rfl ?_)
      | (refine callU_ofN (rin_c _ _ _) rfl ?_)
      | (simp only [go_sem, ↓reduceIte, hres, h4, h1, h2, h3, h5])
      | (refine And.intro ?ho ?_; (case ho => omega))
      | (clear hK; clear K))
    exact bool_eq (by simp [rightC, h4, h1, h2, h3, h5])
  by_cases h6 : inB c.p 0 1000 = true
  rotate_left
  · repeat (first
      | (refine hK _ ?_; clear hK; clear K)
      | (refine aSeq fun K hK => ?_)
      | (refine aBlock ?_)
      | (refine aSkip ?_)
      | (refine aExit ?_)
      | (refine aRet ?_)
      | (refine aOps _ rfl (by kernel_rfl) ?_)
      | (refine aRunK _ rfl mixed (by kernel_rfl) (by kernel_rfl) fun KE hE => ?_)
      | (refine hE _ _ (by kernel_rfl) (intsOk_no rfl) ?_; clear hE; clear KE)
      | (refine hE _ _ (by kernel_rfl) (intsOk_yes ?hi ?hj) ?_; (case hi => (repeat (refine intsDead_updB rfl ?_)); exact intsDead_nil); (case hj => simp); clear hE; clear KE)
      | (refine aCondT rfl ?hc ?_; case hc => simp only [go_sem, ↓reduceIte, hres, h4, h1, h2, h3, h5, h6])
      | (refine aCondF rfl ?hc ?_; case hc => simp only [go_sem, ↓reduceIte, hres, h4, h1, h2, h3, h5, h6])
      | (refine callT_of (rin_c _ _ _) ?_ ?_; rotate_left; (repeat (refine intsDead_updB rfl ?_)); exact intsDead_nil)
      | (refine callT_ofN (rin_c _ _ _) ?_)
      | (refine callU_of (rin_c _ _ _) rfl ?_)
      | (refine callU_ofN (rin_c _ _ _) rfl ?_)
      | (simp only [go_sem, ↓reduceIte, hres, h4, h1, h2, h3, h5, h6])
      | (refine And.intro ?ho ?_; (case ho => omega))
      | (clear hK; clear K))
    exact bool_eq (by simp [rightC, h4, h1, h2, h3, h5, h6])
  by_cases h7 : inB c.d 0 10000000 = true
  rotate_left
  · repeat (first
      | (refine hK _ ?_; clear hK; clear K)
      | (refine aSeq fun K hK => ?_)
      | (refine aBlock ?_)
      | (refine aSkip ?_)
      | (refine aExit ?_)
      | (refine aRet ?_)
      | (refine aOps _ rfl (by kernel_rfl) ?_)
      | (refine aRunK _ rfl mixed (by kernel_rfl) (by kernel_rfl) fun KE hE => ?_)
      | (refine hE _ _ (by kernel_rfl) (intsOk_no rfl) ?_; clear hE; clear KE)
      | (refine hE _ _ (by kernel_rfl) (intsOk_yes ?hi ?hj) ?_; (case hi => (repeat (refine intsDead_updB rfl ?_)); exact intsDead_nil); (case hj => simp); clear hE; clear KE)
      | (refine aCondT rfl ?hc ?_; case hc => simp only [go_sem, ↓reduceIte, hres, h4, h1, h2, h3, h5, h6, h7])
      | (refine aCondF rfl ?hc ?_; case hc => simp only [go_sem, ↓reduceIte, hres, h4, h1, h2, h3, h5, h6, h7])
      | (refine callT_of (rin_c _ _ _) ?_ ?_; rotate_left; (repeat (refine intsDead_updB rfl ?_)); exact intsDead_nil)
      | (refine callT_ofN (rin_c _ _ _) ?_)
      | (refine callU_of (rin_c _ _ _) rfl ?_)
      | (refine callU_ofN (rin_c _ _ _) rfl ?_)
      | (simp only [go_sem, ↓reduceIte, hres, h4, h1, h2, h3, h5, h6, h7])
      | (refine And.intro ?ho ?_; (case ho => omega))
      | (clear hK; clear K))
    exact bool_eq (by simp [rightC, h4, h1, h2, h3, h5, h6, h7])
  repeat (first
      | (refine hK _ ?_; clear hK; clear K)
      | (refine aSeq fun K hK => ?_)
      | (refine aBlock ?_)
      | (refine aSkip ?_)
      | (refine aExit ?_)
      | (refine aRet ?_)
      | (refine aOps _ rfl (by kernel_rfl) ?_)
      | (refine aRunK _ rfl mixed (by kernel_rfl) (by kernel_rfl) fun KE hE => ?_)
      | (refine hE _ _ (by kernel_rfl) (intsOk_no rfl) ?_; clear hE; clear KE)
      | (refine hE _ _ (by kernel_rfl) (intsOk_yes ?hi ?hj) ?_; (case hi => (repeat (refine intsDead_updB rfl ?_)); exact intsDead_nil); (case hj => simp); clear hE; clear KE)
      | (refine aCondT rfl ?hc ?_; case hc => simp only [go_sem, ↓reduceIte, hres, h4, h1, h2, h3, h5, h6, h7])
      | (refine aCondF rfl ?hc ?_; case hc => simp only [go_sem, ↓reduceIte, hres, h4, h1, h2, h3, h5, h6, h7])
      | (refine callT_of (rin_c _ _ _) ?_ ?_; rotate_left; (repeat (refine intsDead_updB rfl ?_)); exact intsDead_nil)
      | (refine callT_ofN (rin_c _ _ _) ?_)
      | (refine callU_of (rin_c _ _ _) rfl ?_)
      | (refine callU_ofN (rin_c _ _ _) rfl ?_)
      | (simp only [go_sem, ↓reduceIte, hres, h4, h1, h2, h3, h5, h6, h7])
      | (refine And.intro ?ho ?_; (case ho => omega))
      | (clear hK; clear K))
  exact bool_eq (by simp [rightC, h4, h1, h2, h3, h5, h6, h7])
theorem covers_c (c : CertD) (day : Int) : ContractN Try.prog 61 [encC c, dI day] (dB (coversC c day)) := by
  refine Contract.toN ?_ rfl
  refine Contract.ofA (CallA.inline Try.func61 rfl (by kernel_rfl) (by kernel_rfl) (by kernel_rfl) ?_)
  rw [Try.ntmps61]
  have hres := Try.results61
  by_cases h1 : rightC c = true
  rotate_left
  · repeat (first
      | (refine hK _ ?_; clear hK; clear K)
      | (refine aSeq fun K hK => ?_)
      | (refine aBlock ?_)
      | (refine aSkip ?_)
      | (refine aExit ?_)
      | (refine aRet ?_)
      | (refine aOps _ rfl (by kernel_rfl) ?_)
      | (refine aRunK _ rfl mixed (by kernel_rfl) (by kernel_rfl) fun KE hE => ?_)
      | (refine hE _ _ (by kernel_rfl) (intsOk_no rfl) ?_; clear hE; clear KE)
      | (refine hE _ _ (by kernel_rfl) (intsOk_yes ?hi ?hj) ?_; (case hi => (repeat (refine intsDead_updB rfl ?_)); exact intsDead_nil); (case hj => simp); clear hE; clear KE)
      | (refine aCondT rfl ?hc ?_; case hc => simp only [go_sem, ↓reduceIte, hres, h1])
      | (refine aCondF rfl ?hc ?_; case hc => simp only [go_sem, ↓reduceIte, hres, h1])
      | (refine callT_of (sright_c c) ?_ ?_; rotate_left; (repeat (refine intsDead_updB rfl ?_)); exact intsDead_nil)
      | (refine callT_ofN (sright_c c) ?_)
      | (refine callU_of (sright_c c) rfl ?_)
      | (refine callU_ofN (sright_c c) rfl ?_)
      | (simp only [go_sem, ↓reduceIte, hres, h1])
      | (refine And.intro ?ho ?_; (case ho => omega))
      | (clear hK; clear K))
    exact bool_eq (by simp [coversC, h1])
  by_cases h2 : c.f ≤ day
  rotate_left
  · repeat (first
      | (refine hK _ ?_; clear hK; clear K)
      | (refine aSeq fun K hK => ?_)
      | (refine aBlock ?_)
      | (refine aSkip ?_)
      | (refine aExit ?_)
      | (refine aRet ?_)
      | (refine aOps _ rfl (by kernel_rfl) ?_)
      | (refine aRunK _ rfl mixed (by kernel_rfl) (by kernel_rfl) fun KE hE => ?_)
      | (refine hE _ _ (by kernel_rfl) (intsOk_no rfl) ?_; clear hE; clear KE)
      | (refine hE _ _ (by kernel_rfl) (intsOk_yes ?hi ?hj) ?_; (case hi => (repeat (refine intsDead_updB rfl ?_)); exact intsDead_nil); (case hj => simp); clear hE; clear KE)
      | (refine aCondT rfl ?hc ?_; case hc => simp only [go_sem, ↓reduceIte, hres, h1, h2])
      | (refine aCondF rfl ?hc ?_; case hc => simp only [go_sem, ↓reduceIte, hres, h1, h2])
      | (refine callT_of (sright_c c) ?_ ?_; rotate_left; (repeat (refine intsDead_updB rfl ?_)); exact intsDead_nil)
      | (refine callT_ofN (sright_c c) ?_)
      | (refine callU_of (sright_c c) rfl ?_)
      | (refine callU_ofN (sright_c c) rfl ?_)
      | (simp only [go_sem, ↓reduceIte, hres, h1, h2])
      | (refine And.intro ?ho ?_; (case ho => omega))
      | (clear hK; clear K))
    exact bool_eq (by simp [coversC, h1, h2])
  by_cases h3 : day ≤ c.u
  rotate_left
  · repeat (first
      | (refine hK _ ?_; clear hK; clear K)
      | (refine aSeq fun K hK => ?_)
      | (refine aBlock ?_)
      | (refine aSkip ?_)
      | (refine aExit ?_)
      | (refine aRet ?_)
      | (refine aOps _ rfl (by kernel_rfl) ?_)
      | (refine aRunK _ rfl mixed (by kernel_rfl) (by kernel_rfl) fun KE hE => ?_)
      | (refine hE _ _ (by kernel_rfl) (intsOk_no rfl) ?_; clear hE; clear KE)
      | (refine hE _ _ (by kernel_rfl) (intsOk_yes ?hi ?hj) ?_; (case hi => (repeat (refine intsDead_updB rfl ?_)); exact intsDead_nil); (case hj => simp); clear hE; clear KE)
      | (refine aCondT rfl ?hc ?_; case hc => simp only [go_sem, ↓reduceIte, hres, h1, h2, h3])
      | (refine aCondF rfl ?hc ?_; case hc => simp only [go_sem, ↓reduceIte, hres, h1, h2, h3])
      | (refine callT_of (sright_c c) ?_ ?_; rotate_left; (repeat (refine intsDead_updB rfl ?_)); exact intsDead_nil)
      | (refine callT_ofN (sright_c c) ?_)
      | (refine callU_of (sright_c c) rfl ?_)
      | (refine callU_ofN (sright_c c) rfl ?_)
      | (simp only [go_sem, ↓reduceIte, hres, h1, h2, h3])
      | (refine And.intro ?ho ?_; (case ho => omega))
      | (clear hK; clear K))
    exact bool_eq (by simp [coversC, h1, h2, h3])
  repeat (first
      | (refine hK _ ?_; clear hK; clear K)
      | (refine aSeq fun K hK => ?_)
      | (refine aBlock ?_)
      | (refine aSkip ?_)
      | (refine aExit ?_)
      | (refine aRet ?_)
      | (refine aOps _ rfl (by kernel_rfl) ?_)
      | (refine aRunK _ rfl mixed (by kernel_rfl) (by kernel_rfl) fun KE hE => ?_)
      | (refine hE _ _ (by kernel_rfl) (intsOk_no rfl) ?_; clear hE; clear KE)
      | (refine hE _ _ (by kernel_rfl) (intsOk_yes ?hi ?hj) ?_; (case hi => (repeat (refine intsDead_updB rfl ?_)); exact intsDead_nil); (case hj => simp); clear hE; clear KE)
      | (refine aCondT rfl ?hc ?_; case hc => simp only [go_sem, ↓reduceIte, hres, h1, h2, h3])
      | (refine aCondF rfl ?hc ?_; case hc => simp only [go_sem, ↓reduceIte, hres, h1, h2, h3])
      | (refine callT_of (sright_c c) ?_ ?_; rotate_left; (repeat (refine intsDead_updB rfl ?_)); exact intsDead_nil)
      | (refine callT_ofN (sright_c c) ?_)
      | (refine callU_of (sright_c c) rfl ?_)
      | (refine callU_ofN (sright_c c) rfl ?_)
      | (simp only [go_sem, ↓reduceIte, hres, h1, h2, h3])
      | (refine And.intro ?ho ?_; (case ho => omega))
      | (clear hK; clear K))
  exact bool_eq (by simp [coversC, h1, h2, h3])
end Go.Proofs.Ytenmlcpbjjlokaa

/-
  Which certificate is in force: Find of scale and of the reference.
-/
namespace Go.Proofs.Ytenmlcpbjjlokaa
set_option linter.unusedVariables false
set_option linter.unusedSimpArgs false
open Go Go.RowKit
attribute [local go_sem] opsL_nil opsL_go opsL_guard gSel_tt gSel_ff gSel_tf gSel_ft stepR_some stepR_none callS_some callE_some runL_nil runL_go runL_guard gSelE_tt gSelE_ff gSelE_tf gSelE_ft stepE_some stepE_none opF callD rd constD putT upd_get guardL gOf_bool gOf_undef fieldAddrF fieldF loadF storeF indexAddrF indexF sliceF strSliceF bound buildF fillF buildSliceF elemsF allocF makeSliceF lenF elemsOf appendF minmaxF convertF boxF ldE blkAt spliceE D.cells? D.isCell Res.pure ov TyI.agg binD unD boolD initT thenA inBlockA argD argDs refsD refsL killW datJ datJs endA_ret endA_normal endR_some oneD_one oneD_two oneD_three oneD_four resDs resD fzT Value.oneCell' strip tabT tabM
attribute [local go_sem] List.map Nat.reduceEqDiff Nat.reduceBEq List.getElem?_cons_zero List.getElem?_cons_succ List.getElem?_nil Option.getD_some Option.getD_none true_and and_true true_or or_true false_or or_false and_self Nat.add_zero Nat.zero_add List.length_nil List.length_cons forall_const ite_true ite_false Bool.or_self Bool.false_eq_true Option.map_some Option.map_none beq_self_eq_true Nat.reduceAdd Nat.reduceSub Nat.reduceMul reduceCtorEq List.getElem?_toArray Bool.not_true Bool.not_false decide_eq_true_eq decide_true decide_false Nat.reduceLeDiff Nat.reduceLT Bool.or_false Bool.or_true Bool.and_true Bool.and_false Bool.false_and Bool.true_and Bool.true_beq Bool.false_beq beq_true beq_false Bool.not_eq_true List.drop_succ_cons List.take_succ_cons List.drop_zero List.take_zero List.length_map List.getElem?_map List.length_append List.all_cons List.all_nil List.append_nil List.nil_append List.cons_append List.set_cons_zero List.set_cons_succ Int.toNat_natCast Int.toNat_zero Option.isSome_some Option.isSome_none Array.size_empty ByteArray.size_empty Int.reduceToNat Int.reduceAdd Int.reduceSub Int.reduceLT Int.reduceLE Int.reduceEq Int.reduceNe Int.reduceBEq Int.reduceNeg List.forall_mem_cons List.not_mem_nil false_implies List.forall_mem_map implies_true Nat.reduceBNe Int.cast_ofNat_Int Int.reduceMul Int.reduceGE Int.reduceGT wrap_in ty_2 ty_3 ty_4 ty_5 ty_6 ty_7 ty_8 ty_9 ty_10 ty_11 ty_12 ty_13 ty_14 ty_18 ty_19 ty_21 ty_22 ty_23 ty_24 ty_25 ty_30 ty_31 ty_32 ty_33 ty_34 ty_44 ty_51 ty_52 ty_54 ty_55 ty_56 ty_57 ty_58 ty_74 ty_75 ty_78 ty_93 ty_94 ty_121 ty_122 ty_131 ty_132 ty_133 ty_134 ty_135 ty_137 ty_138 ty_139 ty_142 ty_143 ty_144 ty_145
set_option maxRecDepth 100000
set_option maxHeartbeats 1000000

def ownC (c : CertD) (s day : Int) : Bool := c.s == s && coversC c day
/-- Whether the certificate number k takes the place of the one in force. -/
def takesC (l : List CertD) (o : Option Nat) (c : CertD) : Bool := match o with
  | none => true
  | some b => match l[b]? with
    | some x => decide (c.f ≥ x.f)
    | none => true
/-- The certificate in force among the first ones. -/
def findN (l : List CertD) (s day : Int) : Nat → Option Nat
  | 0 => none
  | k + 1 => match l[k]? with
    | none => findN l s day k
    | some c => if ownC c s day && takesC l (findN l s day k) c then some k else findN l s day k
def findC (l : List CertD) (s day : Int) : Option Nat := findN l s day l.length

section
variable {l : List CertD} {s day : Int} {k b : Nat} {c x : CertD}
theorem findN_not (hx : l[k]? = some c) (h : ownC c s day = false) : findN l s day (k + 1) = findN l s day k := by simp [findN, hx, h]
theorem findN_take (hx : l[k]? = some c) (h : ownC c s day = true) (ht : takesC l (findN l s day k) c = true) : findN l s day (k + 1) = some k := by simp [findN, hx, h, ht]
theorem findN_keep (hx : l[k]? = some c) (ht : takesC l (findN l s day k) c = false) : findN l s day (k + 1) = findN l s day k := by simp [findN, hx, ht]
theorem findN_lt (k : Nat) : ∀ b, findN l s day k = some b → b < k ∧ ∃ c, l[b]? = some c ∧ ownC c s day = true := by
  induction k with
  | zero => intro b h; cases h
  | succ k ih =>
    intro b h
    unfold findN at h
    split at h
    · have := ih b h; exact ⟨by omega, this.2⟩
    · next c hc =>
      split at h
      · next hb =>
        cases h
        simp only [Bool.and_eq_true] at hb
        exact ⟨by omega, c, hc, hb.1⟩
      · have := ih b h; exact ⟨by omega, this.2⟩
end

theorem find_c (l : List CertD) (s day : Int) (hl : (l.length : Int) ≤ 1099511627776) : ContractN Try.prog 16 [encCs l, dI s, dI day] (.tup [dI ((findC l s day).getD 0), dB (findC l s day).isSome]) := by
  refine Contract.toN ?_ rfl
  refine Contract.ofA (CallA.inline Try.func16 rfl (by kernel_rfl) (by kernel_rfl) (by kernel_rfl) ?_)
  rw [Try.ntmps16]
  have hres := Try.results16
  repeat (first
      | (refine hK _ ?_; clear hK; clear K)
      | (refine aSeq fun K hK => ?_)
      | (refine aBlock ?_)
      | (refine aSkip ?_)
      | (refine aExit ?_)
      | (refine aRet ?_)
      | (refine aOps _ rfl (by kernel_rfl) ?_)
      | (refine aRunK _ rfl mixed (by kernel_rfl) (by kernel_rfl) fun KE hE => ?_)
      | (refine hE _ _ (by kernel_rfl) (intsOk_no rfl) ?_; clear hE; clear KE)
      | (refine hE _ _ (by kernel_rfl) (intsOk_yes ?hi ?hj) ?_; (case hi => (repeat (refine intsDead_updB rfl ?_)); exact intsDead_nil); (case hj => simp); clear hE; clear KE)
      | (refine aCondT rfl ?hc ?_; case hc => simp only [go_sem, ↓reduceIte, hres])
      | (refine aCondF rfl ?hc ?_; case hc => simp only [go_sem, ↓reduceIte, hres])
      | (simp only [go_sem, ↓reduceIte, hres])
      | (refine And.intro ?ho ?_; (case ho => omega))
      | (clear hK; clear K))
  refine aLoopT (fun (k : Nat) => [(0, encCs l), (1, dI s), (2, dI day), (8, dI ((findN l s day k).getD 0)), (9, dB (findN l s day k).isSome), (12, encCs l), (13, dI l.length), (14, dI k)]) (fun _ => []) 0 0 (fun k => k ≤ l.length) (fun k => l.length - k) 0 (by omega) ?_ ?_
  · refine le_head _ _ _ ?_ ?_ ?_ ?_ ?_ (.inl rfl) <;> simp [go_sem, okD, okDs, okBlk, findN] <;> (intros; first | (subst_vars; simp [okD, okDs]; done) | (rename_i h; rcases h with ⟨_, _, rfl⟩ | rfl <;> simp [okD, okDs]))
  · rintro k hk
    have hw : IntKind.i64.wrap ((k : Int) + 1) = (k : Int) + 1 := wrap_in (by omega) (by omega)
    have h0 : (0 : Int) ≤ k := by omega
    by_cases h1 : (k : Int) < l.length
    · obtain ⟨c, hx⟩ : ∃ e, l[k]? = some e := ⟨_, List.getElem?_eq_getElem (by omega)⟩
      have hcv := covers_c c day
      cases h2 : c.s == s
      · have hn := findN_not (day := day) hx (s := s) (by simp [ownC, h2])
        repeat (first
      | (refine hK _ ?_; clear hK; clear K)
      | (refine aSeq fun K hK => ?_)
      | (refine aBlock ?_)
      | (refine aSkip ?_)
      | (refine aExit ?_)
      | (refine aRet ?_)
      | (refine aOps _ rfl (by kernel_rfl) ?_)
      | (refine aRunK _ rfl mixed (by kernel_rfl) (by kernel_rfl) fun KE hE => ?_)
      | (refine hE _ _ (by kernel_rfl) (intsOk_no rfl) ?_; clear hE; clear KE)
      | (refine hE _ _ (by kernel_rfl) (intsOk_yes ?hi ?hj) ?_; (case hi => (repeat (refine intsDead_updB rfl ?_)); exact intsDead_nil); (case hj => simp); clear hE; clear KE)
      | (refine aCondT rfl ?hc ?_; case hc => simp only [go_sem, ↓reduceIte, hres, h0, h1, hx, h2, hw])
      | (refine aCondF rfl ?hc ?_; case hc => simp only [go_sem, ↓reduceIte, hres, h0, h1, hx, h2, hw])
      | (refine callT_of (hcv) ?_ ?_; rotate_left; (repeat (refine intsDead_updB rfl ?_)); exact intsDead_nil)
      | (refine callT_ofN (hcv) ?_)
      | (refine callU_of (hcv) rfl ?_)
      | (refine callU_ofN (hcv) rfl ?_)
      | (simp only [go_sem, ↓reduceIte, hres, h0, h1, hx, h2, hw])
      | (refine And.intro ?ho ?_; (case ho => omega))
      | (clear hK; clear K))
        exact loop_end (k + 1) (by omega) (by omega) (by refine le_head _ _ _ ?_ ?_ ?_ ?_ ?_ (.inl rfl) <;> simp [go_sem, okD, okDs, okBlk, hn] <;> (intros; first | (subst_vars; simp [okD, okDs]; done) | (rename_i h; rcases h with ⟨_, _, rfl⟩ | rfl <;> simp [okD, okDs])))
      cases h3 : coversC c day
      · have hn := findN_not hx (s := s) (day := day) (by simp [ownC, h3])
        rw [h3] at hcv
        repeat (first
      | (refine hK _ ?_; clear hK; clear K)
      | (refine aSeq fun K hK => ?_)
      | (refine aBlock ?_)
      | (refine aSkip ?_)
      | (refine aExit ?_)
      | (refine aRet ?_)
      | (refine aOps _ rfl (by kernel_rfl) ?_)
      | (refine aRunK _ rfl mixed (by kernel_rfl) (by kernel_rfl) fun KE hE => ?_)
      | (refine hE _ _ (by kernel_rfl) (intsOk_no rfl) ?_; clear hE; clear KE)
      | (refine hE _ _ (by kernel_rfl) (intsOk_yes ?hi ?hj) ?_; (case hi => (repeat (refine intsDead_updB rfl ?_)); exact intsDead_nil); (case hj => simp); clear hE; clear KE)
      | (refine aCondT rfl ?hc ?_; case hc => simp only [go_sem, ↓reduceIte, hres, h0, h1, hx, h2, hw])
      | (refine aCondF rfl ?hc ?_; case hc => simp only [go_sem, ↓reduceIte, hres, h0, h1, hx, h2, hw])
      | (refine callT_of (hcv) ?_ ?_; rotate_left; (repeat (refine intsDead_updB rfl ?_)); exact intsDead_nil)
      | (refine callT_ofN (hcv) ?_)
      | (refine callU_of (hcv) rfl ?_)
      | (refine callU_ofN (hcv) rfl ?_)
      | (simp only [go_sem, ↓reduceIte, hres, h0, h1, hx, h2, hw])
      | (refine And.intro ?ho ?_; (case ho => omega))
      | (clear hK; clear K))
        exact loop_end (k + 1) (by omega) (by omega) (by refine le_head _ _ _ ?_ ?_ ?_ ?_ ?_ (.inl rfl) <;> simp [go_sem, okD, okDs, okBlk, hn] <;> (intros; first | (subst_vars; simp [okD, okDs]; done) | (rename_i h; rcases h with ⟨_, _, rfl⟩ | rfl <;> simp [okD, okDs])))
      rw [h3] at hcv
      have ho : ownC c s day = true := by simp [ownC, h2, h3]
      cases h4 : findN l s day k with
      | none =>
        have hn := findN_take hx ho (by rw [h4]; rfl)
        repeat (first
      | (refine hK _ ?_; clear hK; clear K)
      | (refine aSeq fun K hK => ?_)
      | (refine aBlock ?_)
      | (refine aSkip ?_)
      | (refine aExit ?_)
      | (refine aRet ?_)
      | (refine aOps _ rfl (by kernel_rfl) ?_)
      | (refine aRunK _ rfl mixed (by kernel_rfl) (by kernel_rfl) fun KE hE => ?_)
      | (refine hE _ _ (by kernel_rfl) (intsOk_no rfl) ?_; clear hE; clear KE)
      | (refine hE _ _ (by kernel_rfl) (intsOk_yes ?hi ?hj) ?_; (case hi => (repeat (refine intsDead_updB rfl ?_)); exact intsDead_nil); (case hj => simp); clear hE; clear KE)
      | (refine aCondT rfl ?hc ?_; case hc => simp only [go_sem, ↓reduceIte, hres, h0, h1, hx, h2, hw, h4])
      | (refine aCondF rfl ?hc ?_; case hc => simp only [go_sem, ↓reduceIte, hres, h0, h1, hx, h2, hw, h4])
      | (refine callT_of (hcv) ?_ ?_; rotate_left; (repeat (refine intsDead_updB rfl ?_)); exact intsDead_nil)
      | (refine callT_ofN (hcv) ?_)
      | (refine callU_of (hcv) rfl ?_)
      | (refine callU_ofN (hcv) rfl ?_)
      | (simp only [go_sem, ↓reduceIte, hres, h0, h1, hx, h2, hw, h4])
      | (refine And.intro ?ho ?_; (case ho => omega))
      | (clear hK; clear K))
        exact loop_end (k + 1) (by omega) (by omega) (by refine le_head _ _ _ ?_ ?_ ?_ ?_ ?_ (.inl rfl) <;> simp [go_sem, okD, okDs, okBlk, hn] <;> (intros; first | (subst_vars; simp [okD, okDs]; done) | (rename_i h; rcases h with ⟨_, _, rfl⟩ | rfl <;> simp [okD, okDs])))
      | some b =>
        obtain ⟨hb, x, hy, _⟩ := findN_lt k b h4
        have h5 : (0 : Int) ≤ b := by omega
        have h6 : (b : Int) < l.length := by omega
        by_cases h7 : c.f ≥ x.f
        · have hn := findN_take hx ho (by simp [h4, takesC, hy, h7])
          repeat (first
      | (refine hK _ ?_; clear hK; clear K)
      | (refine aSeq fun K hK => ?_)
      | (refine aBlock ?_)
      | (refine aSkip ?_)
      | (refine aExit ?_)
      | (refine aRet ?_)
      | (refine aOps _ rfl (by kernel_rfl) ?_)
      | (refine aRunK _ rfl mixed (by kernel_rfl) (by kernel_rfl) fun KE hE => ?_)
      | (refine hE _ _ (by kernel_rfl) (intsOk_no rfl) ?_; clear hE; clear KE)
      | (refine hE _ _ (by kernel_rfl) (intsOk_yes ?hi ?hj) ?_; (case hi => (repeat (refine intsDead_updB rfl ?_)); exact intsDead_nil); (case hj => simp); clear hE; clear KE)
      | (refine aCondT rfl ?hc ?_; case hc => simp only [go_sem, ↓reduceIte, hres, h0, h1, hx, h2, hw, h4, h5, h6, h7, hy])
      | (refine aCondF rfl ?hc ?_; case hc => simp only [go_sem, ↓reduceIte, hres, h0, h1, hx, h2, hw, h4, h5, h6, h7, hy])
      | (refine callT_of (hcv) ?_ ?_; rotate_left; (repeat (refine intsDead_updB rfl ?_)); exact intsDead_nil)
      | (refine callT_ofN (hcv) ?_)
      | (refine callU_of (hcv) rfl ?_)
      | (refine callU_ofN (hcv) rfl ?_)
      | (simp only [go_sem, ↓reduceIte, hres, h0, h1, hx, h2, hw, h4, h5, h6, h7, hy])
      | (refine And.intro ?ho ?_; (case ho => omega))
      | (clear hK; clear K))
          exact loop_end (k + 1) (by omega) (by omega) (by refine le_head _ _ _ ?_ ?_ ?_ ?_ ?_ (.inl rfl) <;> simp [go_sem, okD, okDs, okBlk, hn] <;> (intros; first | (subst_vars; simp [okD, okDs]; done) | (rename_i h; rcases h with ⟨_, _, rfl⟩ | rfl <;> simp [okD, okDs])))
        · have hn := findN_keep (s := s) (day := day) hx (by simp [h4, takesC, hy]; omega)
          repeat (first
      | (refine hK _ ?_; clear hK; clear K)
      | (refine aSeq fun K hK => ?_)
      | (refine aBlock ?_)
      | (refine aSkip ?_)
      | (refine aExit ?_)
      | (refine aRet ?_)
      | (refine aOps _ rfl (by kernel_rfl) ?_)
      | (refine aRunK _ rfl mixed (by kernel_rfl) (by kernel_rfl) fun KE hE => ?_)
      | (refine hE _ _ (by kernel_rfl) (intsOk_no rfl) ?_; clear hE; clear KE)
      | (refine hE _ _ (by kernel_rfl) (intsOk_yes ?hi ?hj) ?_; (case hi => (repeat (refine intsDead_updB rfl ?_)); exact intsDead_nil); (case hj => simp); clear hE; clear KE)
      | (refine aCondT rfl ?hc ?_; case hc => simp only [go_sem, ↓reduceIte, hres, h0, h1, hx, h2, hw, h4, h5, h6, h7, hy])
      | (refine aCondF rfl ?hc ?_; case hc => simp only [go_sem, ↓reduceIte, hres, h0, h1, hx, h2, hw, h4, h5, h6, h7, hy])
      | (refine callT_of (hcv) ?_ ?_; rotate_left; (repeat (refine intsDead_updB rfl ?_)); exact intsDead_nil)
      | (refine callT_ofN (hcv) ?_)
      | (refine callU_of (hcv) rfl ?_)
      | (refine callU_ofN (hcv) rfl ?_)
      | (simp only [go_sem, ↓reduceIte, hres, h0, h1, hx, h2, hw, h4, h5, h6, h7, hy])
      | (refine And.intro ?ho ?_; (case ho => omega))
      | (clear hK; clear K))
          exact loop_end (k + 1) (by omega) (by omega) (by refine le_head _ _ _ ?_ ?_ ?_ ?_ ?_ (.inl rfl) <;> simp [go_sem, okD, okDs, okBlk, hn, h4] <;> (intros; first | (subst_vars; simp [okD, okDs]; done) | (rename_i h; rcases h with ⟨_, _, rfl⟩ | rfl <;> simp [okD, okDs])))
    · have e : k = l.length := by omega
      subst e
      repeat (first
      | (refine hK _ ?_; clear hK; clear K)
      | (refine aSeq fun K hK => ?_)
      | (refine aBlock ?_)
      | (refine aSkip ?_)
      | (refine aExit ?_)
      | (refine aRet ?_)
      | (refine aOps _ rfl (by kernel_rfl) ?_)
      | (refine aRunK _ rfl mixed (by kernel_rfl) (by kernel_rfl) fun KE hE => ?_)
      | (refine hE _ _ (by kernel_rfl) (intsOk_no rfl) ?_; clear hE; clear KE)
      | (refine hE _ _ (by kernel_rfl) (intsOk_yes ?hi ?hj) ?_; (case hi => (repeat (refine intsDead_updB rfl ?_)); exact intsDead_nil); (case hj => simp); clear hE; clear KE)
      | (refine aCondT rfl ?hc ?_; case hc => simp only [go_sem, ↓reduceIte, hres, h1])
      | (refine aCondF rfl ?hc ?_; case hc => simp only [go_sem, ↓reduceIte, hres, h1])
      | (simp only [go_sem, ↓reduceIte, hres, h1])
      | (refine And.intro ?ho ?_; (case ho => omega))
      | (clear hK; clear K))
      rfl

def oI (o : Option Nat) : Int := match o with | none => -1 | some b => b
theorem oI_none : oI none = -1 := rfl
theorem oI_some (b : Nat) : oI (some b) = b := rfl
theorem rfind_c (l : List CertD) (s day : Int) (hl : (l.length : Int) ≤ 1099511627776) : ContractN Try.prog 17 [encCs l, dI s, dI day] (.tup [dI ((findC l s day).getD 0), dB (findC l s day).isSome]) := by
  refine Contract.toN ?_ rfl
  refine Contract.ofA (CallA.inline Try.func17 rfl (by kernel_rfl) (by kernel_rfl) (by kernel_rfl) ?_)
  rw [Try.ntmps17]
  have hres := Try.results17
  repeat (first
      | (refine hK _ ?_; clear hK; clear K)
      | (refine aSeq fun K hK => ?_)
      | (refine aBlock ?_)
      | (refine aSkip ?_)
      | (refine aExit ?_)
      | (refine aRet ?_)
      | (refine aOps _ rfl (by kernel_rfl) ?_)
      | (refine aRunK _ rfl mixed (by kernel_rfl) (by kernel_rfl) fun KE hE => ?_)
      | (refine hE _ _ (by kernel_rfl) (intsOk_no rfl) ?_; clear hE; clear KE)
      | (refine hE _ _ (by kernel_rfl) (intsOk_yes ?hi ?hj) ?_; (case hi => (repeat (refine intsDead_updB rfl ?_)); exact intsDead_nil); (case hj => simp); clear hE; clear KE)
      | (refine aCondT rfl ?hc ?_; case hc => simp only [go_sem, ↓reduceIte, hres])
      | (refine aCondF rfl ?hc ?_; case hc => simp only [go_sem, ↓reduceIte, hres])
      | (simp only [go_sem, ↓reduceIte, hres])
      | (refine And.intro ?ho ?_; (case ho => omega))
      | (clear hK; clear K))
  refine aLoopT (fun (k : Nat) => [(0, encCs l), (1, dI s), (2, dI day), (8, dI (oI (findN l s day k))), (9, dI k)]) (fun _ => []) 0 0 (fun k => k ≤ l.length) (fun k => l.length - k) 0 (by omega) ?_ ?_
  · refine le_head _ _ _ ?_ ?_ ?_ ?_ ?_ (.inl rfl) <;> simp [go_sem, okD, okDs, okBlk, findN, oI] <;> (intros; first | (subst_vars; simp [okD, okDs]; done) | (rename_i h; rcases h with ⟨_, _, rfl⟩ | rfl <;> simp [okD, okDs]))
  · rintro k hk
    have hw : IntKind.i64.wrap ((k : Int) + 1) = (k : Int) + 1 := wrap_in (by omega) (by omega)
    have h0 : (0 : Int) ≤ k := by omega
    by_cases h1 : (k : Int) < l.length
    · obtain ⟨c, hx⟩ : ∃ e, l[k]? = some e := ⟨_, List.getElem?_eq_getElem (by omega)⟩
      have hrt := rright13_c c
      have hin := rin_c day c.f c.u
      cases h2 : rightC c
      · have hn := findN_not (day := day) hx (s := s) (by simp [ownC, coversC, h2])
        rw [h2] at hrt
        repeat (first
      | (refine hK _ ?_; clear hK; clear K)
      | (refine aSeq fun K hK => ?_)
      | (refine aBlock ?_)
      | (refine aSkip ?_)
      | (refine aExit ?_)
      | (refine aRet ?_)
      | (refine aOps _ rfl (by kernel_rfl) ?_)
      | (refine aRunK _ rfl mixed (by kernel_rfl) (by kernel_rfl) fun KE hE => ?_)
      | (refine hE _ _ (by kernel_rfl) (intsOk_no rfl) ?_; clear hE; clear KE)
      | (refine hE _ _ (by kernel_rfl) (intsOk_yes ?hi ?hj) ?_; (case hi => (repeat (refine intsDead_updB rfl ?_)); exact intsDead_nil); (case hj => simp); clear hE; clear KE)
      | (refine aCondT rfl ?hc ?_; case hc => simp only [go_sem, ↓reduceIte, hres, h0, h1, hx, hw])
      | (refine aCondF rfl ?hc ?_; case hc => simp only [go_sem, ↓reduceIte, hres, h0, h1, hx, hw])
      | (refine callT_of (hrt) ?_ ?_; rotate_left; (repeat (refine intsDead_updB rfl ?_)); exact intsDead_nil)
      | (refine callT_ofN (hrt) ?_)
      | (refine callU_of (hrt) rfl ?_)
      | (refine callU_ofN (hrt) rfl ?_)
      | (refine callT_of (hin) ?_ ?_; rotate_left; (repeat (refine intsDead_updB rfl ?_)); exact intsDead_nil)
      | (refine callT_ofN (hin) ?_)
      | (refine callU_of (hin) rfl ?_)
      | (refine callU_ofN (hin) rfl ?_)
      | (simp only [go_sem, ↓reduceIte, hres, h0, h1, hx, hw])
      | (refine And.intro ?ho ?_; (case ho => omega))
      | (clear hK; clear K))
        exact loop_end (k + 1) (by omega) (by omega) (by refine le_head _ _ _ ?_ ?_ ?_ ?_ ?_ (.inl rfl) <;> simp [go_sem, okD, okDs, okBlk, hn] <;> (intros; first | (subst_vars; simp [okD, okDs]; done) | (rename_i h; rcases h with ⟨_, _, rfl⟩ | rfl <;> simp [okD, okDs])))
      rw [h2] at hrt
      cases h3 : c.s == s
      · have hn := findN_not (day := day) hx (s := s) (by simp [ownC, h3])
        repeat (first
      | (refine hK _ ?_; clear hK; clear K)
      | (refine aSeq fun K hK => ?_)
      | (refine aBlock ?_)
      | (refine aSkip ?_)
      | (refine aExit ?_)
      | (refine aRet ?_)
      | (refine aOps _ rfl (by kernel_rfl) ?_)
      | (refine aRunK _ rfl mixed (by kernel_rfl) (by kernel_rfl) fun KE hE => ?_)
      | (refine hE _ _ (by kernel_rfl) (intsOk_no rfl) ?_; clear hE; clear KE)
      | (refine hE _ _ (by kernel_rfl) (intsOk_yes ?hi ?hj) ?_; (case hi => (repeat (refine intsDead_updB rfl ?_)); exact intsDead_nil); (case hj => simp); clear hE; clear KE)
      | (refine aCondT rfl ?hc ?_; case hc => simp only [go_sem, ↓reduceIte, hres, h0, h1, hx, hw, h3])
      | (refine aCondF rfl ?hc ?_; case hc => simp only [go_sem, ↓reduceIte, hres, h0, h1, hx, hw, h3])
      | (refine callT_of (hrt) ?_ ?_; rotate_left; (repeat (refine intsDead_updB rfl ?_)); exact intsDead_nil)
      | (refine callT_ofN (hrt) ?_)
      | (refine callU_of (hrt) rfl ?_)
      | (refine callU_ofN (hrt) rfl ?_)
      | (refine callT_of (hin) ?_ ?_; rotate_left; (repeat (refine intsDead_updB rfl ?_)); exact intsDead_nil)
      | (refine callT_ofN (hin) ?_)
      | (refine callU_of (hin) rfl ?_)
      | (refine callU_ofN (hin) rfl ?_)
      | (simp only [go_sem, ↓reduceIte, hres, h0, h1, hx, hw, h3])
      | (refine And.intro ?ho ?_; (case ho => omega))
      | (clear hK; clear K))
        exact loop_end (k + 1) (by omega) (by omega) (by refine le_head _ _ _ ?_ ?_ ?_ ?_ ?_ (.inl rfl) <;> simp [go_sem, okD, okDs, okBlk, hn] <;> (intros; first | (subst_vars; simp [okD, okDs]; done) | (rename_i h; rcases h with ⟨_, _, rfl⟩ | rfl <;> simp [okD, okDs])))
      cases h4 : inB day c.f c.u
      · have hn := findN_not hx (s := s) (day := day) (by simp only [inB] at h4; simp only [ownC, coversC, Bool.and_assoc, h4, Bool.and_false])
        rw [h4] at hin
        repeat (first
      | (refine hK _ ?_; clear hK; clear K)
      | (refine aSeq fun K hK => ?_)
      | (refine aBlock ?_)
      | (refine aSkip ?_)
      | (refine aExit ?_)
      | (refine aRet ?_)
      | (refine aOps _ rfl (by kernel_rfl) ?_)
      | (refine aRunK _ rfl mixed (by kernel_rfl) (by kernel_rfl) fun KE hE => ?_)
      | (refine hE _ _ (by kernel_rfl) (intsOk_no rfl) ?_; clear hE; clear KE)
      | (refine hE _ _ (by kernel_rfl) (intsOk_yes ?hi ?hj) ?_; (case hi => (repeat (refine intsDead_updB rfl ?_)); exact intsDead_nil); (case hj => simp); clear hE; clear KE)
      | (refine aCondT rfl ?hc ?_; case hc => simp only [go_sem, ↓reduceIte, hres, h0, h1, hx, hw, h3])
      | (refine aCondF rfl ?hc ?_; case hc => simp only [go_sem, ↓reduceIte, hres, h0, h1, hx, hw, h3])
      | (refine callT_of (hrt) ?_ ?_; rotate_left; (repeat (refine intsDead_updB rfl ?_)); exact intsDead_nil)
      | (refine callT_ofN (hrt) ?_)
      | (refine callU_of (hrt) rfl ?_)
      | (refine callU_ofN (hrt) rfl ?_)
      | (refine callT_of (hin) ?_ ?_; rotate_left; (repeat (refine intsDead_updB rfl ?_)); exact intsDead_nil)
      | (refine callT_ofN (hin) ?_)
      | (refine callU_of (hin) rfl ?_)
      | (refine callU_ofN (hin) rfl ?_)
      | (simp only [go_sem, ↓reduceIte, hres, h0, h1, hx, hw, h3])
      | (refine And.intro ?ho ?_; (case ho => omega))
      | (clear hK; clear K))
        exact loop_end (k + 1) (by omega) (by omega) (by refine le_head _ _ _ ?_ ?_ ?_ ?_ ?_ (.inl rfl) <;> simp [go_sem, okD, okDs, okBlk, hn] <;> (intros; first | (subst_vars; simp [okD, okDs]; done) | (rename_i h; rcases h with ⟨_, _, rfl⟩ | rfl <;> simp [okD, okDs])))
      rw [h4] at hin
      have ho : ownC c s day = true := by simp only [inB] at h4; simp only [ownC, coversC, Bool.and_assoc, h4, h2, h3, Bool.and_self]
      cases h5 : findN l s day k with
      | none =>
        have hn := findN_take hx ho (by rw [h5]; rfl)
        repeat (first
      | (refine hK _ ?_; clear hK; clear K)
      | (refine aSeq fun K hK => ?_)
      | (refine aBlock ?_)
      | (refine aSkip ?_)
      | (refine aExit ?_)
      | (refine aRet ?_)
      | (refine aOps _ rfl (by kernel_rfl) ?_)
      | (refine aRunK _ rfl mixed (by kernel_rfl) (by kernel_rfl) fun KE hE => ?_)
      | (refine hE _ _ (by kernel_rfl) (intsOk_no rfl) ?_; clear hE; clear KE)
      | (refine hE _ _ (by kernel_rfl) (intsOk_yes ?hi ?hj) ?_; (case hi => (repeat (refine intsDead_updB rfl ?_)); exact intsDead_nil); (case hj => simp); clear hE; clear KE)
      | (refine aCondT rfl ?hc ?_; case hc => simp only [go_sem, ↓reduceIte, hres, h0, h1, hx, hw, h3, h5, oI_none])
      | (refine aCondF rfl ?hc ?_; case hc => simp only [go_sem, ↓reduceIte, hres, h0, h1, hx, hw, h3, h5, oI_none])
      | (refine callT_of (hrt) ?_ ?_; rotate_left; (repeat (refine intsDead_updB rfl ?_)); exact intsDead_nil)
      | (refine callT_ofN (hrt) ?_)
      | (refine callU_of (hrt) rfl ?_)
      | (refine callU_ofN (hrt) rfl ?_)
      | (refine callT_of (hin) ?_ ?_; rotate_left; (repeat (refine intsDead_updB rfl ?_)); exact intsDead_nil)
      | (refine callT_ofN (hin) ?_)
      | (refine callU_of (hin) rfl ?_)
      | (refine callU_ofN (hin) rfl ?_)
      | (simp only [go_sem, ↓reduceIte, hres, h0, h1, hx, hw, h3, h5, oI_none])
      | (refine And.intro ?ho ?_; (case ho => omega))
      | (clear hK; clear K))
        exact loop_end (k + 1) (by omega) (by omega) (by refine le_head _ _ _ ?_ ?_ ?_ ?_ ?_ (.inl rfl) <;> simp [go_sem, okD, okDs, okBlk, hn, oI_some] <;> (intros; first | (subst_vars; simp [okD, okDs]; done) | (rename_i h; rcases h with ⟨_, _, rfl⟩ | rfl <;> simp [okD, okDs])))
      | some b =>
        obtain ⟨hb, x, hy, _⟩ := findN_lt k b h5
        have h6 : (0 : Int) ≤ b := by omega
        have h7 : (b : Int) < l.length := by omega
        have h8 : ¬ (b : Int) < 0 := by omega
        have hm : (if (0 : Int) > b then (0 : Int) else b) = b := if_neg (by omega)
        by_cases h9 : c.f ≥ x.f
        · have hn := findN_take hx ho (by simp [h5, takesC, hy, h9])
          repeat (first
      | (refine hK _ ?_; clear hK; clear K)
      | (refine aSeq fun K hK => ?_)
      | (refine aBlock ?_)
      | (refine aSkip ?_)
      | (refine aExit ?_)
      | (refine aRet ?_)
      | (refine aOps _ rfl (by kernel_rfl) ?_)
      | (refine aRunK _ rfl mixed (by kernel_rfl) (by kernel_rfl) fun KE hE => ?_)
      | (refine hE _ _ (by kernel_rfl) (intsOk_no rfl) ?_; clear hE; clear KE)
      | (refine hE _ _ (by kernel_rfl) (intsOk_yes ?hi ?hj) ?_; (case hi => (repeat (refine intsDead_updB rfl ?_)); exact intsDead_nil); (case hj => simp); clear hE; clear KE)
      | (refine aCondT rfl ?hc ?_; case hc => simp only [go_sem, ↓reduceIte, hres, h0, h1, hx, hw, h3, h5, h6, h7, h8, hm, h9, hy, oI_some])
      | (refine aCondF rfl ?hc ?_; case hc => simp only [go_sem, ↓reduceIte, hres, h0, h1, hx, hw, h3, h5, h6, h7, h8, hm, h9, hy, oI_some])
      | (refine callT_of (hrt) ?_ ?_; rotate_left; (repeat (refine intsDead_updB rfl ?_)); exact intsDead_nil)
      | (refine callT_ofN (hrt) ?_)
      | (refine callU_of (hrt) rfl ?_)
      | (refine callU_ofN (hrt) rfl ?_)
      | (refine callT_of (hin) ?_ ?_; rotate_left; (repeat (refine intsDead_updB rfl ?_)); exact intsDead_nil)
      | (refine callT_ofN (hin) ?_)
      | (refine callU_of (hin) rfl ?_)
      | (refine callU_ofN (hin) rfl ?_)
      | (simp only [go_sem, ↓reduceIte, hres, h0, h1, hx, hw, h3, h5, h6, h7, h8, hm, h9, hy, oI_some])
      | (refine And.intro ?ho ?_; (case ho => omega))
      | (clear hK; clear K))
          exact loop_end (k + 1) (by omega) (by omega) (by refine le_head _ _ _ ?_ ?_ ?_ ?_ ?_ (.inl rfl) <;> simp [go_sem, okD, okDs, okBlk, hn, oI_some] <;> (intros; first | (subst_vars; simp [okD, okDs]; done) | (rename_i h; rcases h with ⟨_, _, rfl⟩ | rfl <;> simp [okD, okDs])))
        · have hn := findN_keep (s := s) (day := day) hx (by simp [h5, takesC, hy]; omega)
          repeat (first
      | (refine hK _ ?_; clear hK; clear K)
      | (refine aSeq fun K hK => ?_)
      | (refine aBlock ?_)
      | (refine aSkip ?_)
      | (refine aExit ?_)
      | (refine aRet ?_)
      | (refine aOps _ rfl (by kernel_rfl) ?_)
      | (refine aRunK _ rfl mixed (by kernel_rfl) (by kernel_rfl) fun KE hE => ?_)
      | (refine hE _ _ (by kernel_rfl) (intsOk_no rfl) ?_; clear hE; clear KE)
      | (refine hE _ _ (by kernel_rfl) (intsOk_yes ?hi ?hj) ?_; (case hi => (repeat (refine intsDead_updB rfl ?_)); exact intsDead_nil); (case hj => simp); clear hE; clear KE)
      | (refine aCondT rfl ?hc ?_; case hc => simp only [go_sem, ↓reduceIte, hres, h0, h1, hx, hw, h3, h5, h6, h7, h8, hm, h9, hy, oI_some])
      | (refine aCondF rfl ?hc ?_; case hc => simp only [go_sem, ↓reduceIte, hres, h0, h1, hx, hw, h3, h5, h6, h7, h8, hm, h9, hy, oI_some])
      | (refine callT_of (hrt) ?_ ?_; rotate_left; (repeat (refine intsDead_updB rfl ?_)); exact intsDead_nil)
      | (refine callT_ofN (hrt) ?_)
      | (refine callU_of (hrt) rfl ?_)
      | (refine callU_ofN (hrt) rfl ?_)
      | (refine callT_of (hin) ?_ ?_; rotate_left; (repeat (refine intsDead_updB rfl ?_)); exact intsDead_nil)
      | (refine callT_ofN (hin) ?_)
      | (refine callU_of (hin) rfl ?_)
      | (refine callU_ofN (hin) rfl ?_)
      | (simp only [go_sem, ↓reduceIte, hres, h0, h1, hx, hw, h3, h5, h6, h7, h8, hm, h9, hy, oI_some])
      | (refine And.intro ?ho ?_; (case ho => omega))
      | (clear hK; clear K))
          exact loop_end (k + 1) (by omega) (by omega) (by refine le_head _ _ _ ?_ ?_ ?_ ?_ ?_ (.inl rfl) <;> simp [go_sem, okD, okDs, okBlk, hn, h5, oI_some] <;> (intros; first | (subst_vars; simp [okD, okDs]; done) | (rename_i h; rcases h with ⟨_, _, rfl⟩ | rfl <;> simp [okD, okDs])))
    · have e : k = l.length := by omega
      subst e
      cases h5 : findN l s day l.length with
      | none =>
        have e : findC l s day = none := h5
        repeat (first
      | (refine hK _ ?_; clear hK; clear K)
      | (refine aSeq fun K hK => ?_)
      | (refine aBlock ?_)
      | (refine aSkip ?_)
      | (refine aExit ?_)
      | (refine aRet ?_)
      | (refine aOps _ rfl (by kernel_rfl) ?_)
      | (refine aRunK _ rfl mixed (by kernel_rfl) (by kernel_rfl) fun KE hE => ?_)
      | (refine hE _ _ (by kernel_rfl) (intsOk_no rfl) ?_; clear hE; clear KE)
      | (refine hE _ _ (by kernel_rfl) (intsOk_yes ?hi ?hj) ?_; (case hi => (repeat (refine intsDead_updB rfl ?_)); exact intsDead_nil); (case hj => simp); clear hE; clear KE)
      | (refine aCondT rfl ?hc ?_; case hc => simp only [go_sem, ↓reduceIte, hres, h1, h5, oI_none])
      | (refine aCondF rfl ?hc ?_; case hc => simp only [go_sem, ↓reduceIte, hres, h1, h5, oI_none])
      | (simp only [go_sem, ↓reduceIte, hres, h1, h5, oI_none])
      | (refine And.intro ?ho ?_; (case ho => omega))
      | (clear hK; clear K))
        rw [e]; rfl
      | some b =>
        have e : findC l s day = some b := h5
        have h6 : (b : Int) ≥ 0 := by omega
        have hm : (if (0 : Int) > b then (0 : Int) else b) = b := if_neg (by omega)
        repeat (first
      | (refine hK _ ?_; clear hK; clear K)
      | (refine aSeq fun K hK => ?_)
      | (refine aBlock ?_)
      | (refine aSkip ?_)
      | (refine aExit ?_)
      | (refine aRet ?_)
      | (refine aOps _ rfl (by kernel_rfl) ?_)
      | (refine aRunK _ rfl mixed (by kernel_rfl) (by kernel_rfl) fun KE hE => ?_)
      | (refine hE _ _ (by kernel_rfl) (intsOk_no rfl) ?_; clear hE; clear KE)
      | (refine hE _ _ (by kernel_rfl) (intsOk_yes ?hi ?hj) ?_; (case hi => (repeat (refine intsDead_updB rfl ?_)); exact intsDead_nil); (case hj => simp); clear hE; clear KE)
      | (refine aCondT rfl ?hc ?_; case hc => simp only [go_sem, ↓reduceIte, hres, h1, h5, h6, hm, oI_some])
      | (refine aCondF rfl ?hc ?_; case hc => simp only [go_sem, ↓reduceIte, hres, h1, h5, h6, hm, oI_some])
      | (simp only [go_sem, ↓reduceIte, hres, h1, h5, h6, hm, oI_some])
      | (refine And.intro ?ho ?_; (case ho => omega))
      | (clear hK; clear K))
        rw [e]; rfl
end Go.Proofs.Ytenmlcpbjjlokaa

/-
  Recalls, the error of a reading, the interval: of scale and of the reference.
-/
namespace Go.Proofs.Ytenmlcpbjjlokaa
set_option linter.unusedVariables false
set_option linter.unusedSimpArgs false
open Go Go.RowKit
attribute [local go_sem] opsL_nil opsL_go opsL_guard gSel_tt gSel_ff gSel_tf gSel_ft stepR_some stepR_none callS_some callE_some runL_nil runL_go runL_guard gSelE_tt gSelE_ff gSelE_tf gSelE_ft stepE_some stepE_none opF callD rd constD putT upd_get guardL gOf_bool gOf_undef fieldAddrF fieldF loadF storeF indexAddrF indexF sliceF strSliceF bound buildF fillF buildSliceF elemsF allocF makeSliceF lenF elemsOf appendF minmaxF convertF boxF ldE blkAt spliceE D.cells? D.isCell Res.pure ov TyI.agg binD unD boolD initT thenA inBlockA argD argDs refsD refsL killW datJ datJs endA_ret endA_normal endR_some oneD_one oneD_two oneD_three oneD_four resDs resD fzT Value.oneCell' strip tabT tabM
attribute [local go_sem] List.map Nat.reduceEqDiff Nat.reduceBEq List.getElem?_cons_zero List.getElem?_cons_succ List.getElem?_nil Option.getD_some Option.getD_none true_and and_true true_or or_true false_or or_false and_self Nat.add_zero Nat.zero_add List.length_nil List.length_cons forall_const ite_true ite_false Bool.or_self Bool.false_eq_true Option.map_some Option.map_none beq_self_eq_true Nat.reduceAdd Nat.reduceSub Nat.reduceMul reduceCtorEq List.getElem?_toArray Bool.not_true Bool.not_false decide_eq_true_eq decide_true decide_false Nat.reduceLeDiff Nat.reduceLT Bool.or_false Bool.or_true Bool.and_true Bool.and_false Bool.false_and Bool.true_and Bool.true_beq Bool.false_beq beq_true beq_false Bool.not_eq_true List.drop_succ_cons List.take_succ_cons List.drop_zero List.take_zero List.length_map List.getElem?_map List.length_append List.all_cons List.all_nil List.append_nil List.nil_append List.cons_append List.set_cons_zero List.set_cons_succ Int.toNat_natCast Int.toNat_zero Option.isSome_some Option.isSome_none Array.size_empty ByteArray.size_empty Int.reduceToNat Int.reduceAdd Int.reduceSub Int.reduceLT Int.reduceLE Int.reduceEq Int.reduceNe Int.reduceBEq Int.reduceNeg List.forall_mem_cons List.not_mem_nil false_implies List.forall_mem_map implies_true Nat.reduceBNe Int.cast_ofNat_Int Int.reduceMul Int.reduceGE Int.reduceGT wrap_in ty_2 ty_3 ty_4 ty_5 ty_6 ty_7 ty_8 ty_9 ty_10 ty_11 ty_12 ty_13 ty_14 ty_18 ty_19 ty_21 ty_22 ty_23 ty_24 ty_25 ty_30 ty_31 ty_32 ty_33 ty_34 ty_44 ty_51 ty_52 ty_54 ty_55 ty_56 ty_57 ty_58 ty_74 ty_75 ty_78 ty_93 ty_94 ty_121 ty_122 ty_131 ty_132 ty_133 ty_134 ty_135 ty_137 ty_138 ty_139 ty_142 ty_143 ty_144 ty_145
set_option maxRecDepth 100000
set_option maxHeartbeats 1000000

def hitR (s day : Int) (r : RecD) : Bool := r.s == s && decide (r.d ≤ day)
def recC (l : List RecD) (s day : Int) : Bool := l.any (hitR s day)
theorem any_take_succ {α : Type} {p : α → Bool} {l : List α} {k : Nat} {x : α} (hx : l[k]? = some x) (h : (l.take k).any p = false) (hp : p x = false) : (l.take (k + 1)).any p = false := by
  rw [List.take_add_one, hx]; simp [List.any_append, h, hp]
theorem any_of {α : Type} {p : α → Bool} {l : List α} {k : Nat} {x : α} (hx : l[k]? = some x) (hp : p x = true) : l.any p = true :=
  List.any_eq_true.2 ⟨x, List.mem_of_getElem? hx, hp⟩

theorem rrecalled_c (l : List RecD) (s day : Int) (hl : (l.length : Int) ≤ 1099511627776) : ContractN Try.prog 26 [encRs l, dI s, dI day] (dB (recC l s day)) := by
  refine Contract.toN ?_ rfl
  refine Contract.ofA (CallA.inline Try.func26 rfl (by kernel_rfl) (by kernel_rfl) (by kernel_rfl) ?_)
  rw [Try.ntmps26]
  have hres := Try.results26
  repeat (first
      | (refine hK _ ?_; clear hK; clear K)
      | (refine aSeq fun K hK => ?_)
      | (refine aBlock ?_)
      | (refine aSkip ?_)
      | (refine aExit ?_)
      | (refine aRet ?_)
      | (refine aOps _ rfl (by kernel_rfl) ?_)
      | (refine aRunK _ rfl mixed (by kernel_rfl) (by kernel_rfl) fun KE hE => ?_)
      | (refine hE _ _ (by kernel_rfl) (intsOk_no rfl) ?_; clear hE; clear KE)
      | (refine hE _ _ (by kernel_rfl) (intsOk_yes ?hi ?hj) ?_; (case hi => (repeat (refine intsDead_updB rfl ?_)); exact intsDead_nil); (case hj => simp); clear hE; clear KE)
      | (refine aCondT rfl ?hc ?_; case hc => simp only [go_sem, ↓reduceIte, hres])
      | (refine aCondF rfl ?hc ?_; case hc => simp only [go_sem, ↓reduceIte, hres])
      | (simp only [go_sem, ↓reduceIte, hres])
      | (refine And.intro ?ho ?_; (case ho => omega))
      | (clear hK; clear K))
  refine aLoopT (fun (k : Nat) => [(0, encRs l), (1, dI s), (2, dI day), (7, dI k)]) (fun _ => []) 0 0 (fun k => k ≤ l.length ∧ (l.take k).any (hitR s day) = false) (fun k => l.length - k) 0 ⟨by omega, rfl⟩ ?_ ?_
  · refine le_head _ _ _ ?_ ?_ ?_ ?_ ?_ (.inl rfl) <;> simp [go_sem, okD, okDs, okBlk] <;> (intros; first | (subst_vars; simp [okD, okDs]; done) | (rename_i h; rcases h with ⟨_, _, rfl⟩ | rfl <;> simp [okD, okDs]))
  · rintro k ⟨hk, hn⟩
    have hw : IntKind.i64.wrap ((k : Int) + 1) = (k : Int) + 1 := wrap_in (by omega) (by omega)
    have h0 : (0 : Int) ≤ k := by omega
    by_cases h1 : (k : Int) < l.length
    · obtain ⟨r, hx⟩ : ∃ e, l[k]? = some e := ⟨_, List.getElem?_eq_getElem (by omega)⟩
      cases h2 : r.s == s
      · repeat (first
      | (refine hK _ ?_; clear hK; clear K)
      | (refine aSeq fun K hK => ?_)
      | (refine aBlock ?_)
      | (refine aSkip ?_)
      | (refine aExit ?_)
      | (refine aRet ?_)
      | (refine aOps _ rfl (by kernel_rfl) ?_)
      | (refine aRunK _ rfl mixed (by kernel_rfl) (by kernel_rfl) fun KE hE => ?_)
      | (refine hE _ _ (by kernel_rfl) (intsOk_no rfl) ?_; clear hE; clear KE)
      | (refine hE _ _ (by kernel_rfl) (intsOk_yes ?hi ?hj) ?_; (case hi => (repeat (refine intsDead_updB rfl ?_)); exact intsDead_nil); (case hj => simp); clear hE; clear KE)
      | (refine aCondT rfl ?hc ?_; case hc => simp only [go_sem, ↓reduceIte, hres, h0, h1, hx, h2, hw])
      | (refine aCondF rfl ?hc ?_; case hc => simp only [go_sem, ↓reduceIte, hres, h0, h1, hx, h2, hw])
      | (simp only [go_sem, ↓reduceIte, hres, h0, h1, hx, h2, hw])
      | (refine And.intro ?ho ?_; (case ho => omega))
      | (clear hK; clear K))
        exact loop_end (k + 1) ⟨by omega, any_take_succ hx hn (by simp [hitR, h2])⟩ (by omega) (by refine le_head _ _ _ ?_ ?_ ?_ ?_ ?_ (.inl rfl) <;> simp [go_sem, okD, okDs, okBlk] <;> (intros; first | (subst_vars; simp [okD, okDs]; done) | (rename_i h; rcases h with ⟨_, _, rfl⟩ | rfl <;> simp [okD, okDs])))
      by_cases h3 : r.d ≤ day
      · repeat (first
      | (refine hK _ ?_; clear hK; clear K)
      | (refine aSeq fun K hK => ?_)
      | (refine aBlock ?_)
      | (refine aSkip ?_)
      | (refine aExit ?_)
      | (refine aRet ?_)
      | (refine aOps _ rfl (by kernel_rfl) ?_)
      | (refine aRunK _ rfl mixed (by kernel_rfl) (by kernel_rfl) fun KE hE => ?_)
      | (refine hE _ _ (by kernel_rfl) (intsOk_no rfl) ?_; clear hE; clear KE)
      | (refine hE _ _ (by kernel_rfl) (intsOk_yes ?hi ?hj) ?_; (case hi => (repeat (refine intsDead_updB rfl ?_)); exact intsDead_nil); (case hj => simp); clear hE; clear KE)
      | (refine aCondT rfl ?hc ?_; case hc => simp only [go_sem, ↓reduceIte, hres, h0, h1, hx, h2, h3, hw])
      | (refine aCondF rfl ?hc ?_; case hc => simp only [go_sem, ↓reduceIte, hres, h0, h1, hx, h2, h3, hw])
      | (simp only [go_sem, ↓reduceIte, hres, h0, h1, hx, h2, h3, hw])
      | (refine And.intro ?ho ?_; (case ho => omega))
      | (clear hK; clear K))
        exact bool_eq (any_of hx (by simp [hitR, h2, h3])).symm
      · repeat (first
      | (refine hK _ ?_; clear hK; clear K)
      | (refine aSeq fun K hK => ?_)
      | (refine aBlock ?_)
      | (refine aSkip ?_)
      | (refine aExit ?_)
      | (refine aRet ?_)
      | (refine aOps _ rfl (by kernel_rfl) ?_)
      | (refine aRunK _ rfl mixed (by kernel_rfl) (by kernel_rfl) fun KE hE => ?_)
      | (refine hE _ _ (by kernel_rfl) (intsOk_no rfl) ?_; clear hE; clear KE)
      | (refine hE _ _ (by kernel_rfl) (intsOk_yes ?hi ?hj) ?_; (case hi => (repeat (refine intsDead_updB rfl ?_)); exact intsDead_nil); (case hj => simp); clear hE; clear KE)
      | (refine aCondT rfl ?hc ?_; case hc => simp only [go_sem, ↓reduceIte, hres, h0, h1, hx, h2, h3, hw])
      | (refine aCondF rfl ?hc ?_; case hc => simp only [go_sem, ↓reduceIte, hres, h0, h1, hx, h2, h3, hw])
      | (simp only [go_sem, ↓reduceIte, hres, h0, h1, hx, h2, h3, hw])
      | (refine And.intro ?ho ?_; (case ho => omega))
      | (clear hK; clear K))
        exact loop_end (k + 1) ⟨by omega, any_take_succ hx hn (by simp [hitR, h2, h3])⟩ (by omega) (by refine le_head _ _ _ ?_ ?_ ?_ ?_ ?_ (.inl rfl) <;> simp [go_sem, okD, okDs, okBlk] <;> (intros; first | (subst_vars; simp [okD, okDs]; done) | (rename_i h; rcases h with ⟨_, _, rfl⟩ | rfl <;> simp [okD, okDs])))
    · repeat (first
      | (refine hK _ ?_; clear hK; clear K)
      | (refine aSeq fun K hK => ?_)
      | (refine aBlock ?_)
      | (refine aSkip ?_)
      | (refine aExit ?_)
      | (refine aRet ?_)
      | (refine aOps _ rfl (by kernel_rfl) ?_)
      | (refine aRunK _ rfl mixed (by kernel_rfl) (by kernel_rfl) fun KE hE => ?_)
      | (refine hE _ _ (by kernel_rfl) (intsOk_no rfl) ?_; clear hE; clear KE)
      | (refine hE _ _ (by kernel_rfl) (intsOk_yes ?hi ?hj) ?_; (case hi => (repeat (refine intsDead_updB rfl ?_)); exact intsDead_nil); (case hj => simp); clear hE; clear KE)
      | (refine aCondT rfl ?hc ?_; case hc => simp only [go_sem, ↓reduceIte, hres, h1])
      | (refine aCondF rfl ?hc ?_; case hc => simp only [go_sem, ↓reduceIte, hres, h1])
      | (simp only [go_sem, ↓reduceIte, hres, h1])
      | (refine And.intro ?ho ?_; (case ho => omega))
      | (clear hK; clear K))
      rw [List.take_of_length_le (by omega)] at hn
      exact bool_eq hn.symm

abbrev cloR (s day : Int) : D := .clo 70 [.ep [[dI s]] 0 0, .ep [[dI day]] 0 0]
theorem hit_c (r : RecD) (s day : Int) : ContractN Try.prog 70 [encR r, .ep [[dI s]] 0 0, .ep [[dI day]] 0 0] (dB (hitR s day r)) := by
  refine Contract.toN ?_ rfl
  refine Contract.ofA (CallA.inline Try.func70 rfl (by kernel_rfl) (by kernel_rfl) (by kernel_rfl) ?_)
  rw [Try.ntmps70]
  have hres := Try.results70
  cases h2 : r.s == s
  · repeat (first
      | (refine hK _ ?_; clear hK; clear K)
      | (refine aSeq fun K hK => ?_)
      | (refine aBlock ?_)
      | (refine aSkip ?_)
      | (refine aExit ?_)
      | (refine aRet ?_)
      | (refine aOps _ rfl (by kernel_rfl) ?_)
      | (refine aRunK _ rfl mixed (by kernel_rfl) (by kernel_rfl) fun KE hE => ?_)
      | (refine hE _ _ (by kernel_rfl) (intsOk_no rfl) ?_; clear hE; clear KE)
      | (refine hE _ _ (by kernel_rfl) (intsOk_yes ?hi ?hj) ?_; (case hi => (repeat (refine intsDead_updB rfl ?_)); exact intsDead_nil); (case hj => simp); clear hE; clear KE)
      | (refine aCondT rfl ?hc ?_; case hc => simp only [go_sem, ↓reduceIte, hres, h2])
      | (refine aCondF rfl ?hc ?_; case hc => simp only [go_sem, ↓reduceIte, hres, h2])
      | (simp only [go_sem, ↓reduceIte, hres, h2])
      | (refine And.intro ?ho ?_; (case ho => omega))
      | (clear hK; clear K))
    exact bool_eq (by simp [hitR, h2])
  by_cases h3 : r.d ≤ day
  · repeat (first
      | (refine hK _ ?_; clear hK; clear K)
      | (refine aSeq fun K hK => ?_)
      | (refine aBlock ?_)
      | (refine aSkip ?_)
      | (refine aExit ?_)
      | (refine aRet ?_)
      | (refine aOps _ rfl (by kernel_rfl) ?_)
      | (refine aRunK _ rfl mixed (by kernel_rfl) (by kernel_rfl) fun KE hE => ?_)
      | (refine hE _ _ (by kernel_rfl) (intsOk_no rfl) ?_; clear hE; clear KE)
      | (refine hE _ _ (by kernel_rfl) (intsOk_yes ?hi ?hj) ?_; (case hi => (repeat (refine intsDead_updB rfl ?_)); exact intsDead_nil); (case hj => simp); clear hE; clear KE)
      | (refine aCondT rfl ?hc ?_; case hc => simp only [go_sem, ↓reduceIte, hres, h2, h3])
      | (refine aCondF rfl ?hc ?_; case hc => simp only [go_sem, ↓reduceIte, hres, h2, h3])
      | (simp only [go_sem, ↓reduceIte, hres, h2, h3])
      | (refine And.intro ?ho ?_; (case ho => omega))
      | (clear hK; clear K))
    exact bool_eq (by simp [hitR, h2, h3])
  · repeat (first
      | (refine hK _ ?_; clear hK; clear K)
      | (refine aSeq fun K hK => ?_)
      | (refine aBlock ?_)
      | (refine aSkip ?_)
      | (refine aExit ?_)
      | (refine aRet ?_)
      | (refine aOps _ rfl (by kernel_rfl) ?_)
      | (refine aRunK _ rfl mixed (by kernel_rfl) (by kernel_rfl) fun KE hE => ?_)
      | (refine hE _ _ (by kernel_rfl) (intsOk_no rfl) ?_; clear hE; clear KE)
      | (refine hE _ _ (by kernel_rfl) (intsOk_yes ?hi ?hj) ?_; (case hi => (repeat (refine intsDead_updB rfl ?_)); exact intsDead_nil); (case hj => simp); clear hE; clear KE)
      | (refine aCondT rfl ?hc ?_; case hc => simp only [go_sem, ↓reduceIte, hres, h2, h3])
      | (refine aCondF rfl ?hc ?_; case hc => simp only [go_sem, ↓reduceIte, hres, h2, h3])
      | (simp only [go_sem, ↓reduceIte, hres, h2, h3])
      | (refine And.intro ?ho ?_; (case ho => omega))
      | (clear hK; clear K))
    exact bool_eq (by simp [hitR, h2, h3])
theorem findIdx_at {α : Type} {p : α → Bool} {l : List α} {k : Nat} {x : α} (hx : l[k]? = some x) (h : (l.take k).any p = false) (hp : p x = true) : l.findIdx p = k := by
  obtain ⟨hk, rfl⟩ := List.getElem?_eq_some_iff.1 hx
  refine (List.findIdx_eq hk).2 ⟨hp, fun j hj => ?_⟩
  rw [List.any_eq_false] at h
  have := h l[j] (List.mem_take_iff_getElem.2 ⟨j, by omega, rfl⟩)
  simpa using this
def idxI {α : Type} (p : α → Bool) (l : List α) : Int := if l.any p then l.findIdx p else -1
theorem idxI_at {α : Type} {p : α → Bool} {l : List α} {k : Nat} {x : α} (hx : l[k]? = some x) (h : (l.take k).any p = false) (hp : p x = true) : idxI p l = k := by
  unfold idxI; rw [any_of hx hp, findIdx_at hx h hp]; rfl
theorem idxI_no {α : Type} {p : α → Bool} {l : List α} (h : l.any p = false) : idxI p l = -1 := by unfold idxI; rw [h]; rfl
theorem idxI_ge {α : Type} (p : α → Bool) (l : List α) : decide (idxI p l ≥ 0) = l.any p := by
  unfold idxI
  cases l.any p
  · rfl
  · simp only [if_true]; exact decide_eq_true (by omega)
theorem index_c (l : List RecD) (s day : Int) (hl : (l.length : Int) ≤ 1099511627776) : ContractN Try.prog 99 [encRs l, cloR s day] (dI (idxI (hitR s day) l)) := by
  refine Contract.toN ?_ rfl
  refine Contract.ofA (CallA.inline Try.func99 rfl (by kernel_rfl) (by kernel_rfl) (by kernel_rfl) ?_)
  rw [Try.ntmps99]
  have hres := Try.results99
  repeat (first
      | (refine hK _ ?_; clear hK; clear K)
      | (refine aSeq fun K hK => ?_)
      | (refine aBlock ?_)
      | (refine aSkip ?_)
      | (refine aExit ?_)
      | (refine aRet ?_)
      | (refine aOps _ rfl (by kernel_rfl) ?_)
      | (refine aRunK _ rfl mixed (by kernel_rfl) (by kernel_rfl) fun KE hE => ?_)
      | (refine hE _ _ (by kernel_rfl) (intsOk_no rfl) ?_; clear hE; clear KE)
      | (refine hE _ _ (by kernel_rfl) (intsOk_yes ?hi ?hj) ?_; (case hi => (repeat (refine intsDead_updB rfl ?_)); exact intsDead_nil); (case hj => simp); clear hE; clear KE)
      | (refine aCondT rfl ?hc ?_; case hc => simp only [go_sem, ↓reduceIte, hres])
      | (refine aCondF rfl ?hc ?_; case hc => simp only [go_sem, ↓reduceIte, hres])
      | (simp only [go_sem, ↓reduceIte, hres])
      | (refine And.intro ?ho ?_; (case ho => omega))
      | (clear hK; clear K))
  refine aLoopT (fun (k : Nat) => [(0, encRs l), (1, cloR s day), (7, dI l.length), (8, dI k)]) (fun _ => []) 0 0 (fun k => k ≤ l.length ∧ (l.take k).any (hitR s day) = false) (fun k => l.length - k) 0 ⟨by omega, rfl⟩ ?_ ?_
  · refine le_head _ _ _ ?_ ?_ ?_ ?_ ?_ (.inl rfl) <;> simp [go_sem, okD, okDs, okBlk] <;> (intros; first | (subst_vars; simp [okD, okDs]; done) | (rename_i h; rcases h with ⟨_, _, rfl⟩ | rfl <;> simp [okD, okDs]))
  · rintro k ⟨hk, hn⟩
    have hw : IntKind.i64.wrap ((k : Int) + 1) = (k : Int) + 1 := wrap_in (by omega) (by omega)
    have h0 : (0 : Int) ≤ k := by omega
    by_cases h1 : (k : Int) < l.length
    · obtain ⟨r, hx⟩ : ∃ e, l[k]? = some e := ⟨_, List.getElem?_eq_getElem (by omega)⟩
      have hc := hit_c r s day
      cases h2 : hitR s day r
      · rw [h2] at hc
        repeat (first
      | (refine hK _ ?_; clear hK; clear K)
      | (refine aSeq fun K hK => ?_)
      | (refine aBlock ?_)
      | (refine aSkip ?_)
      | (refine aExit ?_)
      | (refine aRet ?_)
      | (refine aOps _ rfl (by kernel_rfl) ?_)
      | (refine aRunK _ rfl mixed (by kernel_rfl) (by kernel_rfl) fun KE hE => ?_)
      | (refine hE _ _ (by kernel_rfl) (intsOk_no rfl) ?_; clear hE; clear KE)
      | (refine hE _ _ (by kernel_rfl) (intsOk_yes ?hi ?hj) ?_; (case hi => (repeat (refine intsDead_updB rfl ?_)); exact intsDead_nil); (case hj => simp); clear hE; clear KE)
      | (refine aCondT rfl ?hc ?_; case hc => simp only [go_sem, ↓reduceIte, hres, h0, h1, hx, hw])
      | (refine aCondF rfl ?hc ?_; case hc => simp only [go_sem, ↓reduceIte, hres, h0, h1, hx, hw])
      | (refine callT_of (hc) ?_ ?_; rotate_left; (repeat (refine intsDead_updB rfl ?_)); exact intsDead_nil)
      | (refine callT_ofN (hc) ?_)
      | (refine callU_of (hc) rfl ?_)
      | (refine callU_ofN (hc) rfl ?_)
      | (simp only [go_sem, ↓reduceIte, hres, h0, h1, hx, hw])
      | (refine And.intro ?ho ?_; (case ho => omega))
      | (clear hK; clear K))
        exact loop_end (k + 1) ⟨by omega, any_take_succ hx hn h2⟩ (by omega) (by refine le_head _ _ _ ?_ ?_ ?_ ?_ ?_ (.inl rfl) <;> simp [go_sem, okD, okDs, okBlk] <;> (intros; first | (subst_vars; simp [okD, okDs]; done) | (rename_i h; rcases h with ⟨_, _, rfl⟩ | rfl <;> simp [okD, okDs])))
      · rw [h2] at hc
        repeat (first
      | (refine hK _ ?_; clear hK; clear K)
      | (refine aSeq fun K hK => ?_)
      | (refine aBlock ?_)
      | (refine aSkip ?_)
      | (refine aExit ?_)
      | (refine aRet ?_)
      | (refine aOps _ rfl (by kernel_rfl) ?_)
      | (refine aRunK _ rfl mixed (by kernel_rfl) (by kernel_rfl) fun KE hE => ?_)
      | (refine hE _ _ (by kernel_rfl) (intsOk_no rfl) ?_; clear hE; clear KE)
      | (refine hE _ _ (by kernel_rfl) (intsOk_yes ?hi ?hj) ?_; (case hi => (repeat (refine intsDead_updB rfl ?_)); exact intsDead_nil); (case hj => simp); clear hE; clear KE)
      | (refine aCondT rfl ?hc ?_; case hc => simp only [go_sem, ↓reduceIte, hres, h0, h1, hx, hw])
      | (refine aCondF rfl ?hc ?_; case hc => simp only [go_sem, ↓reduceIte, hres, h0, h1, hx, hw])
      | (refine callT_of (hc) ?_ ?_; rotate_left; (repeat (refine intsDead_updB rfl ?_)); exact intsDead_nil)
      | (refine callT_ofN (hc) ?_)
      | (refine callU_of (hc) rfl ?_)
      | (refine callU_ofN (hc) rfl ?_)
      | (simp only [go_sem, ↓reduceIte, hres, h0, h1, hx, hw])
      | (refine And.intro ?ho ?_; (case ho => omega))
      | (clear hK; clear K))
        exact int_eq (idxI_at hx hn h2).symm
    · repeat (first
      | (refine hK _ ?_; clear hK; clear K)
      | (refine aSeq fun K hK => ?_)
      | (refine aBlock ?_)
      | (refine aSkip ?_)
      | (refine aExit ?_)
      | (refine aRet ?_)
      | (refine aOps _ rfl (by kernel_rfl) ?_)
      | (refine aRunK _ rfl mixed (by kernel_rfl) (by kernel_rfl) fun KE hE => ?_)
      | (refine hE _ _ (by kernel_rfl) (intsOk_no rfl) ?_; clear hE; clear KE)
      | (refine hE _ _ (by kernel_rfl) (intsOk_yes ?hi ?hj) ?_; (case hi => (repeat (refine intsDead_updB rfl ?_)); exact intsDead_nil); (case hj => simp); clear hE; clear KE)
      | (refine aCondT rfl ?hc ?_; case hc => simp only [go_sem, ↓reduceIte, hres, h1])
      | (refine aCondF rfl ?hc ?_; case hc => simp only [go_sem, ↓reduceIte, hres, h1])
      | (simp only [go_sem, ↓reduceIte, hres, h1])
      | (refine And.intro ?ho ?_; (case ho => omega))
      | (clear hK; clear K))
      rw [List.take_of_length_le (by omega)] at hn
      exact int_eq (idxI_no hn).symm
theorem contains_c (l : List RecD) (s day : Int) (hl : (l.length : Int) ≤ 1099511627776) : ContractN Try.prog 69 [encRs l, cloR s day] (dB (recC l s day)) := by
  refine Contract.toN ?_ rfl
  refine Contract.ofA (CallA.inline Try.func69 rfl (by kernel_rfl) (by kernel_rfl) (by kernel_rfl) ?_)
  rw [Try.ntmps69]
  have hres := Try.results69
  have hc := index_c l s day hl
  repeat (first
      | (refine hK _ ?_; clear hK; clear K)
      | (refine aSeq fun K hK => ?_)
      | (refine aBlock ?_)
      | (refine aSkip ?_)
      | (refine aExit ?_)
      | (refine aRet ?_)
      | (refine aOps _ rfl (by kernel_rfl) ?_)
      | (refine aRunK _ rfl mixed (by kernel_rfl) (by kernel_rfl) fun KE hE => ?_)
      | (refine hE _ _ (by kernel_rfl) (intsOk_no rfl) ?_; clear hE; clear KE)
      | (refine hE _ _ (by kernel_rfl) (intsOk_yes ?hi ?hj) ?_; (case hi => (repeat (refine intsDead_updB rfl ?_)); exact intsDead_nil); (case hj => simp); clear hE; clear KE)
      | (refine aCondT rfl ?hc ?_; case hc => simp only [go_sem, ↓reduceIte, hres])
      | (refine aCondF rfl ?hc ?_; case hc => simp only [go_sem, ↓reduceIte, hres])
      | (refine callT_of (hc) ?_ ?_; rotate_left; (repeat (refine intsDead_updB rfl ?_)); exact intsDead_nil)
      | (refine callT_ofN (hc) ?_)
      | (refine callU_of (hc) rfl ?_)
      | (refine callU_ofN (hc) rfl ?_)
      | (simp only [go_sem, ↓reduceIte, hres])
      | (refine And.intro ?ho ?_; (case ho => omega))
      | (clear hK; clear K))
  exact bool_eq (idxI_ge _ _)
theorem recalled_c (l : List RecD) (s day : Int) (hl : (l.length : Int) ≤ 1099511627776) : ContractN Try.prog 25 [encRs l, dI s, dI day] (dB (recC l s day)) := by
  refine Contract.toN ?_ rfl
  refine Contract.ofA (CallA.inline Try.func25 rfl (by kernel_rfl) (by kernel_rfl) (by kernel_rfl) ?_)
  rw [Try.ntmps25]
  have hres := Try.results25
  have hc := contains_c l s day hl
  repeat (first
      | (refine hK _ ?_; clear hK; clear K)
      | (refine aSeq fun K hK => ?_)
      | (refine aBlock ?_)
      | (refine aSkip ?_)
      | (refine aExit ?_)
      | (refine aRet ?_)
      | (refine aOps _ rfl (by kernel_rfl) ?_)
      | (refine aRunK _ rfl mixed (by kernel_rfl) (by kernel_rfl) fun KE hE => ?_)
      | (refine hE _ _ (by kernel_rfl) (intsOk_no rfl) ?_; clear hE; clear KE)
      | (refine hE _ _ (by kernel_rfl) (intsOk_yes ?hi ?hj) ?_; (case hi => (repeat (refine intsDead_updB rfl ?_)); exact intsDead_nil); (case hj => simp); clear hE; clear KE)
      | (refine aCondT rfl ?hc ?_; case hc => simp only [go_sem, ↓reduceIte, hres])
      | (refine aCondF rfl ?hc ?_; case hc => simp only [go_sem, ↓reduceIte, hres])
      | (refine callT_of (hc) ?_ ?_; rotate_left; (repeat (refine intsDead_updB rfl ?_)); exact intsDead_nil)
      | (refine callT_ofN (hc) ?_)
      | (refine callU_of (hc) rfl ?_)
      | (refine callU_ofN (hc) rfl ?_)
      | (simp only [go_sem, ↓reduceIte, hres])
      | (refine And.intro ?ho ?_; (case ho => omega))
      | (clear hK; clear K))

/-! The error of a reading. -/
def errQ (c : CertD) (reading day : Int) : Rat := Rat.divInt (c.p * reading) 1000 + ((c.g + c.d * (day - c.f) : Int) : Rat)
def errOk (c : CertD) (reading day : Int) : Bool := coversC c day && inB reading 0 1099511627776
def errD (c : CertD) (reading day : Int) : FracD × Bool := if errOk c reading day then (ofQ (errQ c reading day), true) else (zF, false)
theorem tupFB_eq {f : FracD × Bool} {b : Bool} (h : f = (zF, b)) : D.tup [encF zF, dB b] = D.tup [encF f.1, dB f.2] := by rw [h]
theorem tupFB_eq' {f : FracD × Bool} {q : Rat} {b : Bool} (h : f = (ofQ q, b)) : D.tup [encF (ofQ q), dB b] = D.tup [encF f.1, dB f.2] := by rw [h]
theorem fadd_q (a b : Rat) (za : (szQ a : Int) ≤ 549755813888) (zb : (szQ b : Int) ≤ 549755813888) : Contract Try.prog 51 [encF (ofQ a), encF (ofQ b)] (.tup [encF (ofQ (a + b)), dI 0]) := by
  have := fadd_c (ofQ a) (ofQ b) za zb
  rwa [addD_ofQ] at this
theorem fsub_q (a b : Rat) (za : (szQ a : Int) ≤ 549755813888) (zb : (szQ b : Int) ≤ 549755813888) : Contract Try.prog 28 [encF (ofQ a), encF (ofQ b)] (.tup [encF (ofQ (a - b)), dI 0]) := by
  have := fsub_c (ofQ a) (ofQ b) za zb
  rwa [subD_ofQ] at this
theorem radd_q (a b : Rat) (za : (szQ a : Int) ≤ 68719476736) (zb : (szQ b : Int) ≤ 68719476736) : Contract Try.prog 65 [encF (ofQ a), encF (ofQ b)] (.tup [encF (ofQ (a + b)), dI 0]) := by
  have := raddF_c (ofQ a) (ofQ b) za zb
  rwa [addD_ofQ] at this
theorem rsub_q (a b : Rat) (za : (szQ a : Int) ≤ 68719476736) (zb : (szQ b : Int) ≤ 68719476736) : Contract Try.prog 67 [encF (ofQ a), encF (ofQ b)] (.tup [encF (ofQ (a - b)), dI 0]) := by
  have := rsubF_c (ofQ a) (ofQ b) za zb
  rwa [subD_ofQ] at this
theorem rsign_q (a : Rat) (za : (szQ a : Int) ≤ 549755813888) : ContractN Try.prog 30 [encF (ofQ a)] (dI (sgQ a)) := by
  have := (rsignF_c (ofQ a) za).toN rfl
  rwa [sgnD_ofQ] at this
theorem inB_iff {n a b : Int} : inB n a b = true ↔ a ≤ n ∧ n ≤ b := by simp [inB]
theorem mul_box {a b A B : Int} (h1 : 0 ≤ a) (h2 : a ≤ A) (h3 : 0 ≤ b) (h4 : b ≤ B) : 0 ≤ a * b ∧ a * b ≤ A * B :=
  ⟨Int.mul_nonneg h1 h3, Int.le_trans (Int.mul_le_mul_of_nonneg_right h2 h3) (Int.mul_le_mul_of_nonneg_left h4 (Int.le_trans h1 h2))⟩
theorem err_bounds {c : CertD} {reading day : Int} (h : errOk c reading day = true) : (0 ≤ c.p * reading ∧ c.p * reading ≤ 1099511627776000) ∧ (0 ≤ day - c.f ∧ day - c.f ≤ 100000) ∧ (0 ≤ c.d * (day - c.f) ∧ c.d * (day - c.f) ≤ 1000000000000) ∧ (0 ≤ c.g ∧ c.g ≤ 1099511627776) ∧ (0 ≤ reading ∧ reading ≤ 1099511627776) := by
  simp only [errOk, coversC, Bool.and_eq_true, rightC_iff, inB_iff, decide_eq_true_eq] at h
  obtain ⟨⟨⟨⟨f0, f1, f2, s1, g1, p1, d1⟩, h1⟩, h2⟩, h3, h4⟩ := h
  have hd : 0 ≤ day - c.f ∧ day - c.f ≤ 100000 := by omega
  exact ⟨mul_box p1.1 p1.2 h3 h4, hd, mul_box d1.1 d1.2 hd.1 hd.2, g1, h3, h4⟩
theorem szQ_frac (p q : Int) (hq : q ≠ 0) (p1 : -9223372036854775808 ≤ p) (p2 : p ≤ 9223372036854775807) (q1 : -9223372036854775808 ≤ q) (q2 : q ≤ 9223372036854775807) : szQ (Rat.divInt p q) ≤ 4 := by
  have h1 := szQ_divInt p q hq
  have h2 := szZ_i64 p p1 (by omega)
  have h3 := szZ_i64 q q1 (by omega)
  omega
theorem szQ_err {c : CertD} {reading day : Int} (h : errOk c reading day = true) : szQ (errQ c reading day) ≤ 9 := by
  obtain ⟨h1, h2, h3, h4, h5⟩ := err_bounds h
  have e1 := szQ_frac (c.p * reading) 1000 (by decide) (by omega) (by omega) (by decide) (by decide)
  have e2 := szQ_int (c.g + c.d * (day - c.f)) (by omega) (by omega)
  have e3 := szQ_add (Rat.divInt (c.p * reading) 1000) ((c.g + c.d * (day - c.f) : Int) : Rat)
  unfold errQ
  omega
theorem err_c (c : CertD) (reading day : Int) : Contract Try.prog 18 [encC c, dI reading, dI day] (.tup [encF (errD c reading day).1, dB (errD c reading day).2]) := by
  have hres := Try.results18
  have hw := within_c reading 1099511627776
  have hv := covers_c c day
  cases h1 : coversC c day
  · rw [h1] at hv
    refine Contract.ofA (CallA.inline Try.func18 rfl (by kernel_rfl) (by kernel_rfl) (by kernel_rfl) ?_)
    rw [Try.ntmps18]
    repeat (first
      | (refine hK _ ?_; clear hK; clear K)
      | (refine aSeq fun K hK => ?_)
      | (refine aBlock ?_)
      | (refine aSkip ?_)
      | (refine aExit ?_)
      | (refine aRet ?_)
      | (refine aOps _ rfl (by kernel_rfl) ?_)
      | (refine aRunK _ rfl mixed (by kernel_rfl) (by kernel_rfl) fun KE hE => ?_)
      | (refine hE _ _ (by kernel_rfl) (intsOk_no rfl) ?_; clear hE; clear KE)
      | (refine hE _ _ (by kernel_rfl) (intsOk_yes ?hi ?hj) ?_; (case hi => (repeat (refine intsDead_updB rfl ?_)); exact intsDead_nil); (case hj => simp); clear hE; clear KE)
      | (refine aCondT rfl ?hc ?_; case hc => simp only [go_sem, ↓reduceIte, hres])
      | (refine aCondF rfl ?hc ?_; case hc => simp only [go_sem, ↓reduceIte, hres])
      | (refine callT_of (hv) ?_ ?_; rotate_left; (repeat (refine intsDead_updB rfl ?_)); exact intsDead_nil)
      | (refine callT_ofN (hv) ?_)
      | (refine callU_of (hv) rfl ?_)
      | (refine callU_ofN (hv) rfl ?_)
      | (refine callT_of (hw) ?_ ?_; rotate_left; (repeat (refine intsDead_updB rfl ?_)); exact intsDead_nil)
      | (refine callT_ofN (hw) ?_)
      | (refine callU_of (hw) rfl ?_)
      | (refine callU_ofN (hw) rfl ?_)
      | (simp only [go_sem, ↓reduceIte, hres])
      | (refine And.intro ?ho ?_; (case ho => omega))
      | (clear hK; clear K))
    exact tupFB_eq (by simp [errD, errOk, h1])
  rw [h1] at hv
  cases h2 : inB reading 0 1099511627776
  · rw [h2] at hw
    refine Contract.ofA (CallA.inline Try.func18 rfl (by kernel_rfl) (by kernel_rfl) (by kernel_rfl) ?_)
    rw [Try.ntmps18]
    repeat (first
      | (refine hK _ ?_; clear hK; clear K)
      | (refine aSeq fun K hK => ?_)
      | (refine aBlock ?_)
      | (refine aSkip ?_)
      | (refine aExit ?_)
      | (refine aRet ?_)
      | (refine aOps _ rfl (by kernel_rfl) ?_)
      | (refine aRunK _ rfl mixed (by kernel_rfl) (by kernel_rfl) fun KE hE => ?_)
      | (refine hE _ _ (by kernel_rfl) (intsOk_no rfl) ?_; clear hE; clear KE)
      | (refine hE _ _ (by kernel_rfl) (intsOk_yes ?hi ?hj) ?_; (case hi => (repeat (refine intsDead_updB rfl ?_)); exact intsDead_nil); (case hj => simp); clear hE; clear KE)
      | (refine aCondT rfl ?hc ?_; case hc => simp only [go_sem, ↓reduceIte, hres])
      | (refine aCondF rfl ?hc ?_; case hc => simp only [go_sem, ↓reduceIte, hres])
      | (refine callT_of (hv) ?_ ?_; rotate_left; (repeat (refine intsDead_updB rfl ?_)); exact intsDead_nil)
      | (refine callT_ofN (hv) ?_)
      | (refine callU_of (hv) rfl ?_)
      | (refine callU_ofN (hv) rfl ?_)
      | (refine callT_of (hw) ?_ ?_; rotate_left; (repeat (refine intsDead_updB rfl ?_)); exact intsDead_nil)
      | (refine callT_ofN (hw) ?_)
      | (refine callU_of (hw) rfl ?_)
      | (refine callU_ofN (hw) rfl ?_)
      | (simp only [go_sem, ↓reduceIte, hres])
      | (refine And.intro ?ho ?_; (case ho => omega))
      | (clear hK; clear K))
    exact tupFB_eq (by simp [errD, errOk, h1, h2])
  rw [h2] at hw
  have hok : errOk c reading day = true := by simp [errOk, h1, h2]
  obtain ⟨b1, b2, b3, b4, b5⟩ := err_bounds hok
  have e1 := szQ_frac (c.p * reading) 1000 (by decide) (by omega) (by omega) (by decide) (by decide)
  have e2 := szQ_int (c.g + c.d * (day - c.f)) (by omega) (by omega)
  have w1 : IntKind.i64.wrap (c.p * reading) = c.p * reading := wrap_in (by omega) (by omega)
  have w2 : IntKind.i64.wrap (day - c.f) = day - c.f := wrap_in (by omega) (by omega)
  have w3 : IntKind.i64.wrap (c.d * (day - c.f)) = c.d * (day - c.f) := wrap_in (by omega) (by omega)
  have w4 : IntKind.i64.wrap (c.g + c.d * (day - c.f)) = c.g + c.d * (day - c.f) := wrap_in (by omega) (by omega)
  have k1 := fof_c (c.p * reading) 1000 (by decide) (by omega) (by omega) (by decide) (by decide)
  have k2 := fint_c (c.g + c.d * (day - c.f)) (by omega) (by omega)
  have k3 := fadd_q (Rat.divInt (c.p * reading) 1000) ((c.g + c.d * (day - c.f) : Int) : Rat) (by omega) (by omega)
  refine Contract.ofA (CallA.inline Try.func18 rfl (by kernel_rfl) (by kernel_rfl) (by kernel_rfl) ?_)
  rw [Try.ntmps18]
  repeat (first
      | (refine hK _ ?_; clear hK; clear K)
      | (refine aSeq fun K hK => ?_)
      | (refine aBlock ?_)
      | (refine aSkip ?_)
      | (refine aExit ?_)
      | (refine aRet ?_)
      | (refine aOps _ rfl (by kernel_rfl) ?_)
      | (refine aRunK _ rfl mixed (by kernel_rfl) (by kernel_rfl) fun KE hE => ?_)
      | (refine hE _ _ (by kernel_rfl) (intsOk_no rfl) ?_; clear hE; clear KE)
      | (refine hE _ _ (by kernel_rfl) (intsOk_yes ?hi ?hj) ?_; (case hi => (repeat (refine intsDead_updB rfl ?_)); exact intsDead_nil); (case hj => simp); clear hE; clear KE)
      | (refine aCondT rfl ?hc ?_; case hc => simp only [go_sem, ↓reduceIte, hres, w1, w2, w3, w4])
      | (refine aCondF rfl ?hc ?_; case hc => simp only [go_sem, ↓reduceIte, hres, w1, w2, w3, w4])
      | (refine callT_of (hv) ?_ ?_; rotate_left; (repeat (refine intsDead_updB rfl ?_)); exact intsDead_nil)
      | (refine callT_ofN (hv) ?_)
      | (refine callU_of (hv) rfl ?_)
      | (refine callU_ofN (hv) rfl ?_)
      | (refine callT_of (hw) ?_ ?_; rotate_left; (repeat (refine intsDead_updB rfl ?_)); exact intsDead_nil)
      | (refine callT_ofN (hw) ?_)
      | (refine callU_of (hw) rfl ?_)
      | (refine callU_ofN (hw) rfl ?_)
      | (refine callT_of (k1) ?_ ?_; rotate_left; (repeat (refine intsDead_updB rfl ?_)); exact intsDead_nil)
      | (refine callT_ofN (k1) ?_)
      | (refine callU_of (k1) rfl ?_)
      | (refine callU_ofN (k1) rfl ?_)
      | (refine callT_of (k2) ?_ ?_; rotate_left; (repeat (refine intsDead_updB rfl ?_)); exact intsDead_nil)
      | (refine callT_ofN (k2) ?_)
      | (refine callU_of (k2) rfl ?_)
      | (refine callU_ofN (k2) rfl ?_)
      | (refine callT_of (k3) ?_ ?_; rotate_left; (repeat (refine intsDead_updB rfl ?_)); exact intsDead_nil)
      | (refine callT_ofN (k3) ?_)
      | (refine callU_of (k3) rfl ?_)
      | (refine callU_ofN (k3) rfl ?_)
      | (simp only [go_sem, ↓reduceIte, hres, w1, w2, w3, w4])
      | (refine And.intro ?ho ?_; (case ho => omega))
      | (clear hK; clear K))
  exact tupFB_eq' (by simp [errD, hok, errQ])
theorem rerr_c (c : CertD) (reading day : Int) : Contract Try.prog 19 [encC c, dI reading, dI day] (.tup [encF (errD c reading day).1, dB (errD c reading day).2]) := by
  have hres := Try.results19
  have hw := rin_c reading 0 1099511627776
  have hv := rright13_c c
  have hd := rin_c day c.f c.u
  cases h1 : rightC c
  · rw [h1] at hv
    refine Contract.ofA (CallA.inline Try.func19 rfl (by kernel_rfl) (by kernel_rfl) (by kernel_rfl) ?_)
    rw [Try.ntmps19]
    repeat (first
      | (refine hK _ ?_; clear hK; clear K)
      | (refine aSeq fun K hK => ?_)
      | (refine aBlock ?_)
      | (refine aSkip ?_)
      | (refine aExit ?_)
      | (refine aRet ?_)
      | (refine aOps _ rfl (by kernel_rfl) ?_)
      | (refine aRunK _ rfl mixed (by kernel_rfl) (by kernel_rfl) fun KE hE => ?_)
      | (refine hE _ _ (by kernel_rfl) (intsOk_no rfl) ?_; clear hE; clear KE)
      | (refine hE _ _ (by kernel_rfl) (intsOk_yes ?hi ?hj) ?_; (case hi => (repeat (refine intsDead_updB rfl ?_)); exact intsDead_nil); (case hj => simp); clear hE; clear KE)
      | (refine aCondT rfl ?hc ?_; case hc => simp only [go_sem, ↓reduceIte, hres])
      | (refine aCondF rfl ?hc ?_; case hc => simp only [go_sem, ↓reduceIte, hres])
      | (refine callT_of (hv) ?_ ?_; rotate_left; (repeat (refine intsDead_updB rfl ?_)); exact intsDead_nil)
      | (refine callT_ofN (hv) ?_)
      | (refine callU_of (hv) rfl ?_)
      | (refine callU_ofN (hv) rfl ?_)
      | (refine callT_of (hw) ?_ ?_; rotate_left; (repeat (refine intsDead_updB rfl ?_)); exact intsDead_nil)
      | (refine callT_ofN (hw) ?_)
      | (refine callU_of (hw) rfl ?_)
      | (refine callU_ofN (hw) rfl ?_)
      | (refine callT_of (hd) ?_ ?_; rotate_left; (repeat (refine intsDead_updB rfl ?_)); exact intsDead_nil)
      | (refine callT_ofN (hd) ?_)
      | (refine callU_of (hd) rfl ?_)
      | (refine callU_ofN (hd) rfl ?_)
      | (simp only [go_sem, ↓reduceIte, hres])
      | (refine And.intro ?ho ?_; (case ho => omega))
      | (clear hK; clear K))
    exact tupFB_eq (by simp [errD, errOk, coversC, h1])
  rw [h1] at hv
  cases h2 : inB reading 0 1099511627776
  · rw [h2] at hw
    refine Contract.ofA (CallA.inline Try.func19 rfl (by kernel_rfl) (by kernel_rfl) (by kernel_rfl) ?_)
    rw [Try.ntmps19]
    repeat (first
      | (refine hK _ ?_; clear hK; clear K)
      | (refine aSeq fun K hK => ?_)
      | (refine aBlock ?_)
      | (refine aSkip ?_)
      | (refine aExit ?_)
      | (refine aRet ?_)
      | (refine aOps _ rfl (by kernel_rfl) ?_)
      | (refine aRunK _ rfl mixed (by kernel_rfl) (by kernel_rfl) fun KE hE => ?_)
      | (refine hE _ _ (by kernel_rfl) (intsOk_no rfl) ?_; clear hE; clear KE)
      | (refine hE _ _ (by kernel_rfl) (intsOk_yes ?hi ?hj) ?_; (case hi => (repeat (refine intsDead_updB rfl ?_)); exact intsDead_nil); (case hj => simp); clear hE; clear KE)
      | (refine aCondT rfl ?hc ?_; case hc => simp only [go_sem, ↓reduceIte, hres])
      | (refine aCondF rfl ?hc ?_; case hc => simp only [go_sem, ↓reduceIte, hres])
      | (refine callT_of (hv) ?_ ?_; rotate_left; (repeat (refine intsDead_updB rfl ?_)); exact intsDead_nil)
      | (refine callT_ofN (hv) ?_)
      | (refine callU_of (hv) rfl ?_)
      | (refine callU_ofN (hv) rfl ?_)
      | (refine callT_of (hw) ?_ ?_; rotate_left; (repeat (refine intsDead_updB rfl ?_)); exact intsDead_nil)
      | (refine callT_ofN (hw) ?_)
      | (refine callU_of (hw) rfl ?_)
      | (refine callU_ofN (hw) rfl ?_)
      | (refine callT_of (hd) ?_ ?_; rotate_left; (repeat (refine intsDead_updB rfl ?_)); exact intsDead_nil)
      | (refine callT_ofN (hd) ?_)
      | (refine callU_of (hd) rfl ?_)
      | (refine callU_ofN (hd) rfl ?_)
      | (simp only [go_sem, ↓reduceIte, hres])
      | (refine And.intro ?ho ?_; (case ho => omega))
      | (clear hK; clear K))
    exact tupFB_eq (by simp [errD, errOk, h2])
  rw [h2] at hw
  cases h3 : inB day c.f c.u
  · rw [h3] at hd
    refine Contract.ofA (CallA.inline Try.func19 rfl (by kernel_rfl) (by kernel_rfl) (by kernel_rfl) ?_)
    rw [Try.ntmps19]
    repeat (first
      | (refine hK _ ?_; clear hK; clear K)
      | (refine aSeq fun K hK => ?_)
      | (refine aBlock ?_)
      | (refine aSkip ?_)
      | (refine aExit ?_)
      | (refine aRet ?_)
      | (refine aOps _ rfl (by kernel_rfl) ?_)
      | (refine aRunK _ rfl mixed (by kernel_rfl) (by kernel_rfl) fun KE hE => ?_)
      | (refine hE _ _ (by kernel_rfl) (intsOk_no rfl) ?_; clear hE; clear KE)
      | (refine hE _ _ (by kernel_rfl) (intsOk_yes ?hi ?hj) ?_; (case hi => (repeat (refine intsDead_updB rfl ?_)); exact intsDead_nil); (case hj => simp); clear hE; clear KE)
      | (refine aCondT rfl ?hc ?_; case hc => simp only [go_sem, ↓reduceIte, hres])
      | (refine aCondF rfl ?hc ?_; case hc => simp only [go_sem, ↓reduceIte, hres])
      | (refine callT_of (hv) ?_ ?_; rotate_left; (repeat (refine intsDead_updB rfl ?_)); exact intsDead_nil)
      | (refine callT_ofN (hv) ?_)
      | (refine callU_of (hv) rfl ?_)
      | (refine callU_ofN (hv) rfl ?_)
      | (refine callT_of (hw) ?_ ?_; rotate_left; (repeat (refine intsDead_updB rfl ?_)); exact intsDead_nil)
      | (refine callT_ofN (hw) ?_)
      | (refine callU_of (hw) rfl ?_)
      | (refine callU_ofN (hw) rfl ?_)
      | (refine callT_of (hd) ?_ ?_; rotate_left; (repeat (refine intsDead_updB rfl ?_)); exact intsDead_nil)
      | (refine callT_ofN (hd) ?_)
      | (refine callU_of (hd) rfl ?_)
      | (refine callU_ofN (hd) rfl ?_)
      | (simp only [go_sem, ↓reduceIte, hres])
      | (refine And.intro ?ho ?_; (case ho => omega))
      | (clear hK; clear K))
    have hcv : coversC c day = false := by simp only [inB] at h3; simp only [coversC, Bool.and_assoc, h3, Bool.and_false]
    exact tupFB_eq (by simp [errD, errOk, hcv])
  rw [h3] at hd
  have h4 : coversC c day = true := by simp only [inB] at h3; simp only [coversC, Bool.and_assoc, h3, h1, Bool.and_self]
  clear h1 h3
  have h1 := h4
  have hok : errOk c reading day = true := by simp [errOk, h1, h2]
  obtain ⟨b1, b2, b3, b4, b5⟩ := err_bounds hok
  have e1 := szQ_frac (c.p * reading) 1000 (by decide) (by omega) (by omega) (by decide) (by decide)
  have e2 := szQ_int (c.g + c.d * (day - c.f)) (by omega) (by omega)
  have w1 : IntKind.i64.wrap (c.p * reading) = c.p * reading := wrap_in (by omega) (by omega)
  have w2 : IntKind.i64.wrap (day - c.f) = day - c.f := wrap_in (by omega) (by omega)
  have w3 : IntKind.i64.wrap (c.d * (day - c.f)) = c.d * (day - c.f) := wrap_in (by omega) (by omega)
  have w4 : IntKind.i64.wrap (c.g + c.d * (day - c.f)) = c.g + c.d * (day - c.f) := wrap_in (by omega) (by omega)
  have k1 := rof_c (c.p * reading) 1000 (by decide) (by omega) (by omega) (by decide) (by decide)
  have k2 := rint_c (c.g + c.d * (day - c.f)) (by omega) (by omega)
  have k3 := radd_q ((c.g + c.d * (day - c.f) : Int) : Rat) (Rat.divInt (c.p * reading) 1000) (by omega) (by omega)
  rw [Rat.add_comm] at k3
  refine Contract.ofA (CallA.inline Try.func19 rfl (by kernel_rfl) (by kernel_rfl) (by kernel_rfl) ?_)
  rw [Try.ntmps19]
  repeat (first
      | (refine hK _ ?_; clear hK; clear K)
      | (refine aSeq fun K hK => ?_)
      | (refine aBlock ?_)
      | (refine aSkip ?_)
      | (refine aExit ?_)
      | (refine aRet ?_)
      | (refine aOps _ rfl (by kernel_rfl) ?_)
      | (refine aRunK _ rfl mixed (by kernel_rfl) (by kernel_rfl) fun KE hE => ?_)
      | (refine hE _ _ (by kernel_rfl) (intsOk_no rfl) ?_; clear hE; clear KE)
      | (refine hE _ _ (by kernel_rfl) (intsOk_yes ?hi ?hj) ?_; (case hi => (repeat (refine intsDead_updB rfl ?_)); exact intsDead_nil); (case hj => simp); clear hE; clear KE)
      | (refine aCondT rfl ?hc ?_; case hc => simp only [go_sem, ↓reduceIte, hres, w1, w2, w3, w4])
      | (refine aCondF rfl ?hc ?_; case hc => simp only [go_sem, ↓reduceIte, hres, w1, w2, w3, w4])
      | (refine callT_of (hv) ?_ ?_; rotate_left; (repeat (refine intsDead_updB rfl ?_)); exact intsDead_nil)
      | (refine callT_ofN (hv) ?_)
      | (refine callU_of (hv) rfl ?_)
      | (refine callU_ofN (hv) rfl ?_)
      | (refine callT_of (hw) ?_ ?_; rotate_left; (repeat (refine intsDead_updB rfl ?_)); exact intsDead_nil)
      | (refine callT_ofN (hw) ?_)
      | (refine callU_of (hw) rfl ?_)
      | (refine callU_ofN (hw) rfl ?_)
      | (refine callT_of (hd) ?_ ?_; rotate_left; (repeat (refine intsDead_updB rfl ?_)); exact intsDead_nil)
      | (refine callT_ofN (hd) ?_)
      | (refine callU_of (hd) rfl ?_)
      | (refine callU_ofN (hd) rfl ?_)
      | (refine callT_of (k1) ?_ ?_; rotate_left; (repeat (refine intsDead_updB rfl ?_)); exact intsDead_nil)
      | (refine callT_ofN (k1) ?_)
      | (refine callU_of (k1) rfl ?_)
      | (refine callU_ofN (k1) rfl ?_)
      | (refine callT_of (k2) ?_ ?_; rotate_left; (repeat (refine intsDead_updB rfl ?_)); exact intsDead_nil)
      | (refine callT_ofN (k2) ?_)
      | (refine callU_of (k2) rfl ?_)
      | (refine callU_ofN (k2) rfl ?_)
      | (refine callT_of (k3) ?_ ?_; rotate_left; (repeat (refine intsDead_updB rfl ?_)); exact intsDead_nil)
      | (refine callT_ofN (k3) ?_)
      | (refine callU_of (k3) rfl ?_)
      | (refine callU_ofN (k3) rfl ?_)
      | (simp only [go_sem, ↓reduceIte, hres, w1, w2, w3, w4])
      | (refine And.intro ?ho ?_; (case ho => omega))
      | (clear hK; clear K))
  exact tupFB_eq' (by simp [errD, hok, errQ])
end Go.Proofs.Ytenmlcpbjjlokaa

/-
  The interval of a reading: scale's and the reference's.
-/
namespace Go.Proofs.Ytenmlcpbjjlokaa
set_option linter.unusedVariables false
set_option linter.unusedSimpArgs false
open Go Go.RowKit
attribute [local go_sem] opsL_nil opsL_go opsL_guard gSel_tt gSel_ff gSel_tf gSel_ft stepR_some stepR_none callS_some callE_some runL_nil runL_go runL_guard gSelE_tt gSelE_ff gSelE_tf gSelE_ft stepE_some stepE_none opF callD rd constD putT upd_get guardL gOf_bool gOf_undef fieldAddrF fieldF loadF storeF indexAddrF indexF sliceF strSliceF bound buildF fillF buildSliceF elemsF allocF makeSliceF lenF elemsOf appendF minmaxF convertF boxF ldE blkAt spliceE D.cells? D.isCell Res.pure ov TyI.agg binD unD boolD initT thenA inBlockA argD argDs refsD refsL killW datJ datJs endA_ret endA_normal endR_some oneD_one oneD_two oneD_three oneD_four resDs resD fzT Value.oneCell' strip tabT tabM
attribute [local go_sem] List.map Nat.reduceEqDiff Nat.reduceBEq List.getElem?_cons_zero List.getElem?_cons_succ List.getElem?_nil Option.getD_some Option.getD_none true_and and_true true_or or_true false_or or_false and_self Nat.add_zero Nat.zero_add List.length_nil List.length_cons forall_const ite_true ite_false Bool.or_self Bool.false_eq_true Option.map_some Option.map_none beq_self_eq_true Nat.reduceAdd Nat.reduceSub Nat.reduceMul reduceCtorEq List.getElem?_toArray Bool.not_true Bool.not_false decide_eq_true_eq decide_true decide_false Nat.reduceLeDiff Nat.reduceLT Bool.or_false Bool.or_true Bool.and_true Bool.and_false Bool.false_and Bool.true_and Bool.true_beq Bool.false_beq beq_true beq_false Bool.not_eq_true List.drop_succ_cons List.take_succ_cons List.drop_zero List.take_zero List.length_map List.getElem?_map List.length_append List.all_cons List.all_nil List.append_nil List.nil_append List.cons_append List.set_cons_zero List.set_cons_succ Int.toNat_natCast Int.toNat_zero Option.isSome_some Option.isSome_none Array.size_empty ByteArray.size_empty Int.reduceToNat Int.reduceAdd Int.reduceSub Int.reduceLT Int.reduceLE Int.reduceEq Int.reduceNe Int.reduceBEq Int.reduceNeg List.forall_mem_cons List.not_mem_nil false_implies List.forall_mem_map implies_true Nat.reduceBNe Int.cast_ofNat_Int Int.reduceMul Int.reduceGE Int.reduceGT wrap_in ty_2 ty_3 ty_4 ty_5 ty_6 ty_7 ty_8 ty_9 ty_10 ty_11 ty_12 ty_13 ty_14 ty_18 ty_19 ty_21 ty_22 ty_23 ty_24 ty_25 ty_30 ty_31 ty_32 ty_33 ty_34 ty_44 ty_51 ty_52 ty_54 ty_55 ty_56 ty_57 ty_58 ty_74 ty_75 ty_78 ty_93 ty_94 ty_121 ty_122 ty_131 ty_132 ty_133 ty_134 ty_135 ty_137 ty_138 ty_139 ty_142 ty_143 ty_144 ty_145
set_option maxRecDepth 100000
set_option maxHeartbeats 1000000

/-- The interval: the least, the greatest, and whether there is one. -/
structure IntD where
  lo : FracD
  hi : FracD
  ok : Bool
def noI : IntD := ⟨zF, zF, false⟩
def okI (r e : Rat) : IntD := ⟨ofQ (maxQ (r - e) 0), ofQ (r + e), true⟩
def intD (cs : List CertD) (rs : List RecD) (which reading day : Int) : IntD :=
  match findC cs which day with
  | none => noI
  | some b => match cs[b]? with
    | none => noI
    | some c => if recC rs which day || !inB reading 0 1099511627776 then noI else okI (reading : Int) (errQ c reading day)
abbrev encI (x : IntD) : D := .tup [encF x.lo, encF x.hi, dB x.ok]
theorem tupI_eq {x y : IntD} (h : x = y) : encI y = encI x := by rw [h]
theorem findC_some {cs : List CertD} {s day : Int} {b : Nat} (h : findC cs s day = some b) : b < cs.length ∧ ∃ c, cs[b]? = some c ∧ coversC c day = true ∧ c.s = s := by
  obtain ⟨h1, c, h2, h3⟩ := findN_lt _ b h
  simp only [ownC, Bool.and_eq_true, beq_iff_eq] at h3
  exact ⟨h1, c, h2, h3.2, h3.1⟩
theorem maxQ_zero (x : Rat) : maxQ x 0 = if sgQ x < 0 then 0 else x := by
  unfold maxQ
  rcases sgQ_cases x with ⟨h, e⟩ | ⟨h, e⟩ | ⟨h, e⟩
  · rw [if_pos (by grind), if_pos (by omega)]
  · rw [if_pos (by grind), if_neg (by omega), h]
  · rw [if_neg (by grind), if_neg (by omega)]

theorem inter_c (cs : List CertD) (rs : List RecD) (which reading day : Int) (hc : (cs.length : Int) ≤ 1099511627776) (hl : (rs.length : Int) ≤ 1099511627776) : Contract Try.prog 20 [encCs cs, encRs rs, dI which, dI reading, dI day] (encI (intD cs rs which reading day)) := by
  have hres := Try.results20
  have hf := find_c cs which day hc
  have hr := recalled_c rs which day hl
  cases h1 : findC cs which day with
  | none =>
    rw [h1] at hf
    refine Contract.ofA (CallA.inline Try.func20 rfl (by kernel_rfl) (by kernel_rfl) (by kernel_rfl) ?_)
    rw [Try.ntmps20]
    repeat (first
      | (refine hK _ ?_; clear hK; clear K)
      | (refine aSeq fun K hK => ?_)
      | (refine aBlock ?_)
      | (refine aSkip ?_)
      | (refine aExit ?_)
      | (refine aRet ?_)
      | (refine aOps _ rfl (by kernel_rfl) ?_)
      | (refine aRunK _ rfl mixed (by kernel_rfl) (by kernel_rfl) fun KE hE => ?_)
      | (refine hE _ _ (by kernel_rfl) (intsOk_no rfl) ?_; clear hE; clear KE)
      | (refine hE _ _ (by kernel_rfl) (intsOk_yes ?hi ?hj) ?_; (case hi => (repeat (refine intsDead_updB rfl ?_)); exact intsDead_nil); (case hj => simp); clear hE; clear KE)
      | (refine aCondT rfl ?hc ?_; case hc => simp only [go_sem, ↓reduceIte, hres])
      | (refine aCondF rfl ?hc ?_; case hc => simp only [go_sem, ↓reduceIte, hres])
      | (refine callT_of (hf) ?_ ?_; rotate_left; (repeat (refine intsDead_updB rfl ?_)); exact intsDead_nil)
      | (refine callT_ofN (hf) ?_)
      | (refine callU_of (hf) rfl ?_)
      | (refine callU_ofN (hf) rfl ?_)
      | (refine callT_of (hr) ?_ ?_; rotate_left; (repeat (refine intsDead_updB rfl ?_)); exact intsDead_nil)
      | (refine callT_ofN (hr) ?_)
      | (refine callU_of (hr) rfl ?_)
      | (refine callU_ofN (hr) rfl ?_)
      | (simp only [go_sem, ↓reduceIte, hres])
      | (refine And.intro ?ho ?_; (case ho => omega))
      | (clear hK; clear K))
    exact tupI_eq (y := noI) (by simp [intD, h1])
  | some b =>
    rw [h1] at hf
    obtain ⟨hb, c, hx, hcv, _⟩ := findC_some h1
    have h5 : (0 : Int) ≤ b := by omega
    have h6 : (b : Int) < cs.length := by omega
    cases h2 : recC rs which day
    rotate_left
    · rw [h2] at hr
      refine Contract.ofA (CallA.inline Try.func20 rfl (by kernel_rfl) (by kernel_rfl) (by kernel_rfl) ?_)
      rw [Try.ntmps20]
      repeat (first
      | (refine hK _ ?_; clear hK; clear K)
      | (refine aSeq fun K hK => ?_)
      | (refine aBlock ?_)
      | (refine aSkip ?_)
      | (refine aExit ?_)
      | (refine aRet ?_)
      | (refine aOps _ rfl (by kernel_rfl) ?_)
      | (refine aRunK _ rfl mixed (by kernel_rfl) (by kernel_rfl) fun KE hE => ?_)
      | (refine hE _ _ (by kernel_rfl) (intsOk_no rfl) ?_; clear hE; clear KE)
      | (refine hE _ _ (by kernel_rfl) (intsOk_yes ?hi ?hj) ?_; (case hi => (repeat (refine intsDead_updB rfl ?_)); exact intsDead_nil); (case hj => simp); clear hE; clear KE)
      | (refine aCondT rfl ?hc ?_; case hc => simp only [go_sem, ↓reduceIte, hres])
      | (refine aCondF rfl ?hc ?_; case hc => simp only [go_sem, ↓reduceIte, hres])
      | (refine callT_of (hf) ?_ ?_; rotate_left; (repeat (refine intsDead_updB rfl ?_)); exact intsDead_nil)
      | (refine callT_ofN (hf) ?_)
      | (refine callU_of (hf) rfl ?_)
      | (refine callU_ofN (hf) rfl ?_)
      | (refine callT_of (hr) ?_ ?_; rotate_left; (repeat (refine intsDead_updB rfl ?_)); exact intsDead_nil)
      | (refine callT_ofN (hr) ?_)
      | (refine callU_of (hr) rfl ?_)
      | (refine callU_ofN (hr) rfl ?_)
      | (simp only [go_sem, ↓reduceIte, hres])
      | (refine And.intro ?ho ?_; (case ho => omega))
      | (clear hK; clear K))
      exact tupI_eq (y := noI) (by simp [intD, h1, hx, h2])
    rw [h2] at hr
    have he := err_c c reading day
    cases h3 : inB reading 0 1099511627776
    · rw [show errD c reading day = (zF, false) by simp [errD, errOk, h3]] at he
      refine Contract.ofA (CallA.inline Try.func20 rfl (by kernel_rfl) (by kernel_rfl) (by kernel_rfl) ?_)
      rw [Try.ntmps20]
      repeat (first
      | (refine hK _ ?_; clear hK; clear K)
      | (refine aSeq fun K hK => ?_)
      | (refine aBlock ?_)
      | (refine aSkip ?_)
      | (refine aExit ?_)
      | (refine aRet ?_)
      | (refine aOps _ rfl (by kernel_rfl) ?_)
      | (refine aRunK _ rfl mixed (by kernel_rfl) (by kernel_rfl) fun KE hE => ?_)
      | (refine hE _ _ (by kernel_rfl) (intsOk_no rfl) ?_; clear hE; clear KE)
      | (refine hE _ _ (by kernel_rfl) (intsOk_yes ?hi ?hj) ?_; (case hi => (repeat (refine intsDead_updB rfl ?_)); exact intsDead_nil); (case hj => simp); clear hE; clear KE)
      | (refine aCondT rfl ?hc ?_; case hc => simp only [go_sem, ↓reduceIte, hres, hx, h5, h6])
      | (refine aCondF rfl ?hc ?_; case hc => simp only [go_sem, ↓reduceIte, hres, hx, h5, h6])
      | (refine callT_of (hf) ?_ ?_; rotate_left; (repeat (refine intsDead_updB rfl ?_)); exact intsDead_nil)
      | (refine callT_ofN (hf) ?_)
      | (refine callU_of (hf) rfl ?_)
      | (refine callU_ofN (hf) rfl ?_)
      | (refine callT_of (hr) ?_ ?_; rotate_left; (repeat (refine intsDead_updB rfl ?_)); exact intsDead_nil)
      | (refine callT_ofN (hr) ?_)
      | (refine callU_of (hr) rfl ?_)
      | (refine callU_ofN (hr) rfl ?_)
      | (refine callT_of (he) ?_ ?_; rotate_left; (repeat (refine intsDead_updB rfl ?_)); exact intsDead_nil)
      | (refine callT_ofN (he) ?_)
      | (refine callU_of (he) rfl ?_)
      | (refine callU_ofN (he) rfl ?_)
      | (simp only [go_sem, ↓reduceIte, hres, hx, h5, h6])
      | (refine And.intro ?ho ?_; (case ho => omega))
      | (clear hK; clear K))
      exact tupI_eq (y := noI) (by simp [intD, h1, hx, h2, h3])
    have hok : errOk c reading day = true := by simp [errOk, hcv, h3]
    have hz := szQ_err hok
    obtain ⟨b1, b2, b3, b4, b5⟩ := err_bounds hok
    rw [show errD c reading day = (ofQ (errQ c reading day), true) by simp [errD, hok]] at he
    have hid : intD cs rs which reading day = okI reading (errQ c reading day) := by simp [intD, h1, hx, h2, h3]
    rw [hid]
    generalize errQ c reading day = e at *
    have z1 := szQ_int reading (by omega) (by omega)
    have z2 := szQ_sub (reading : Rat) e
    have z3 := szQ_int 0 (by decide) (by decide)
    have k1 := fint_c reading (by omega) (by omega)
    have k2 := fsub_q (reading : Rat) e (by omega) (by omega)
    have k3 := fadd_q (reading : Rat) e (by omega) (by omega)
    have k0 := fint_c 0 (by decide) (by decide)
    have k4 := fmax_c ((reading : Rat) - e) ((0 : Int) : Rat) (by omega) (by omega)
    refine Contract.ofA (CallA.inline Try.func20 rfl (by kernel_rfl) (by kernel_rfl) (by kernel_rfl) ?_)
    rw [Try.ntmps20]
    repeat (first
      | (refine hK _ ?_; clear hK; clear K)
      | (refine aSeq fun K hK => ?_)
      | (refine aBlock ?_)
      | (refine aSkip ?_)
      | (refine aExit ?_)
      | (refine aRet ?_)
      | (refine aOps _ rfl (by kernel_rfl) ?_)
      | (refine aRunK _ rfl mixed (by kernel_rfl) (by kernel_rfl) fun KE hE => ?_)
      | (refine hE _ _ (by kernel_rfl) (intsOk_no rfl) ?_; clear hE; clear KE)
      | (refine hE _ _ (by kernel_rfl) (intsOk_yes ?hi ?hj) ?_; (case hi => (repeat (refine intsDead_updB rfl ?_)); exact intsDead_nil); (case hj => simp); clear hE; clear KE)
      | (refine aCondT rfl ?hc ?_; case hc => simp only [go_sem, ↓reduceIte, hres, hx, h5, h6])
      | (refine aCondF rfl ?hc ?_; case hc => simp only [go_sem, ↓reduceIte, hres, hx, h5, h6])
      | (refine callT_of (hf) ?_ ?_; rotate_left; (repeat (refine intsDead_updB rfl ?_)); exact intsDead_nil)
      | (refine callT_ofN (hf) ?_)
      | (refine callU_of (hf) rfl ?_)
      | (refine callU_ofN (hf) rfl ?_)
      | (refine callT_of (hr) ?_ ?_; rotate_left; (repeat (refine intsDead_updB rfl ?_)); exact intsDead_nil)
      | (refine callT_ofN (hr) ?_)
      | (refine callU_of (hr) rfl ?_)
      | (refine callU_ofN (hr) rfl ?_)
      | (refine callT_of (he) ?_ ?_; rotate_left; (repeat (refine intsDead_updB rfl ?_)); exact intsDead_nil)
      | (refine callT_ofN (he) ?_)
      | (refine callU_of (he) rfl ?_)
      | (refine callU_ofN (he) rfl ?_)
      | (refine callT_of (k1) ?_ ?_; rotate_left; (repeat (refine intsDead_updB rfl ?_)); exact intsDead_nil)
      | (refine callT_ofN (k1) ?_)
      | (refine callU_of (k1) rfl ?_)
      | (refine callU_ofN (k1) rfl ?_)
      | (refine callT_of (k2) ?_ ?_; rotate_left; (repeat (refine intsDead_updB rfl ?_)); exact intsDead_nil)
      | (refine callT_ofN (k2) ?_)
      | (refine callU_of (k2) rfl ?_)
      | (refine callU_ofN (k2) rfl ?_)
      | (refine callT_of (k3) ?_ ?_; rotate_left; (repeat (refine intsDead_updB rfl ?_)); exact intsDead_nil)
      | (refine callT_ofN (k3) ?_)
      | (refine callU_of (k3) rfl ?_)
      | (refine callU_ofN (k3) rfl ?_)
      | (refine callT_of (k4) ?_ ?_; rotate_left; (repeat (refine intsDead_updB rfl ?_)); exact intsDead_nil)
      | (refine callT_ofN (k4) ?_)
      | (refine callU_of (k4) rfl ?_)
      | (refine callU_ofN (k4) rfl ?_)
      | (refine callT_of (k0) ?_ ?_; rotate_left; (repeat (refine intsDead_updB rfl ?_)); exact intsDead_nil)
      | (refine callT_ofN (k0) ?_)
      | (refine callU_of (k0) rfl ?_)
      | (refine callU_ofN (k0) rfl ?_)
      | (simp only [go_sem, ↓reduceIte, hres, hx, h5, h6])
      | (refine And.intro ?ho ?_; (case ho => omega))
      | (clear hK; clear K))
    exact tupI_eq (y := ⟨ofQ (maxQ (reading - e) ((0 : Int) : Rat)), ofQ (reading + e), true⟩) rfl
theorem rinter_c (cs : List CertD) (rs : List RecD) (which reading day : Int) (hc : (cs.length : Int) ≤ 1099511627776) (hl : (rs.length : Int) ≤ 1099511627776) : Contract Try.prog 21 [encCs cs, encRs rs, dI which, dI reading, dI day] (encI (intD cs rs which reading day)) := by
  have hres := Try.results21
  have hf := rfind_c cs which day hc
  have hr := rrecalled_c rs which day hl
  have hi := rin_c reading 0 1099511627776
  cases h1 : findC cs which day with
  | none =>
    rw [h1] at hf
    refine Contract.ofA (CallA.inline Try.func21 rfl (by kernel_rfl) (by kernel_rfl) (by kernel_rfl) ?_)
    rw [Try.ntmps21]
    repeat (first
      | (refine hK _ ?_; clear hK; clear K)
      | (refine aSeq fun K hK => ?_)
      | (refine aBlock ?_)
      | (refine aSkip ?_)
      | (refine aExit ?_)
      | (refine aRet ?_)
      | (refine aOps _ rfl (by kernel_rfl) ?_)
      | (refine aRunK _ rfl mixed (by kernel_rfl) (by kernel_rfl) fun KE hE => ?_)
      | (refine hE _ _ (by kernel_rfl) (intsOk_no rfl) ?_; clear hE; clear KE)
      | (refine hE _ _ (by kernel_rfl) (intsOk_yes ?hi ?hj) ?_; (case hi => (repeat (refine intsDead_updB rfl ?_)); exact intsDead_nil); (case hj => simp); clear hE; clear KE)
      | (refine aCondT rfl ?hc ?_; case hc => simp only [go_sem, ↓reduceIte, hres])
      | (refine aCondF rfl ?hc ?_; case hc => simp only [go_sem, ↓reduceIte, hres])
      | (refine callT_of (hf) ?_ ?_; rotate_left; (repeat (refine intsDead_updB rfl ?_)); exact intsDead_nil)
      | (refine callT_ofN (hf) ?_)
      | (refine callU_of (hf) rfl ?_)
      | (refine callU_ofN (hf) rfl ?_)
      | (refine callT_of (hr) ?_ ?_; rotate_left; (repeat (refine intsDead_updB rfl ?_)); exact intsDead_nil)
      | (refine callT_ofN (hr) ?_)
      | (refine callU_of (hr) rfl ?_)
      | (refine callU_ofN (hr) rfl ?_)
      | (refine callT_of (hi) ?_ ?_; rotate_left; (repeat (refine intsDead_updB rfl ?_)); exact intsDead_nil)
      | (refine callT_ofN (hi) ?_)
      | (refine callU_of (hi) rfl ?_)
      | (refine callU_ofN (hi) rfl ?_)
      | (simp only [go_sem, ↓reduceIte, hres])
      | (refine And.intro ?ho ?_; (case ho => omega))
      | (clear hK; clear K))
    exact tupI_eq (y := noI) (by simp [intD, h1])
  | some b =>
    rw [h1] at hf
    obtain ⟨hb, c, hx, hcv, _⟩ := findC_some h1
    have h5 : (0 : Int) ≤ b := by omega
    have h6 : (b : Int) < cs.length := by omega
    cases h2 : recC rs which day
    rotate_left
    · rw [h2] at hr
      refine Contract.ofA (CallA.inline Try.func21 rfl (by kernel_rfl) (by kernel_rfl) (by kernel_rfl) ?_)
      rw [Try.ntmps21]
      repeat (first
      | (refine hK _ ?_; clear hK; clear K)
      | (refine aSeq fun K hK => ?_)
      | (refine aBlock ?_)
      | (refine aSkip ?_)
      | (refine aExit ?_)
      | (refine aRet ?_)
      | (refine aOps _ rfl (by kernel_rfl) ?_)
      | (refine aRunK _ rfl mixed (by kernel_rfl) (by kernel_rfl) fun KE hE => ?_)
      | (refine hE _ _ (by kernel_rfl) (intsOk_no rfl) ?_; clear hE; clear KE)
      | (refine hE _ _ (by kernel_rfl) (intsOk_yes ?hi ?hj) ?_; (case hi => (repeat (refine intsDead_updB rfl ?_)); exact intsDead_nil); (case hj => simp); clear hE; clear KE)
      | (refine aCondT rfl ?hc ?_; case hc => simp only [go_sem, ↓reduceIte, hres])
      | (refine aCondF rfl ?hc ?_; case hc => simp only [go_sem, ↓reduceIte, hres])
      | (refine callT_of (hf) ?_ ?_; rotate_left; (repeat (refine intsDead_updB rfl ?_)); exact intsDead_nil)
      | (refine callT_ofN (hf) ?_)
      | (refine callU_of (hf) rfl ?_)
      | (refine callU_ofN (hf) rfl ?_)
      | (refine callT_of (hr) ?_ ?_; rotate_left; (repeat (refine intsDead_updB rfl ?_)); exact intsDead_nil)
      | (refine callT_ofN (hr) ?_)
      | (refine callU_of (hr) rfl ?_)
      | (refine callU_ofN (hr) rfl ?_)
      | (refine callT_of (hi) ?_ ?_; rotate_left; (repeat (refine intsDead_updB rfl ?_)); exact intsDead_nil)
      | (refine callT_ofN (hi) ?_)
      | (refine callU_of (hi) rfl ?_)
      | (refine callU_ofN (hi) rfl ?_)
      | (simp only [go_sem, ↓reduceIte, hres])
      | (refine And.intro ?ho ?_; (case ho => omega))
      | (clear hK; clear K))
      exact tupI_eq (y := noI) (by simp [intD, h1, hx, h2])
    rw [h2] at hr
    have he := rerr_c c reading day
    cases h3 : inB reading 0 1099511627776
    · rw [h3] at hi
      refine Contract.ofA (CallA.inline Try.func21 rfl (by kernel_rfl) (by kernel_rfl) (by kernel_rfl) ?_)
      rw [Try.ntmps21]
      repeat (first
      | (refine hK _ ?_; clear hK; clear K)
      | (refine aSeq fun K hK => ?_)
      | (refine aBlock ?_)
      | (refine aSkip ?_)
      | (refine aExit ?_)
      | (refine aRet ?_)
      | (refine aOps _ rfl (by kernel_rfl) ?_)
      | (refine aRunK _ rfl mixed (by kernel_rfl) (by kernel_rfl) fun KE hE => ?_)
      | (refine hE _ _ (by kernel_rfl) (intsOk_no rfl) ?_; clear hE; clear KE)
      | (refine hE _ _ (by kernel_rfl) (intsOk_yes ?hi ?hj) ?_; (case hi => (repeat (refine intsDead_updB rfl ?_)); exact intsDead_nil); (case hj => simp); clear hE; clear KE)
      | (refine aCondT rfl ?hc ?_; case hc => simp only [go_sem, ↓reduceIte, hres])
      | (refine aCondF rfl ?hc ?_; case hc => simp only [go_sem, ↓reduceIte, hres])
      | (refine callT_of (hf) ?_ ?_; rotate_left; (repeat (refine intsDead_updB rfl ?_)); exact intsDead_nil)
      | (refine callT_ofN (hf) ?_)
      | (refine callU_of (hf) rfl ?_)
      | (refine callU_ofN (hf) rfl ?_)
      | (refine callT_of (hr) ?_ ?_; rotate_left; (repeat (refine intsDead_updB rfl ?_)); exact intsDead_nil)
      | (refine callT_ofN (hr) ?_)
      | (refine callU_of (hr) rfl ?_)
      | (refine callU_ofN (hr) rfl ?_)
      | (refine callT_of (hi) ?_ ?_; rotate_left; (repeat (refine intsDead_updB rfl ?_)); exact intsDead_nil)
      | (refine callT_ofN (hi) ?_)
      | (refine callU_of (hi) rfl ?_)
      | (refine callU_ofN (hi) rfl ?_)
      | (simp only [go_sem, ↓reduceIte, hres])
      | (refine And.intro ?ho ?_; (case ho => omega))
      | (clear hK; clear K))
      exact tupI_eq (y := noI) (by simp [intD, h1, hx, h2, h3])
    rw [h3] at hi
    have hok : errOk c reading day = true := by simp [errOk, hcv, h3]
    have hz := szQ_err hok
    obtain ⟨b1, b2, b3, b4, b5⟩ := err_bounds hok
    rw [show errD c reading day = (ofQ (errQ c reading day), true) by simp [errD, hok]] at he
    have hid : intD cs rs which reading day = okI reading (errQ c reading day) := by simp [intD, h1, hx, h2, h3]
    rw [hid]
    generalize errQ c reading day = e at *
    have z1 := szQ_int reading (by omega) (by omega)
    have z2 := szQ_sub (reading : Rat) e
    have z3 := szQ_int 0 (by decide) (by decide)
    have k1 := rint_c reading (by omega) (by omega)
    have k2 := rsub_q (reading : Rat) e (by omega) (by omega)
    have k3 := radd_q (reading : Rat) e (by omega) (by omega)
    have k0 := rint_c 0 (by decide) (by decide)
    have k4 := rsign_q ((reading : Rat) - e) (by omega)
    by_cases h7 : sgQ ((reading : Rat) - e) < 0
    · refine Contract.ofA (CallA.inline Try.func21 rfl (by kernel_rfl) (by kernel_rfl) (by kernel_rfl) ?_)
      rw [Try.ntmps21]
      repeat (first
      | (refine hK _ ?_; clear hK; clear K)
      | (refine aSeq fun K hK => ?_)
      | (refine aBlock ?_)
      | (refine aSkip ?_)
      | (refine aExit ?_)
      | (refine aRet ?_)
      | (refine aOps _ rfl (by kernel_rfl) ?_)
      | (refine aRunK _ rfl mixed (by kernel_rfl) (by kernel_rfl) fun KE hE => ?_)
      | (refine hE _ _ (by kernel_rfl) (intsOk_no rfl) ?_; clear hE; clear KE)
      | (refine hE _ _ (by kernel_rfl) (intsOk_yes ?hi ?hj) ?_; (case hi => (repeat (refine intsDead_updB rfl ?_)); exact intsDead_nil); (case hj => simp); clear hE; clear KE)
      | (refine aCondT rfl ?hc ?_; case hc => simp only [go_sem, ↓reduceIte, hres, hx, h5, h6, h7])
      | (refine aCondF rfl ?hc ?_; case hc => simp only [go_sem, ↓reduceIte, hres, hx, h5, h6, h7])
      | (refine callT_of (hf) ?_ ?_; rotate_left; (repeat (refine intsDead_updB rfl ?_)); exact intsDead_nil)
      | (refine callT_ofN (hf) ?_)
      | (refine callU_of (hf) rfl ?_)
      | (refine callU_ofN (hf) rfl ?_)
      | (refine callT_of (hr) ?_ ?_; rotate_left; (repeat (refine intsDead_updB rfl ?_)); exact intsDead_nil)
      | (refine callT_ofN (hr) ?_)
      | (refine callU_of (hr) rfl ?_)
      | (refine callU_ofN (hr) rfl ?_)
      | (refine callT_of (hi) ?_ ?_; rotate_left; (repeat (refine intsDead_updB rfl ?_)); exact intsDead_nil)
      | (refine callT_ofN (hi) ?_)
      | (refine callU_of (hi) rfl ?_)
      | (refine callU_ofN (hi) rfl ?_)
      | (refine callT_of (he) ?_ ?_; rotate_left; (repeat (refine intsDead_updB rfl ?_)); exact intsDead_nil)
      | (refine callT_ofN (he) ?_)
      | (refine callU_of (he) rfl ?_)
      | (refine callU_ofN (he) rfl ?_)
      | (refine callT_of (k1) ?_ ?_; rotate_left; (repeat (refine intsDead_updB rfl ?_)); exact intsDead_nil)
      | (refine callT_ofN (k1) ?_)
      | (refine callU_of (k1) rfl ?_)
      | (refine callU_ofN (k1) rfl ?_)
      | (refine callT_of (k2) ?_ ?_; rotate_left; (repeat (refine intsDead_updB rfl ?_)); exact intsDead_nil)
      | (refine callT_ofN (k2) ?_)
      | (refine callU_of (k2) rfl ?_)
      | (refine callU_ofN (k2) rfl ?_)
      | (refine callT_of (k3) ?_ ?_; rotate_left; (repeat (refine intsDead_updB rfl ?_)); exact intsDead_nil)
      | (refine callT_ofN (k3) ?_)
      | (refine callU_of (k3) rfl ?_)
      | (refine callU_ofN (k3) rfl ?_)
      | (refine callT_of (k4) ?_ ?_; rotate_left; (repeat (refine intsDead_updB rfl ?_)); exact intsDead_nil)
      | (refine callT_ofN (k4) ?_)
      | (refine callU_of (k4) rfl ?_)
      | (refine callU_ofN (k4) rfl ?_)
      | (refine callT_of (k0) ?_ ?_; rotate_left; (repeat (refine intsDead_updB rfl ?_)); exact intsDead_nil)
      | (refine callT_ofN (k0) ?_)
      | (refine callU_of (k0) rfl ?_)
      | (refine callU_ofN (k0) rfl ?_)
      | (simp only [go_sem, ↓reduceIte, hres, hx, h5, h6, h7])
      | (refine And.intro ?ho ?_; (case ho => omega))
      | (clear hK; clear K))
      exact tupI_eq (y := ⟨ofQ ((0 : Int) : Rat), ofQ (reading + e), true⟩) (by unfold okI; rw [maxQ_zero, if_pos h7]; rfl)
    · refine Contract.ofA (CallA.inline Try.func21 rfl (by kernel_rfl) (by kernel_rfl) (by kernel_rfl) ?_)
      rw [Try.ntmps21]
      repeat (first
      | (refine hK _ ?_; clear hK; clear K)
      | (refine aSeq fun K hK => ?_)
      | (refine aBlock ?_)
      | (refine aSkip ?_)
      | (refine aExit ?_)
      | (refine aRet ?_)
      | (refine aOps _ rfl (by kernel_rfl) ?_)
      | (refine aRunK _ rfl mixed (by kernel_rfl) (by kernel_rfl) fun KE hE => ?_)
      | (refine hE _ _ (by kernel_rfl) (intsOk_no rfl) ?_; clear hE; clear KE)
      | (refine hE _ _ (by kernel_rfl) (intsOk_yes ?hi ?hj) ?_; (case hi => (repeat (refine intsDead_updB rfl ?_)); exact intsDead_nil); (case hj => simp); clear hE; clear KE)
      | (refine aCondT rfl ?hc ?_; case hc => simp only [go_sem, ↓reduceIte, hres, hx, h5, h6, h7])
      | (refine aCondF rfl ?hc ?_; case hc => simp only [go_sem, ↓reduceIte, hres, hx, h5, h6, h7])
      | (refine callT_of (hf) ?_ ?_; rotate_left; (repeat (refine intsDead_updB rfl ?_)); exact intsDead_nil)
      | (refine callT_ofN (hf) ?_)
      | (refine callU_of (hf) rfl ?_)
      | (refine callU_ofN (hf) rfl ?_)
      | (refine callT_of (hr) ?_ ?_; rotate_left; (repeat (refine intsDead_updB rfl ?_)); exact intsDead_nil)
      | (refine callT_ofN (hr) ?_)
      | (refine callU_of (hr) rfl ?_)
      | (refine callU_ofN (hr) rfl ?_)
      | (refine callT_of (hi) ?_ ?_; rotate_left; (repeat (refine intsDead_updB rfl ?_)); exact intsDead_nil)
      | (refine callT_ofN (hi) ?_)
      | (refine callU_of (hi) rfl ?_)
      | (refine callU_ofN (hi) rfl ?_)
      | (refine callT_of (he) ?_ ?_; rotate_left; (repeat (refine intsDead_updB rfl ?_)); exact intsDead_nil)
      | (refine callT_ofN (he) ?_)
      | (refine callU_of (he) rfl ?_)
      | (refine callU_ofN (he) rfl ?_)
      | (refine callT_of (k1) ?_ ?_; rotate_left; (repeat (refine intsDead_updB rfl ?_)); exact intsDead_nil)
      | (refine callT_ofN (k1) ?_)
      | (refine callU_of (k1) rfl ?_)
      | (refine callU_ofN (k1) rfl ?_)
      | (refine callT_of (k2) ?_ ?_; rotate_left; (repeat (refine intsDead_updB rfl ?_)); exact intsDead_nil)
      | (refine callT_ofN (k2) ?_)
      | (refine callU_of (k2) rfl ?_)
      | (refine callU_ofN (k2) rfl ?_)
      | (refine callT_of (k3) ?_ ?_; rotate_left; (repeat (refine intsDead_updB rfl ?_)); exact intsDead_nil)
      | (refine callT_ofN (k3) ?_)
      | (refine callU_of (k3) rfl ?_)
      | (refine callU_ofN (k3) rfl ?_)
      | (refine callT_of (k4) ?_ ?_; rotate_left; (repeat (refine intsDead_updB rfl ?_)); exact intsDead_nil)
      | (refine callT_ofN (k4) ?_)
      | (refine callU_of (k4) rfl ?_)
      | (refine callU_ofN (k4) rfl ?_)
      | (refine callT_of (k0) ?_ ?_; rotate_left; (repeat (refine intsDead_updB rfl ?_)); exact intsDead_nil)
      | (refine callT_ofN (k0) ?_)
      | (refine callU_of (k0) rfl ?_)
      | (refine callU_ofN (k0) rfl ?_)
      | (simp only [go_sem, ↓reduceIte, hres, hx, h5, h6, h7])
      | (refine And.intro ?ho ?_; (case ho => omega))
      | (clear hK; clear K))
      exact tupI_eq (y := ⟨ofQ (reading - e), ofQ (reading + e), true⟩) (by unfold okI; rw [maxQ_zero, if_neg h7])
end Go.Proofs.Ytenmlcpbjjlokaa
