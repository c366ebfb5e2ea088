/-
  Layer 11: span's functions on data: the range of a goal, its bounds.
-/
import Derived.Test.YtbnbpfjfkedbaaaGreatPSimI
import Derived.Test.YtbnbpfjfkedbaaaGreatPDualP
import Derived.Test.YtbnbpfjfkedbaaaGreatPLinB
namespace Go.Proofs.YtbnbpfjfkedbaaaGreat
set_option linter.unusedVariables false
set_option linter.unusedSimpArgs false
set_option linter.unusedSectionVars false
open Go Go.RowKit
attribute [local go_sem] opsL_nil opsL_go opsL_guard gSel_tt gSel_ff gSel_tf gSel_ft stepR_some stepR_none callS_some callE_some runL_nil runL_go runL_guard gSelE_tt gSelE_ff gSelE_tf gSelE_ft stepE_some stepE_none opF callD rd constD putT upd_get guardL gOf_bool gOf_undef fieldAddrF fieldF loadF storeF indexAddrF indexF sliceF strSliceF bound buildF fillF buildSliceF elemsF allocF makeSliceF lenF elemsOf appendF minmaxF convertF boxF ldE blkAt spliceE D.cells? D.isCell Res.pure ov TyI.agg binD unD boolD initT thenA inBlockA argD argDs refsD refsL killW datJ datJs endA_ret endA_normal endR_some oneD_one oneD_two oneD_three oneD_four resDs resD fzT Value.oneCell' strip tabT tabM
attribute [local go_sem] List.map Nat.reduceEqDiff Nat.reduceBEq List.getElem?_cons_zero List.getElem?_cons_succ List.getElem?_nil Option.getD_some Option.getD_none true_and and_true true_or or_true false_or or_false and_self Nat.add_zero Nat.zero_add List.length_nil List.length_cons forall_const ite_true ite_false Bool.or_self Bool.false_eq_true Option.map_some Option.map_none beq_self_eq_true Nat.reduceAdd Nat.reduceSub Nat.reduceMul reduceCtorEq List.getElem?_toArray Bool.not_true Bool.not_false decide_eq_true_eq decide_true decide_false Nat.reduceLeDiff Nat.reduceLT Bool.or_false Bool.or_true Bool.and_true Bool.and_false Bool.false_and Bool.true_and Bool.true_beq Bool.false_beq beq_true beq_false Bool.not_eq_true List.drop_succ_cons List.take_succ_cons List.drop_zero List.take_zero List.length_map List.getElem?_map List.length_append List.all_cons List.all_nil List.append_nil List.nil_append List.cons_append List.set_cons_zero List.set_cons_succ Int.toNat_natCast Int.toNat_zero Option.isSome_some Option.isSome_none Array.size_empty ByteArray.size_empty Int.reduceToNat Int.reduceAdd Int.reduceSub Int.reduceLT Int.reduceLE Int.reduceEq Int.reduceNe Int.reduceBEq Int.reduceNeg List.forall_mem_cons List.not_mem_nil false_implies List.forall_mem_map implies_true Nat.reduceBNe Int.cast_ofNat_Int Int.reduceMul Int.reduceGE Int.reduceGT wrap_in ty_2 ty_3 ty_4 ty_5 ty_6 ty_7 ty_8 ty_9 ty_10 ty_11 ty_12 ty_13 ty_14 ty_18 ty_19 ty_21 ty_22 ty_23 ty_24 ty_25 ty_26 ty_27 ty_28 ty_29 ty_30 ty_35 ty_44 ty_45 ty_46 ty_67 ty_68 ty_71 ty_74 ty_75 ty_76 ty_77 ty_78 ty_79 ty_133 ty_134 ty_136 ty_137 ty_138 ty_139 ty_141 ty_142 ty_157 ty_158 ty_167 ty_168 ty_169 ty_170 ty_171 ty_173 ty_174 ty_175 ty_178 ty_179 ty_180 ty_181
set_option maxRecDepth 100000
set_option maxHeartbeats 8000000
structure BdD where
 l : FracD
 h : FracD
 lo : Bool
 hi : Bool
structure BdOk (s : SysD) (goal : List TermD) (b : BdD) : Prop where
 lo : b.lo = true → ∃ q x, b.l = ofQ q ∧ holdsS s x = true ∧ dotD goal x = q ∧ ∀ z, holdsS s z = true → q ≤ dotD goal z
 nl : b.lo = false → b.l = zF ∧ ∀ q : Rat, ∃ x, holdsS s x = true ∧ dotD goal x ≤ q
 hi : b.hi = true → ∃ q x, b.h = ofQ q ∧ holdsS s x = true ∧ dotD goal x = q ∧ ∀ z, holdsS s z = true → dotD goal z ≤ q
 nh : b.hi = false → b.h = zF ∧ ∀ q : Rat, ∃ x, holdsS s x = true ∧ q ≤ dotD goal x
theorem ray_low {s : SysD} {goal : List TermD} {x d : List FracD} (hx : holdsS s x = true) (hd : rayD s goal d = true) (q : Rat) : ∃ z, holdsS s z = true ∧ dotD goal z ≤ q := by
 have hneg := (rayD_iff.1 hd).2.2.2.2.2.2
 rw [sgQ_lt] at hneg
 by_cases hq : dotD goal x ≤ q
 · exact ⟨x, hx, hq⟩
 · obtain ⟨_, ln, _, _, _⟩ := holdsS_iff.1 hx
   obtain ⟨_, _, ld, _⟩ := rayD_iff.1 hd
   have hp : 0 < -dotD goal d := by grind
   have hk : 0 ≤ (dotD goal x - q) / (-dotD goal d) := by
    rw [Rat.div_def]
    exact Rat.mul_nonneg (by grind) (Rat.le_of_lt (Rat.inv_pos.2 hp))
   refine ⟨_, holds_on hx hd hk, ?_⟩
   rw [dot_on (by omega)]
   have h2 : (dotD goal x - q) / (-dotD goal d) * dotD goal d = -(dotD goal x - q) := by
    rw [Rat.div_def]
    have : (-dotD goal d) * (-dotD goal d)⁻¹ = 1 := Rat.mul_inv_cancel _ (by grind)
    grind
   rw [h2]
   grind
theorem least_says {s : SysD} {goal : List TermD} {A : OptD} (h : checkD s goal A = true) :
    (A.k = 0 ∧ ∃ q x, A.v = ofQ q ∧ holdsS s x = true ∧ dotD goal x = q ∧ ∀ z, holdsS s z = true → q ≤ dotD goal z) ∨ (A.k = 1 ∧ ∀ x, holdsS s x = false) ∨ (A.k = 2 ∧ ∀ q : Rat, ∃ x, holdsS s x = true ∧ dotD goal x ≤ q) := by
 rcases check_cases h with ⟨a0, a1, a2, a3, a4, _⟩ | ⟨a0, a1, _⟩ | ⟨a0, a1, a2, _⟩
 · exact .inl ⟨a0, _, _, a3, a2, rfl, fun z hz => by have := bounds a1 hz; grind⟩
 · exact .inr (.inl ⟨a0, fun x => refutes_no a1⟩)
 · exact .inr (.inr ⟨a0, fun q => ray_low a1 a2 q⟩)
section
variable {s : SysD} {goal : List TermD} (hs : rightS s = true) (hg : rightT goal s.n = true)
include hs hg
end
end Go.Proofs.YtbnbpfjfkedbaaaGreat
