/-
  Layer 12: the laws ConflictLeast and ConflictOrder.
-/
import Derived.Test.YtbnbpfjfkedbaaaGreatPCwC
namespace Go.Proofs.YtbnbpfjfkedbaaaGreat
set_option linter.unusedVariables false
set_option linter.unusedSimpArgs false
set_option linter.unusedSectionVars false
open Go Go.RowKit
attribute [local go_sem] opsL_nil opsL_go opsL_guard gSel_tt gSel_ff gSel_tf gSel_ft stepR_some stepR_none callS_some callE_some runL_nil runL_go runL_guard gSelE_tt gSelE_ff gSelE_tf gSelE_ft stepE_some stepE_none opF callD rd constD putT upd_get guardL gOf_bool gOf_undef fieldAddrF fieldF loadF storeF indexAddrF indexF sliceF strSliceF bound buildF fillF buildSliceF elemsF allocF makeSliceF lenF elemsOf appendF minmaxF convertF boxF ldE blkAt spliceE D.cells? D.isCell Res.pure ov TyI.agg binD unD boolD initT thenA inBlockA argD argDs refsD refsL killW datJ datJs endA_ret endA_normal endR_some oneD_one oneD_two oneD_three oneD_four resDs resD fzT Value.oneCell' strip tabT tabM
attribute [local go_sem] List.map Nat.reduceEqDiff Nat.reduceBEq List.getElem?_cons_zero List.getElem?_cons_succ List.getElem?_nil Option.getD_some Option.getD_none true_and and_true true_or or_true false_or or_false and_self Nat.add_zero Nat.zero_add List.length_nil List.length_cons forall_const ite_true ite_false Bool.or_self Bool.false_eq_true Option.map_some Option.map_none beq_self_eq_true Nat.reduceAdd Nat.reduceSub Nat.reduceMul reduceCtorEq List.getElem?_toArray Bool.not_true Bool.not_false decide_eq_true_eq decide_true decide_false Nat.reduceLeDiff Nat.reduceLT Bool.or_false Bool.or_true Bool.and_true Bool.and_false Bool.false_and Bool.true_and Bool.true_beq Bool.false_beq beq_true beq_false Bool.not_eq_true List.drop_succ_cons List.take_succ_cons List.drop_zero List.take_zero List.length_map List.getElem?_map List.length_append List.all_cons List.all_nil List.append_nil List.nil_append List.cons_append List.set_cons_zero List.set_cons_succ Int.toNat_natCast Int.toNat_zero Option.isSome_some Option.isSome_none Array.size_empty ByteArray.size_empty Int.reduceToNat Int.reduceAdd Int.reduceSub Int.reduceLT Int.reduceLE Int.reduceEq Int.reduceNe Int.reduceBEq Int.reduceNeg List.forall_mem_cons List.not_mem_nil false_implies List.forall_mem_map implies_true Nat.reduceBNe Int.cast_ofNat_Int Int.reduceMul Int.reduceGE Int.reduceGT wrap_in ty_2 ty_3 ty_4 ty_5 ty_6 ty_7 ty_8 ty_9 ty_10 ty_11 ty_12 ty_13 ty_14 ty_18 ty_19 ty_21 ty_22 ty_23 ty_24 ty_25 ty_26 ty_27 ty_28 ty_29 ty_30 ty_35 ty_44 ty_45 ty_46 ty_67 ty_68 ty_71 ty_74 ty_75 ty_76 ty_77 ty_78 ty_79 ty_133 ty_134 ty_136 ty_137 ty_138 ty_139 ty_141 ty_142 ty_157 ty_158 ty_167 ty_168 ty_169 ty_170 ty_171 ty_173 ty_174 ty_175 ty_178 ty_179 ty_180 ty_181
set_option maxRecDepth 100000
set_option maxHeartbeats 32000000
theorem range_get (l : List RowD) : ∀ n : Nat, n ≤ l.length → (List.range n).filterMap (fun i => l[i]?) = l.take n
 | 0, _ => rfl
 | n + 1, h => by
   obtain ⟨x, hx⟩ : ∃ e, l[n]? = some e := ⟨_, List.getElem?_eq_getElem (by omega)⟩
   rw [List.range_succ, List.filterMap_append, range_get l n (by omega), List.take_add_one]
   simp [hx]
theorem part_range (s : SysD) : partD s (List.range s.r.length) = s := by
 obtain ⟨n, r⟩ := s
 unfold partD
 simp only
 rw [range_get r r.length (Nat.le_refl _), List.take_length]
theorem conf_facts {s : SysD} (c : Conf s) (hn : nsC s (List.range s.r.length) = true) : confD s = conflictC (nsC s) s.r.length ∧ nsC s (confD s) = true ∧ ascR (ints (confD s)) s.r.length = true ∧ confD s ≠ [] ∧ (confD s).length ≤ 8 := by
 have e : confD s = conflictC (nsC s) s.r.length := by unfold confD; rw [hn, if_pos rfl]
 have h1 : nsC s (confD s) = true := by rw [e]; exact leftC_ns hn _
 have h2 : ascR (ints (confD s)) s.r.length = true := by rw [e]; exact asc_of (left_pair _ _ _) fun i h => leftC_lt _ i h
 obtain ⟨_, h8, _⟩ := few12_rows c.f
 refine ⟨e, h1, h2, fun h => ?_, by have := (asc_ints h2).1; omega⟩
 rw [h, ns_nil c.r] at h1; cases h1
end Go.Proofs.YtbnbpfjfkedbaaaGreat
