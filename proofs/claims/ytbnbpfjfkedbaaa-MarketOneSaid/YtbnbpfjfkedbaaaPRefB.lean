/-
  The reference's fractions, as data.
-/
import Derived.Test.YtbnbpfjfkedbaaaPRefA
namespace Go.Proofs.Ytbnbpfjfkedbaaa
set_option linter.unusedVariables false
set_option linter.unusedSimpArgs false
set_option linter.unusedSectionVars false
open Go Go.RowKit
attribute [local go_sem] opsL_nil opsL_go opsL_guard gSel_tt gSel_ff gSel_tf gSel_ft stepR_some stepR_none callS_some callE_some runL_nil runL_go runL_guard gSelE_tt gSelE_ff gSelE_tf gSelE_ft stepE_some stepE_none opF callD rd constD putT upd_get guardL gOf_bool gOf_undef fieldAddrF fieldF loadF storeF indexAddrF indexF sliceF strSliceF bound buildF fillF buildSliceF elemsF allocF makeSliceF lenF elemsOf appendF minmaxF convertF boxF ldE blkAt spliceE D.cells? D.isCell Res.pure ov TyI.agg binD unD boolD initT thenA inBlockA argD argDs refsD refsL killW datJ datJs endA_ret endA_normal endR_some oneD_one oneD_two oneD_three oneD_four resDs resD fzT Value.oneCell' strip tabT tabM
attribute [local go_sem] List.map Nat.reduceEqDiff Nat.reduceBEq List.getElem?_cons_zero List.getElem?_cons_succ List.getElem?_nil Option.getD_some Option.getD_none true_and and_true true_or or_true false_or or_false and_self Nat.add_zero Nat.zero_add List.length_nil List.length_cons forall_const ite_true ite_false Bool.or_self Bool.false_eq_true Option.map_some Option.map_none beq_self_eq_true Nat.reduceAdd Nat.reduceSub Nat.reduceMul reduceCtorEq List.getElem?_toArray Bool.not_true Bool.not_false decide_eq_true_eq decide_true decide_false Nat.reduceLeDiff Nat.reduceLT Bool.or_false Bool.or_true Bool.and_true Bool.and_false Bool.false_and Bool.true_and Bool.true_beq Bool.false_beq beq_true beq_false Bool.not_eq_true List.drop_succ_cons List.take_succ_cons List.drop_zero List.take_zero List.length_map List.getElem?_map List.length_append List.all_cons List.all_nil List.append_nil List.nil_append List.cons_append List.set_cons_zero List.set_cons_succ Int.toNat_natCast Int.toNat_zero Option.isSome_some Option.isSome_none Array.size_empty ByteArray.size_empty Int.reduceToNat Int.reduceAdd Int.reduceSub Int.reduceLT Int.reduceLE Int.reduceEq Int.reduceNe Int.reduceBEq Int.reduceNeg List.forall_mem_cons List.not_mem_nil false_implies List.forall_mem_map implies_true Nat.reduceBNe Int.cast_ofNat_Int Int.reduceMul Int.reduceGE Int.reduceGT wrap_in ty_2 ty_3 ty_4 ty_5 ty_6 ty_7 ty_8 ty_9 ty_10 ty_11 ty_12 ty_13 ty_14 ty_18 ty_19 ty_21 ty_22 ty_23 ty_24 ty_25 ty_26 ty_27 ty_28 ty_29 ty_30 ty_34 ty_37 ty_41 ty_42 ty_49 ty_51 ty_53 ty_54 ty_55 ty_57 ty_58 ty_59 ty_60 ty_61 ty_62 ty_63 ty_64 ty_65 ty_66 ty_69 ty_70 ty_118 ty_119 ty_129 ty_130 ty_131 ty_132 ty_134 ty_139 ty_140 ty_141 ty_142 ty_145 ty_146 ty_162 ty_163 ty_173 ty_174 ty_175 ty_176 ty_177 ty_178 ty_179 ty_180 ty_183 ty_184 ty_185 ty_186
set_option maxRecDepth 100000
set_option maxHeartbeats 1000000
theorem fwsamebig_c (a b : BigD) (ha : (a.d.length : Int) ≤ 9007199254740992) : Contract Try.prog 102 [encB a, encB b] (dB (sameB a b)) := by
 refine Contract.ofA (CallA.inline Try.func102 rfl (by kernel_rfl) (by kernel_rfl) (by kernel_rfl) ?_)
 rw [Try.ntmps102]
 have hres := Try.results102
 cases h1 : a.s != b.s; rotate_left
 · refine aGo (cj2 hres h1) ?_
   repeat (guard_target =~ ∀ _ : St → Prop, _; intro K hK)
   exact bool_eq (sameB_s h1).symm
 cases h2 : (a.d.length : Int) != b.d.length; rotate_left
 · refine aGo (cj3 hres h1 h2) ?_
   repeat (guard_target =~ ∀ _ : St → Prop, _; intro K hK)
   exact bool_eq (sameB_len h2).symm
 have hlen : a.d.length = b.d.length := by simp at h2; omega
 refine aGo (cj3 hres h1 h2) ?_
 repeat (guard_target =~ ∀ _ : St → Prop, _; intro K hK)
 refine aLoopT (fun (k : Nat) => [(2, .lp 0 0 0 0), (3, .lp 1 0 0 0), (5, dI k)]) (fun _ => [(0, ⟨26, 0, 2, [cB a], 0, false⟩), (1, ⟨26, 0, 2, [cB b], 0, false⟩)]) 2 0 (fun k => k ≤ a.d.length ∧ a.d.take k = b.d.take k) (fun k => a.d.length - k) 0 ⟨by omega, by simp⟩ ?_ ?_
 · exact leGo trivial
 · rintro k ⟨hk, hd⟩
   have hw : IntKind.i64.wrap ((k : Int) + 1) = (k : Int) + 1 := wrap_in (by omega) (by omega)
   have h0 : (0 : Int) ≤ k := by omega
   by_cases h3 : (k : Int) < a.d.length
   · obtain ⟨x, hx⟩ : ∃ e, a.d[k]? = some e := ⟨_, List.getElem?_eq_getElem (by omega)⟩
     obtain ⟨y, hy⟩ : ∃ e, b.d[k]? = some e := ⟨_, List.getElem?_eq_getElem (by omega)⟩
     cases h4 : x != y; rotate_left
     · refine aGo (cj4 hres h0 h3 (cj3 h4 hx hy)) ?_
       repeat (guard_target =~ ∀ _ : St → Prop, _; intro K hK)
       exact bool_eq (sameB_at hx hy h4).symm
     · refine aGo (cj4 hres h0 h3 (cj4 h4 hx hy hw)) ?_
       repeat (guard_target =~ ∀ _ : St → Prop, _; intro K hK)
       exact loop_end (k + 1) ⟨by omega, take_succ_eq hd hx hy h4⟩ (by omega) (by exact leGo trivial)
   · refine aGo (cj2 hres h3) ?_
     repeat (guard_target =~ ∀ _ : St → Prop, _; intro K hK)
     refine bool_eq (Eq.symm (sameB_iff.2 ?_))
     rw [List.take_of_length_le (by omega), List.take_of_length_le (by omega)] at hd
     have h1' : a.s = b.s := by simpa using h1
     cases a; cases b; simp_all
theorem rsameF_c (f g : FracD) (hf : (szF f : Int) ≤ 9007199254740992) : Contract Try.prog 67 [encF f, encF g] (dB (sameF f g)) := by
 refine Contract.ofA (CallA.inline Try.func67 rfl (by kernel_rfl) (by kernel_rfl) (by kernel_rfl) ?_)
 rw [Try.ntmps67]
 have hres := Try.results67
 have h1 := (fwsamebig_c f.p g.p (by unfold szF at hf; omega)).toN rfl
 have h2 := (fwsamebig_c f.q g.q (by unfold szF at hf; omega)).toN rfl
 cases h : sameB f.p g.p
 · rw [h] at h1
   refine aGo hres ?_
   repeat (guard_target =~ ∀ _ : St → Prop, _; intro K hK)
   exact bool_eq (by simp [sameF, h])
 · rw [h] at h1
   refine aGo hres ?_
   repeat (guard_target =~ ∀ _ : St → Prop, _; intro K hK)
   exact bool_eq (by simp [sameF, h])
theorem rfew_c (f : FracD) (n : Int) : Contract Try.prog 29 [encF f, dI n] (dB (decide ((f.p.d.length : Int) ≤ n) && decide ((f.q.d.length : Int) ≤ n))) := by
 refine Contract.ofA (CallA.inline Try.func29 rfl (by kernel_rfl) (by kernel_rfl) (by kernel_rfl) ?_)
 rw [Try.ntmps29]
 have hres := Try.results29
 by_cases h1 : (f.p.d.length : Int) ≤ n
 · by_cases h2 : (f.q.d.length : Int) ≤ n
   · exact aGo (cj3 hres h1 h2) trivial
   · exact aGo (cj3 hres h1 h2) trivial
 · exact aGo (cj2 hres h1) trivial
end Go.Proofs.Ytbnbpfjfkedbaaa
