/-
  Solution; the laws SimplexOne and SimplexSolves.
-/
import Derived.Test.YtbnbpfjfkedbaaaGreatPSimI
import Derived.Test.YtbnbpfjfkedbaaaGreatPDualP
namespace Go.Proofs.YtbnbpfjfkedbaaaGreat
set_option linter.unusedVariables false
set_option linter.unusedSimpArgs false
set_option linter.unusedSectionVars false
open Go Go.RowKit
attribute [local go_sem] opsL_nil opsL_go opsL_guard gSel_tt gSel_ff gSel_tf gSel_ft stepR_some stepR_none callS_some callE_some runL_nil runL_go runL_guard gSelE_tt gSelE_ff gSelE_tf gSelE_ft stepE_some stepE_none opF callD rd constD putT upd_get guardL gOf_bool gOf_undef fieldAddrF fieldF loadF storeF indexAddrF indexF sliceF strSliceF bound buildF fillF buildSliceF elemsF allocF makeSliceF lenF elemsOf appendF minmaxF convertF boxF ldE blkAt spliceE D.cells? D.isCell Res.pure ov TyI.agg binD unD boolD initT thenA inBlockA argD argDs refsD refsL killW datJ datJs endA_ret endA_normal endR_some oneD_one oneD_two oneD_three oneD_four resDs resD fzT Value.oneCell' strip tabT tabM
attribute [local go_sem] List.map Nat.reduceEqDiff Nat.reduceBEq List.getElem?_cons_zero List.getElem?_cons_succ List.getElem?_nil Option.getD_some Option.getD_none true_and and_true true_or or_true false_or or_false and_self Nat.add_zero Nat.zero_add List.length_nil List.length_cons forall_const ite_true ite_false Bool.or_self Bool.false_eq_true Option.map_some Option.map_none beq_self_eq_true Nat.reduceAdd Nat.reduceSub Nat.reduceMul reduceCtorEq List.getElem?_toArray Bool.not_true Bool.not_false decide_eq_true_eq decide_true decide_false Nat.reduceLeDiff Nat.reduceLT Bool.or_false Bool.or_true Bool.and_true Bool.and_false Bool.false_and Bool.true_and Bool.true_beq Bool.false_beq beq_true beq_false Bool.not_eq_true List.drop_succ_cons List.take_succ_cons List.drop_zero List.take_zero List.length_map List.getElem?_map List.length_append List.all_cons List.all_nil List.append_nil List.nil_append List.cons_append List.set_cons_zero List.set_cons_succ Int.toNat_natCast Int.toNat_zero Option.isSome_some Option.isSome_none Array.size_empty ByteArray.size_empty Int.reduceToNat Int.reduceAdd Int.reduceSub Int.reduceLT Int.reduceLE Int.reduceEq Int.reduceNe Int.reduceBEq Int.reduceNeg List.forall_mem_cons List.not_mem_nil false_implies List.forall_mem_map implies_true Nat.reduceBNe Int.cast_ofNat_Int Int.reduceMul Int.reduceGE Int.reduceGT wrap_in ty_2 ty_3 ty_4 ty_5 ty_6 ty_7 ty_8 ty_9 ty_10 ty_11 ty_12 ty_13 ty_14 ty_18 ty_19 ty_21 ty_22 ty_23 ty_24 ty_25 ty_26 ty_27 ty_28 ty_29 ty_30 ty_35 ty_44 ty_45 ty_46 ty_67 ty_68 ty_71 ty_74 ty_75 ty_76 ty_77 ty_78 ty_79 ty_133 ty_134 ty_136 ty_137 ty_138 ty_139 ty_141 ty_142 ty_157 ty_158 ty_167 ty_168 ty_169 ty_170 ty_171 ty_173 ty_174 ty_175 ty_178 ty_179 ty_180 ty_181
set_option maxRecDepth 100000
set_option maxHeartbeats 8000000
noncomputable def solD (s : SysD) : List FracD × List FracD × Bool := if rightS s then (if (leastE s []).k = 1 then ([], (leastE s []).y, false) else ((leastE s []).x, [], true)) else ([], [], false)
theorem right_nilT {s : SysD} (hr : rightS s = true) : rightT [] s.n = true := by
 have := (rightS_n hr).1
 simp only [rightT, Bool.and_eq_true, decide_eq_true_eq]; exact ⟨this, rfl⟩
theorem solution_c (s : SysD) {B T : Nat} (h : Fit s [] B T) : Contract Tryz.prog 25 [encS s] (.tup [encFs (solD s).1, encFs (solD s).2.1, dB (solD s).2.2]) := by
 have hres := Tryz.results25
 have kl := least_c s [] h
 cases hr : rightS s
 · rw [show leastD s [] = (⟨0, zF, [], [], []⟩, 1) by unfold leastD; rw [hr]; rfl] at kl
   have e1 : solD s = ([], [], false) := by unfold solD; rw [hr]; rfl
   rw [e1]
   refine Contract.ofA (CallA.inline Tryz.func25 rfl (by kernel_rfl) (by kernel_rfl) (by kernel_rfl) ?_)
   rw [Tryz.ntmps25]
   have b1 : ((1 : Int) != 0) = true := rfl
   refine aGo (cj2 hres b1) ?_
   repeat (guard_target =~ ∀ _ : St → Prop, _; intro K hK)
   rfl
 rw [show leastD s [] = (leastE s [], 0) by unfold leastD; rw [hr, right_nilT hr]; rfl] at kl
 by_cases h1 : (leastE s []).k = 1
 · have e1 : solD s = ([], (leastE s []).y, false) := by unfold solD; rw [hr, if_pos h1]; rfl
   rw [e1]
   have e2 : ((leastE s []).k == 1) = true := by rw [h1]; rfl
   refine Contract.ofA (CallA.inline Tryz.func25 rfl (by kernel_rfl) (by kernel_rfl) (by kernel_rfl) ?_)
   rw [Tryz.ntmps25]
   refine aGo (cj2 hres e2) ?_
   repeat (guard_target =~ ∀ _ : St → Prop, _; intro K hK)
   rfl
 · have e1 : solD s = ((leastE s []).x, [], true) := by unfold solD; rw [hr, if_neg h1]; rfl
   rw [e1]
   have e2 : ((leastE s []).k == 1) = false := by simp [h1]
   refine Contract.ofA (CallA.inline Tryz.func25 rfl (by kernel_rfl) (by kernel_rfl) (by kernel_rfl) ?_)
   rw [Tryz.ntmps25]
   refine aGo (cj2 hres e2) ?_
   repeat (guard_target =~ ∀ _ : St → Prop, _; intro K hK)
   rfl
section
variable {s : SysD} {goal : List TermD}
theorem list_fracs {x : List FracD} (ho : okP x = true) : x = fracsOf x.length fun u => atP x u := by
 refine List.ext_getElem (by rw [fracs_len]) fun i h1 h2 => ?_
 have e := fracs_get (fun u => atP x u) h1
 rw [List.getElem?_eq_getElem h2] at e
 have e2 : atP x (i : Nat) = qOf x[i] := by unfold atP; rw [Int.toNat_natCast, List.getElem?_eq_getElem h1]; rfl
 rw [Option.some.inj e, e2]
 exact okF_eq (List.all_eq_true.1 ho _ (List.getElem_mem h1))
theorem low_iff (hs : rightS s = true) (hg : rightT goal s.n = true) {Y : Nat → Rat} (hy : Signs s Y) : (lowerD s goal (fracsOf s.r.length Y)).2 = true ↔ ∀ v, v < s.n.toNat → sumN s.r.length (fun i => Y i * rdG s (indI v) i) ≤ coefT goal v := by
 have h1 := signs_ok hs hy
 have hg' := right_toNat hg
 rw [lowerD_iff]
 constructor
 · rintro ⟨_, _, h⟩ v hv
   have := (belowN_iff (mixT_right hs _) hg').1 h v
   rw [mixT_dot hs, mix_fracs] at this
   exact this
 · intro h
   refine ⟨h1, hg, ?_⟩
   unfold belowN
   simp only [List.all_eq_true, List.mem_range, decide_eq_true_eq]
   intro v hv
   have := h v hv
   rw [← mix_fracs, ← mixT_dot hs] at this
   exact this
theorem signs_of {Y : Nat → Rat} (h : (lowerD s goal (fracsOf s.r.length Y)).2 = true) : Signs s Y := by
 obtain ⟨hr, _, _, h4, _, _⟩ := lower_iff.1 h
 intro i w hw
 have hi := (List.getElem?_eq_some_iff.1 hw).1
 have := List.all_eq_true.1 h4 (w, ofQ (Y i)) (List.mem_of_getElem? (i := i) (by rw [List.getElem?_zip_eq_some]; exact ⟨hw, fracs_get Y hi⟩))
 have := (signOk_iff (okF_ofQ _)).1 this
 rwa [qOf_ofQ] at this
end
end Go.Proofs.YtbnbpfjfkedbaaaGreat
