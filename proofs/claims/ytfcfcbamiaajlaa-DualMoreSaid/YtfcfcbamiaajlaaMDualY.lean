/-
  DualAgrees: the walk.
-/
import Derived.Test.YtfcfcbamiaajlaaMDualX

/-
  DualAgrees: the walk.
-/
namespace Go.Proofs.Ytfcfcbamiaajlaa
set_option linter.unusedVariables false
set_option linter.unusedSimpArgs false
open Go Go.RowKit
attribute [local go_sem] opsL_nil opsL_go opsL_guard gSel_tt gSel_ff gSel_tf gSel_ft stepR_some stepR_none callS_some callE_some runL_nil runL_go runL_guard gSelE_tt gSelE_ff gSelE_tf gSelE_ft stepE_some stepE_none opF callD rd constD putT upd_get guardL gOf_bool gOf_undef fieldAddrF fieldF loadF storeF indexAddrF indexF sliceF strSliceF bound buildF fillF buildSliceF elemsF allocF makeSliceF lenF elemsOf appendF minmaxF convertF boxF ldE blkAt spliceE D.cells? D.isCell Res.pure ov TyI.agg binD unD boolD initT thenA inBlockA argD argDs refsD refsL killW datJ datJs endA_ret endA_normal endR_some oneD_one oneD_two oneD_three oneD_four resDs resD fzT Value.oneCell' strip tabT tabM
attribute [local go_sem] List.map Nat.reduceEqDiff Nat.reduceBEq List.getElem?_cons_zero List.getElem?_cons_succ List.getElem?_nil Option.getD_some Option.getD_none true_and and_true true_or or_true false_or or_false and_self Nat.add_zero Nat.zero_add List.length_nil List.length_cons forall_const ite_true ite_false Bool.or_self Bool.false_eq_true Option.map_some Option.map_none beq_self_eq_true Nat.reduceAdd Nat.reduceSub Nat.reduceMul reduceCtorEq List.getElem?_toArray Bool.not_true Bool.not_false decide_eq_true_eq decide_true decide_false Nat.reduceLeDiff Nat.reduceLT Bool.or_false Bool.or_true Bool.and_true Bool.and_false Bool.false_and Bool.true_and Bool.true_beq Bool.false_beq beq_true beq_false Bool.not_eq_true List.drop_succ_cons List.take_succ_cons List.drop_zero List.take_zero List.length_map List.getElem?_map List.length_append List.all_cons List.all_nil List.append_nil List.nil_append List.cons_append List.set_cons_zero List.set_cons_succ Int.toNat_natCast Int.toNat_zero Option.isSome_some Option.isSome_none Array.size_empty ByteArray.size_empty Int.reduceToNat Int.reduceAdd Int.reduceSub Int.reduceLT Int.reduceLE Int.reduceEq Int.reduceNe Int.reduceBEq Int.reduceNeg List.forall_mem_cons List.not_mem_nil false_implies List.forall_mem_map implies_true Nat.reduceBNe Int.cast_ofNat_Int Int.reduceMul Int.reduceGE Int.reduceGT wrap_in ty_2 ty_3 ty_4 ty_5 ty_6 ty_7 ty_8 ty_9 ty_10 ty_11 ty_12 ty_13 ty_14 ty_18 ty_19 ty_21 ty_22 ty_23 ty_24 ty_25 ty_26 ty_31 ty_32 ty_33 ty_34 ty_35 ty_41 ty_42 ty_47 ty_48 ty_56 ty_66 ty_67 ty_106 ty_108 ty_111 ty_112 ty_113 ty_114 ty_115 ty_117 ty_118 ty_119 ty_122 ty_123 ty_124 ty_125
set_option maxRecDepth 100000
set_option maxHeartbeats 16000000

theorem tnO_few {o : OptD} (h : few9O o = true) : tnO o := by
  simp only [few9O, Bool.and_eq_true] at h
  exact ⟨tnF_few (by decide) h.2, tnFs_few (by decide) (by decide) h.1.1.1, tnFs_few (by decide) (by decide) h.1.1.2, tnFs_few (by decide) (by decide) h.1.2⟩
theorem agrees9_c (k0 : Contract Try.prog 8 [] (dB true)) (s : SysD) (goal : List TermD) (a b : OptD) (x : List FracD) : Contract Try.prog 4 [encS s, encTs goal, encO a, encO b, encFs x] (dB true) := by
  have hres := Try.results4
  have c1 := dfew_c s goal
  have c2 := few9O_c a
  have c3 := few9O_c b
  have c4 := shorts9_c x 12 (by decide)
  cases h1 : (few9 s && fewT goal 10 6)
  · rw [h1] at c1
    refine Contract.ofA (CallA.inline Try.func4 rfl (by kernel_rfl) (by kernel_rfl) (by kernel_rfl) ?_)
    rw [Try.ntmps4]
    exact aGo hres trivial
  rw [h1] at c1
  simp only [Bool.and_eq_true] at h1
  cases h2 : few9O a
  · rw [h2] at c2
    refine Contract.ofA (CallA.inline Try.func4 rfl (by kernel_rfl) (by kernel_rfl) (by kernel_rfl) ?_)
    rw [Try.ntmps4]
    exact aGo hres trivial
  rw [h2] at c2
  cases h3 : few9O b
  · rw [h3] at c3
    refine Contract.ofA (CallA.inline Try.func4 rfl (by kernel_rfl) (by kernel_rfl) (by kernel_rfl) ?_)
    rw [Try.ntmps4]
    exact aGo hres trivial
  rw [h3] at c3
  cases h4 : fewP x 12 6
  · rw [h4] at c4
    refine Contract.ofA (CallA.inline Try.func4 rfl (by kernel_rfl) (by kernel_rfl) (by kernel_rfl) ?_)
    rw [Try.ntmps4]
    exact aGo hres trivial
  rw [h4] at c4
  have ts := tnS_few h1.1
  have tg := (tnT_few (by decide) (by decide) h1.2).sm
  have ta := tnO_few h2
  have tb := tnO_few h3
  have tx := (tnFs_few (by decide) (by decide) h4).sm
  have k1 := dcheck_c s goal a ts tg ta
  have k2 := dcheck_c s goal b ts tg tb
  cases h5 : checkD s goal a
  · rw [h5] at k1
    refine Contract.ofA (CallA.inline Try.func4 rfl (by kernel_rfl) (by kernel_rfl) (by kernel_rfl) ?_)
    rw [Try.ntmps4]
    exact aGo hres trivial
  rw [h5] at k1
  have hrg : rightS s = true ∧ rightT goal s.n = true := by simp only [checkD, Bool.and_eq_true] at h5; exact h5.1
  have k3 := lholds_c s x ts.sm tx
  have k4 := lholds_c s a.x ts.sm ta.2.1.sm
  have k5 := lValue_c goal x tg tx
  have zv : (szF a.v : Int) ≤ 262144 := ta.1
  have k7 := same9_c a.v b.v (by omega)
  have hag : checkD s goal b = true → (a.k != b.k) = false ∧ sameF a.v b.v = true := fun h => by
    obtain ⟨e1, e2⟩ := agrees h5 h
    rw [e1, e2, sameF_self]; simp
  rcases check_cases h5 with ⟨a0, a1, a2, a3, a4, a5⟩ | ⟨a0, a1, a2, a3, a4⟩ | ⟨a0, a1, a2, a3, a4⟩
  · have n1 : (a.k == 1) = false := by simp [a0]
    have n0 : (a.k != 0) = false := by simp [a0]
    rw [a2] at k4
    cases hx : holdsS s x
    · rw [hx] at k3
      cases hb : checkD s goal b
      · rw [hb] at k2
        refine Contract.ofA (CallA.inline Try.func4 rfl (by kernel_rfl) (by kernel_rfl) (by kernel_rfl) ?_)
        rw [Try.ntmps4]
        exact aGo (cj3 hres n1 n0) trivial
      · rw [hb] at k2
        obtain ⟨e1, e2⟩ := hag hb
        rw [e2] at k7
        refine Contract.ofA (CallA.inline Try.func4 rfl (by kernel_rfl) (by kernel_rfl) (by kernel_rfl) ?_)
        rw [Try.ntmps4]
        exact aGo (cj4 hres n1 n0 e1) trivial
    · rw [hx] at k3
      have hX := holdsS_iff.1 hx
      rw [valueD_yes (by rw [hX.2.1, hrg.2, hX.2.2.1]; rfl)] at k5
      have hbd := bounds a1 hx
      have z2 := szF_dot ⟨goal, 0, zF⟩ x tg tx (by rw [hX.2.1]; exact hrg.2) hX.2.2.1
      have k6 := fcompare_c (ofQ (dotD goal x)) a.v (by dsimp only at z2; omega) (by omega)
      rw [show cmpD (ofQ (dotD goal x)) a.v = sgQ (dotD goal x - mixV s.r a.y) by rw [a3, cmpD_ofQ, a4]] at k6
      have s5 : sgQ (dotD goal x - mixV s.r a.y) ≥ 0 := by
        rcases sgQ_cases (dotD goal x - mixV s.r a.y) with ⟨h, e⟩ | ⟨h, e⟩ | ⟨h, e⟩
        · grind
        · omega
        · omega
      cases hb : checkD s goal b
      · rw [hb] at k2
        refine Contract.ofA (CallA.inline Try.func4 rfl (by kernel_rfl) (by kernel_rfl) (by kernel_rfl) ?_)
        rw [Try.ntmps4]
        exact aGo (cj4 hres n1 n0 s5) trivial
      · rw [hb] at k2
        obtain ⟨e1, e2⟩ := hag hb
        rw [e2] at k7
        refine Contract.ofA (CallA.inline Try.func4 rfl (by kernel_rfl) (by kernel_rfl) (by kernel_rfl) ?_)
        rw [Try.ntmps4]
        exact aGo (cj4 hres n1 n0 (cj2 s5 e1)) trivial
  · have n1 : (a.k == 1) = true := by simp [a0]
    rw [refutes_no a1] at k3
    cases hb : checkD s goal b
    · rw [hb] at k2
      refine Contract.ofA (CallA.inline Try.func4 rfl (by kernel_rfl) (by kernel_rfl) (by kernel_rfl) ?_)
      rw [Try.ntmps4]
      exact aGo (cj2 hres n1) trivial
    · rw [hb] at k2
      obtain ⟨e1, e2⟩ := hag hb
      rw [e2] at k7
      refine Contract.ofA (CallA.inline Try.func4 rfl (by kernel_rfl) (by kernel_rfl) (by kernel_rfl) ?_)
      rw [Try.ntmps4]
      exact aGo (cj3 hres n1 e1) trivial
  · have n1 : (a.k == 1) = false := by simp [a0]
    have n0 : (a.k != 0) = true := by simp [a0]
    rw [a1] at k4
    cases hb : checkD s goal b
    · rw [hb] at k2
      refine Contract.ofA (CallA.inline Try.func4 rfl (by kernel_rfl) (by kernel_rfl) (by kernel_rfl) ?_)
      rw [Try.ntmps4]
      exact aGo (cj3 hres n1 n0) trivial
    · rw [hb] at k2
      obtain ⟨e1, e2⟩ := hag hb
      rw [e2] at k7
      refine Contract.ofA (CallA.inline Try.func4 rfl (by kernel_rfl) (by kernel_rfl) (by kernel_rfl) ?_)
      rw [Try.ntmps4]
      exact aGo (cj4 hres n1 n0 e1) trivial
end Go.Proofs.Ytfcfcbamiaajlaa
