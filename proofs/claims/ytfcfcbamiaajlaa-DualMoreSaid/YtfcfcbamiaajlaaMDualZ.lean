/-
  DualRay: the walk.
-/
import Derived.Test.YtfcfcbamiaajlaaMDualY

/-
  DualRay: the walk.
-/
namespace Go.Proofs.Ytfcfcbamiaajlaa
set_option linter.unusedVariables false
set_option linter.unusedSimpArgs false
open Go Go.RowKit
attribute [local go_sem] opsL_nil opsL_go opsL_guard gSel_tt gSel_ff gSel_tf gSel_ft stepR_some stepR_none callS_some callE_some runL_nil runL_go runL_guard gSelE_tt gSelE_ff gSelE_tf gSelE_ft stepE_some stepE_none opF callD rd constD putT upd_get guardL gOf_bool gOf_undef fieldAddrF fieldF loadF storeF indexAddrF indexF sliceF strSliceF bound buildF fillF buildSliceF elemsF allocF makeSliceF lenF elemsOf appendF minmaxF convertF boxF ldE blkAt spliceE D.cells? D.isCell Res.pure ov TyI.agg binD unD boolD initT thenA inBlockA argD argDs refsD refsL killW datJ datJs endA_ret endA_normal endR_some oneD_one oneD_two oneD_three oneD_four resDs resD fzT Value.oneCell' strip tabT tabM
attribute [local go_sem] List.map Nat.reduceEqDiff Nat.reduceBEq List.getElem?_cons_zero List.getElem?_cons_succ List.getElem?_nil Option.getD_some Option.getD_none true_and and_true true_or or_true false_or or_false and_self Nat.add_zero Nat.zero_add List.length_nil List.length_cons forall_const ite_true ite_false Bool.or_self Bool.false_eq_true Option.map_some Option.map_none beq_self_eq_true Nat.reduceAdd Nat.reduceSub Nat.reduceMul reduceCtorEq List.getElem?_toArray Bool.not_true Bool.not_false decide_eq_true_eq decide_true decide_false Nat.reduceLeDiff Nat.reduceLT Bool.or_false Bool.or_true Bool.and_true Bool.and_false Bool.false_and Bool.true_and Bool.true_beq Bool.false_beq beq_true beq_false Bool.not_eq_true List.drop_succ_cons List.take_succ_cons List.drop_zero List.take_zero List.length_map List.getElem?_map List.length_append List.all_cons List.all_nil List.append_nil List.nil_append List.cons_append List.set_cons_zero List.set_cons_succ Int.toNat_natCast Int.toNat_zero Option.isSome_some Option.isSome_none Array.size_empty ByteArray.size_empty Int.reduceToNat Int.reduceAdd Int.reduceSub Int.reduceLT Int.reduceLE Int.reduceEq Int.reduceNe Int.reduceBEq Int.reduceNeg List.forall_mem_cons List.not_mem_nil false_implies List.forall_mem_map implies_true Nat.reduceBNe Int.cast_ofNat_Int Int.reduceMul Int.reduceGE Int.reduceGT wrap_in ty_2 ty_3 ty_4 ty_5 ty_6 ty_7 ty_8 ty_9 ty_10 ty_11 ty_12 ty_13 ty_14 ty_18 ty_19 ty_21 ty_22 ty_23 ty_24 ty_25 ty_26 ty_31 ty_32 ty_33 ty_34 ty_35 ty_41 ty_42 ty_47 ty_48 ty_56 ty_66 ty_67 ty_106 ty_108 ty_111 ty_112 ty_113 ty_114 ty_115 ty_117 ty_118 ty_119 ty_122 ty_123 ty_124 ty_125
set_option maxRecDepth 100000
set_option maxHeartbeats 16000000

def onK (k : Rat) (x d : List FracD) (i : Nat) : List FracD := onD k (x.take i) (d.take i)
theorem onK_zero (k : Rat) (x d : List FracD) : onK k x d 0 = [] := rfl
theorem onK_succ {k : Rat} {x d : List FracD} {i : Nat} {a b : FracD} (hx : x[i]? = some a) (hd : d[i]? = some b) : onK k x d (i + 1) = onK k x d i ++ [ofQ (qOf a + qOf b * k)] := zip_take_succ _ hx hd
theorem onK_len (k : Rat) (x d : List FracD) (i : Nat) : (onK k x d i).length ≤ x.length := by
  unfold onK onD; rw [List.length_zipWith, List.length_take]; omega
theorem onK_all (k : Rat) {x d : List FracD} (h : x.length = d.length) : onK k x d x.length = onD k x d := by
  unfold onK; rw [List.take_length, h, List.take_length]
theorem ray9_c (k0 : Contract Try.prog 8 [] (dB true)) (s : SysD) (goal : List TermD) (d x : List FracD) (k : FracD) (y : List FracD) : Contract Try.prog 6 [encS s, encTs goal, encFs d, encFs x, encF k, encFs y] (dB true) := by
  have hres := Try.results6
  have c1 := dfew_c s goal
  have c2 := shorts9_c d 12 (by decide)
  have c3 := shorts9_c x 12 (by decide)
  have c4 := shorts9_c y 12 (by decide)
  have c5 := short9_c k
  cases h1 : (few9 s && fewT goal 10 6)
  · rw [h1] at c1
    refine Contract.ofA (CallA.inline Try.func6 rfl (by kernel_rfl) (by kernel_rfl) (by kernel_rfl) ?_)
    rw [Try.ntmps6]
    exact aGo hres trivial
  rw [h1] at c1
  cases h2 : fewP d 12 6
  · rw [h2] at c2
    refine Contract.ofA (CallA.inline Try.func6 rfl (by kernel_rfl) (by kernel_rfl) (by kernel_rfl) ?_)
    rw [Try.ntmps6]
    exact aGo hres trivial
  rw [h2] at c2
  cases h3 : fewP x 12 6
  · rw [h3] at c3
    refine Contract.ofA (CallA.inline Try.func6 rfl (by kernel_rfl) (by kernel_rfl) (by kernel_rfl) ?_)
    rw [Try.ntmps6]
    exact aGo hres trivial
  rw [h3] at c3
  cases h4 : fewP y 12 6
  · rw [h4] at c4
    refine Contract.ofA (CallA.inline Try.func6 rfl (by kernel_rfl) (by kernel_rfl) (by kernel_rfl) ?_)
    rw [Try.ntmps6]
    exact aGo hres trivial
  rw [h4] at c4
  cases h5 : fewF 6 k
  · rw [h5] at c5
    refine Contract.ofA (CallA.inline Try.func6 rfl (by kernel_rfl) (by kernel_rfl) (by kernel_rfl) ?_)
    rw [Try.ntmps6]
    exact aGo hres trivial
  rw [h5] at c5
  simp only [Bool.and_eq_true] at h1
  have ts := tnS_few h1.1
  have tg := (tnT_few (by decide) (by decide) h1.2).sm
  have td := tnFs_few (by decide) (by decide) h2
  have tx := tnFs_few (by decide) (by decide) h3
  have ty := tnFs_few (by decide) (by decide) h4
  have nd := fewP_nat 6 (by decide) h2
  have nx := fewP_nat 6 (by decide) h3
  have nk := fewF_nat 6 (by decide) h5
  have k1 := dray_c s goal d ts.sm tg td.sm
  have k2 := lholds_c s x ts.sm tx.sm
  cases hd : rayD s goal d
  · rw [hd] at k1
    refine Contract.ofA (CallA.inline Try.func6 rfl (by kernel_rfl) (by kernel_rfl) (by kernel_rfl) ?_)
    rw [Try.ntmps6]
    exact aGo hres trivial
  rw [hd] at k1
  cases hx : holdsS s x
  · rw [hx] at k2
    refine Contract.ofA (CallA.inline Try.func6 rfl (by kernel_rfl) (by kernel_rfl) (by kernel_rfl) ?_)
    rw [Try.ntmps6]
    exact aGo hres trivial
  rw [hx] at k2
  have k3 := dlower_c s goal y ts tg ty
  rw [lowerD_no (ray_no (y := y) hx hd)] at k3
  have hD := rayD_iff.1 hd
  have hX := holdsS_iff.1 hx
  have hl : x.length = d.length := by omega
  have e0 : ((d.length : Int) != x.length) = false := by rw [hl]; simp
  have k4 := fright_c k (by omega)
  have k5 := fsign_c k (by omega)
  cases ok : okF k
  · rw [ok] at k4
    refine Contract.ofA (CallA.inline Try.func6 rfl (by kernel_rfl) (by kernel_rfl) (by kernel_rfl) ?_)
    rw [Try.ntmps6]
    exact aGo (cj2 hres e0) trivial
  rw [ok] at k4
  by_cases hk : sgnD k < 0
  · skip
    refine Contract.ofA (CallA.inline Try.func6 rfl (by kernel_rfl) (by kernel_rfl) (by kernel_rfl) ?_)
    rw [Try.ntmps6]
    exact aGo (cj3 hres e0 hk) trivial
  have hk0 : 0 ≤ qOf k := (sgnD_nonneg ok).1 (by omega)
  refine Contract.ofA (CallA.inline Try.func6 rfl (by kernel_rfl) (by kernel_rfl) (by kernel_rfl) ?_)
  rw [Try.ntmps6]
  refine aGo (cj3 hres e0 hk) ?_
  repeat (guard_target =~ ∀ _ : St → Prop, _; intro K hK)
  have zk := onK_zero (qOf k) x d
  refine aLoopT (fun (i : Nat) => [(1, encTs goal), (2, encFs d), (3, encFs x), (6, .lp 0 0 0 0), (10, .lp 1 0 0 0), (13, dB true), (16, .ls 3 i), (17, dI i)]) (fun i => [(0, ⟨24, 0, 2, [cS s], 0, false⟩), (1, ⟨35, 0, 4, [cF k], 0, false⟩), (3, ⟨35, i, 4, (onK (qOf k) x d i).map cF, 0, false⟩)]) 4 0 (fun i => i ≤ x.length) (fun i => x.length - i) 0 (by omega) ?_ ?_
  · exact leGo zk
  · rintro i hi
    have hlx := tx.1
    have hw : IntKind.i64.wrap ((i : Int) + 1) = (i : Int) + 1 := wrap_in (by omega) (by omega)
    have i0 : (0 : Int) ≤ i := by omega
    by_cases h6 : (i : Int) < x.length
    · obtain ⟨a, ha⟩ : ∃ e, x[i]? = some e := ⟨_, List.getElem?_eq_getElem (by omega)⟩
      obtain ⟨b, hb⟩ : ∃ e, d[i]? = some e := ⟨_, List.getElem?_eq_getElem (by omega)⟩
      have h6b : (i : Int) < d.length := by omega
      have oa := List.all_eq_true.1 hX.2.2.1 a (mem_at ha)
      have ob := List.all_eq_true.1 hD.2.2.2.1 b (mem_at hb)
      have za := nx a (mem_at ha)
      have zb := nd b (mem_at hb)
      have m1 := fmul_c b k (by omega) (by omega)
      rw [show mulD b k = (ofQ (qOf b * qOf k), 0) by simp [mulD, ob, ok]] at m1
      have z1 := szQ_mul (qOf b) (qOf k)
      rw [szF_ok ob, szF_ok ok] at z1
      have m2 := fadd_c a (ofQ (qOf b * qOf k)) (by omega) (by rw [szQ_ofQ]; omega)
      rw [show addD a (ofQ (qOf b * qOf k)) = (ofQ (qOf a + qOf b * qOf k), 0) by simp [addD, oa, okF_ofQ, qOf_ofQ]] at m2
      have e1 := onK_succ (k := qOf k) ha hb
      have e2 := onK_len (qOf k) x d i
      refine aGoB (cj4 hres i0 h6 (cj4 h6b ha hb hw)) ?_
      repeat (guard_target =~ ∀ _ : St → Prop, _; intro K hK)
      exact loop_end (i + 1) (by omega) (by omega) (by exact leGo e1)
    · obtain rfl : i = x.length := by omega
      rw [onK_all (qOf k) hl]
      have so : smFs (onD (qOf k) x d) := ⟨by unfold onD; rw [List.length_zipWith]; omega, fun f hf => by
        obtain ⟨a, b, ha, hb, rfl⟩ := on_mem hf
        have oa := List.all_eq_true.1 hX.2.2.1 a ha
        have ob := List.all_eq_true.1 hD.2.2.2.1 b hb
        have za := nx a ha
        have zb := nd b hb
        have z1 := szQ_mul (qOf b) (qOf k)
        rw [szF_ok ob, szF_ok ok] at z1
        have z2 := szQ_add (qOf a) (qOf b * qOf k)
        rw [szF_ok oa] at z2
        unfold smF; rw [szQ_ofQ]; omega⟩
      have ho := holds_on hx hd hk0
      have hO := holdsS_iff.1 ho
      have v1 := lValue_c goal x tg tx.sm
      rw [valueD_yes (by rw [hX.2.1, hD.2.1, hX.2.2.1]; rfl)] at v1
      have v2 := lValue_c goal d tg td.sm
      rw [valueD_yes (by rw [hD.2.2.1, hD.2.1, hD.2.2.2.1]; rfl)] at v2
      have v3 := lValue_c goal (onD (qOf k) x d) tg so
      rw [valueD_yes (by rw [hO.2.1, hD.2.1, hO.2.2.1]; rfl), dot_on hl] at v3
      have zx := szF_dot ⟨goal, 0, zF⟩ x tg tx.sm (by rw [hX.2.1]; exact hD.2.1) hX.2.2.1
      have zd := szF_dot ⟨goal, 0, zF⟩ d tg td.sm (by rw [hD.2.2.1]; exact hD.2.1) hD.2.2.2.1
      dsimp only at zx zd
      rw [szQ_ofQ] at zx zd
      have m1 := fmul_c (ofQ (dotD goal d)) k (by rw [szQ_ofQ]; omega) (by omega)
      rw [show mulD (ofQ (dotD goal d)) k = (ofQ (qOf k * dotD goal d), 0) by simp [mulD, okF_ofQ, ok, qOf_ofQ]; congr 1; grind] at m1
      have z1 := szQ_mul (qOf k) (dotD goal d)
      rw [szF_ok ok] at z1
      have m2 := qadd_c (dotD goal x) (qOf k * dotD goal d) (by omega) (by omega)
      have z2 := szQ_add (dotD goal x) (qOf k * dotD goal d)
      have v4 := lholds_c s (onD (qOf k) x d) ts.sm so
      rw [ho] at v4
      have v5 := same9_c (ofQ (dotD goal x + qOf k * dotD goal d)) (ofQ (dotD goal x + qOf k * dotD goal d)) (by rw [szQ_ofQ]; omega)
      rw [sameF_self] at v5
      have v6 := fsign_c (ofQ (dotD goal d)) (by rw [szQ_ofQ]; omega)
      rw [sgnD_ofQ] at v6
      have hneg := hD.2.2.2.2.2.2
      have j1 := map_map_id (f := cF) (g := datJ) (fun _ => rfl) (onD (qOf k) x d)
      exact aGoB (cj4 hres h6 j1 hneg) trivial
end Go.Proofs.Ytfcfcbamiaajlaa
