/-
  DualSums: the walk.
-/
import Derived.Test.YtfcfcbamiaajlaaMDualZ

/-
  DualSums: the walk.
-/
namespace Go.Proofs.Ytfcfcbamiaajlaa
set_option linter.unusedVariables false
set_option linter.unusedSimpArgs false
open Go Go.RowKit
attribute [local go_sem] opsL_nil opsL_go opsL_guard gSel_tt gSel_ff gSel_tf gSel_ft stepR_some stepR_none callS_some callE_some runL_nil runL_go runL_guard gSelE_tt gSelE_ff gSelE_tf gSelE_ft stepE_some stepE_none opF callD rd constD putT upd_get guardL gOf_bool gOf_undef fieldAddrF fieldF loadF storeF indexAddrF indexF sliceF strSliceF bound buildF fillF buildSliceF elemsF allocF makeSliceF lenF elemsOf appendF minmaxF convertF boxF ldE blkAt spliceE D.cells? D.isCell Res.pure ov TyI.agg binD unD boolD initT thenA inBlockA argD argDs refsD refsL killW datJ datJs endA_ret endA_normal endR_some oneD_one oneD_two oneD_three oneD_four resDs resD fzT Value.oneCell' strip tabT tabM
attribute [local go_sem] List.map Nat.reduceEqDiff Nat.reduceBEq List.getElem?_cons_zero List.getElem?_cons_succ List.getElem?_nil Option.getD_some Option.getD_none true_and and_true true_or or_true false_or or_false and_self Nat.add_zero Nat.zero_add List.length_nil List.length_cons forall_const ite_true ite_false Bool.or_self Bool.false_eq_true Option.map_some Option.map_none beq_self_eq_true Nat.reduceAdd Nat.reduceSub Nat.reduceMul reduceCtorEq List.getElem?_toArray Bool.not_true Bool.not_false decide_eq_true_eq decide_true decide_false Nat.reduceLeDiff Nat.reduceLT Bool.or_false Bool.or_true Bool.and_true Bool.and_false Bool.false_and Bool.true_and Bool.true_beq Bool.false_beq beq_true beq_false Bool.not_eq_true List.drop_succ_cons List.take_succ_cons List.drop_zero List.take_zero List.length_map List.getElem?_map List.length_append List.all_cons List.all_nil List.append_nil List.nil_append List.cons_append List.set_cons_zero List.set_cons_succ Int.toNat_natCast Int.toNat_zero Option.isSome_some Option.isSome_none Array.size_empty ByteArray.size_empty Int.reduceToNat Int.reduceAdd Int.reduceSub Int.reduceLT Int.reduceLE Int.reduceEq Int.reduceNe Int.reduceBEq Int.reduceNeg List.forall_mem_cons List.not_mem_nil false_implies List.forall_mem_map implies_true Nat.reduceBNe Int.cast_ofNat_Int Int.reduceMul Int.reduceGE Int.reduceGT wrap_in ty_2 ty_3 ty_4 ty_5 ty_6 ty_7 ty_8 ty_9 ty_10 ty_11 ty_12 ty_13 ty_14 ty_18 ty_19 ty_21 ty_22 ty_23 ty_24 ty_25 ty_26 ty_31 ty_32 ty_33 ty_34 ty_35 ty_41 ty_42 ty_47 ty_48 ty_56 ty_66 ty_67 ty_106 ty_108 ty_111 ty_112 ty_113 ty_114 ty_115 ty_117 ty_118 ty_119 ty_122 ty_123 ty_124 ty_125
set_option maxRecDepth 100000
set_option maxHeartbeats 16000000

def scK (k : Rat) (y : List FracD) (i : Nat) : List FracD := scaleY (y.take i) k
theorem scK_zero (k : Rat) (y : List FracD) : scK k y 0 = [] := rfl
theorem scK_succ {k : Rat} {y : List FracD} {i : Nat} {a : FracD} (h : y[i]? = some a) : scK k y (i + 1) = scK k y i ++ [ofQ (qOf a * k)] := by
  unfold scK scaleY; rw [List.take_add_one, h, List.map_append]; rfl
theorem scK_len (k : Rat) (y : List FracD) (i : Nat) : (scK k y i).length ≤ y.length := by
  unfold scK scaleY; rw [List.length_map, List.length_take]; omega
theorem scK_all (k : Rat) (y : List FracD) : scK k y y.length = scaleY y k := by
  unfold scK; rw [List.take_length]
theorem scaled9_c (y : List FracD) (k : FracD) (hy : smFs y) (hk : smF k) (oy : okP y = true) (ok : okF k = true) : Contract Try.prog 30 [encFs y, encF k] (encFs (scaleY y (qOf k))) := by
  have hres := Try.results30
  have hl := hy.1
  refine Contract.ofA (CallA.inline Try.func30 rfl (by kernel_rfl) (by kernel_rfl) (by kernel_rfl) ?_)
  rw [Try.ntmps30]
  refine aGo hres ?_
  repeat (guard_target =~ ∀ _ : St → Prop, _; intro K hK)
  have zk := scK_zero (qOf k) y
  refine aLoopT (fun (i : Nat) => [(0, encFs y), (3, .lp 0 0 0 0), (5, .ls 1 i), (6, dI i)]) (fun i => [(0, ⟨35, 0, 4, [cF k], 0, false⟩), (1, ⟨35, i, 4, (scK (qOf k) y i).map cF, 0, false⟩)]) 2 0 (fun i => i ≤ y.length) (fun i => y.length - i) 0 (by omega) ?_ ?_
  · exact leGo zk
  · rintro i hi
    have hw : IntKind.i64.wrap ((i : Int) + 1) = (i : Int) + 1 := wrap_in (by omega) (by omega)
    have i0 : (0 : Int) ≤ i := by omega
    by_cases h6 : (i : Int) < y.length
    · obtain ⟨a, ha⟩ : ∃ e, y[i]? = some e := ⟨_, List.getElem?_eq_getElem (by omega)⟩
      have oa := List.all_eq_true.1 oy a (mem_at ha)
      have m1 := fmul_c a k (smF_i (hy.2 a (mem_at ha))) (smF_i hk)
      rw [show mulD a k = (ofQ (qOf a * qOf k), 0) by simp [mulD, oa, ok]] at m1
      have e1 := scK_succ (k := qOf k) ha
      have e2 := scK_len (qOf k) y i
      refine aGo (cj4 hres i0 h6 (cj2 ha hw)) ?_
      repeat (guard_target =~ ∀ _ : St → Prop, _; intro K hK)
      exact loop_end (i + 1) (by omega) (by omega) (by exact leGo e1)
    · obtain rfl : i = y.length := by omega
      rw [scK_all (qOf k) y]
      exact aGoB (cj2 hres h6) (fz_fracs _ _ _)

/-
  DualSums: the walk.
-/

def suK (y z : List FracD) (i : Nat) : List FracD := sumY (y.take i) (z.take i)
theorem suK_zero (y z : List FracD) : suK y z 0 = [] := rfl
theorem suK_succ {y z : List FracD} {i : Nat} {a b : FracD} (h : y[i]? = some a) (h2 : z[i]? = some b) : suK y z (i + 1) = suK y z i ++ [ofQ (qOf a + qOf b)] := zip_take_succ _ h h2
theorem suK_len (y z : List FracD) (i : Nat) : (suK y z i).length ≤ y.length := by
  unfold suK sumY; rw [List.length_zipWith, List.length_take]; omega
theorem suK_all {y z : List FracD} (h : y.length = z.length) : suK y z y.length = sumY y z := by
  unfold suK; rw [List.take_length, h, List.take_length]
theorem sum_mem {y z : List FracD} {h : FracD} (hh : h ∈ sumY y z) : ∃ f g, f ∈ y ∧ g ∈ z ∧ h = ofQ (qOf f + qOf g) := by
  obtain ⟨i, hi, rfl⟩ := List.getElem_of_mem hh
  unfold sumY at hi ⊢
  rw [List.getElem_zipWith]
  rw [List.length_zipWith] at hi
  exact ⟨_, _, List.getElem_mem (by omega), List.getElem_mem (by omega), rfl⟩
theorem tn_scale {y : List FracD} {k : FracD} (ny : ∀ f ∈ y, szF f ≤ 6) (nk : szF k ≤ 6) (hl : (y.length : Int) ≤ 64) (oy : okP y = true) (ok : okF k = true) : tnFs (scaleY y (qOf k)) :=
  ⟨by unfold scaleY; rw [List.length_map]; exact hl, fun h hh => by
    obtain ⟨f, hf, rfl⟩ := List.mem_map.1 hh
    have of := List.all_eq_true.1 oy f hf
    have zf := ny f hf
    have z1 := szQ_mul (qOf f) (qOf k)
    rw [szF_ok of, szF_ok ok] at z1
    unfold tnF; rw [szQ_ofQ]; omega⟩
theorem sums9_c (k0 : Contract Try.prog 8 [] (dB true)) (s : SysD) (a b : List TermD) (y z : List FracD) (k : FracD) : Contract Try.prog 7 [encS s, encTs a, encTs b, encFs y, encFs z, encF k] (dB true) := by
  have hres := Try.results7
  have c1 := dfew_c s a
  have c2 := fewT9_c b 10 (by decide)
  have c3 := shorts9_c y 12 (by decide)
  have c4 := shorts9_c z 12 (by decide)
  have c5 := short9_c k
  cases h1 : (few9 s && fewT a 10 6)
  · rw [h1] at c1
    refine Contract.ofA (CallA.inline Try.func7 rfl (by kernel_rfl) (by kernel_rfl) (by kernel_rfl) ?_)
    rw [Try.ntmps7]
    exact aGo hres trivial
  rw [h1] at c1
  cases h2 : fewT b 10 6
  · rw [h2] at c2
    refine Contract.ofA (CallA.inline Try.func7 rfl (by kernel_rfl) (by kernel_rfl) (by kernel_rfl) ?_)
    rw [Try.ntmps7]
    exact aGo hres trivial
  rw [h2] at c2
  cases h3 : fewP y 12 6
  · rw [h3] at c3
    refine Contract.ofA (CallA.inline Try.func7 rfl (by kernel_rfl) (by kernel_rfl) (by kernel_rfl) ?_)
    rw [Try.ntmps7]
    exact aGo hres trivial
  rw [h3] at c3
  cases h4 : fewP z 12 6
  · rw [h4] at c4
    refine Contract.ofA (CallA.inline Try.func7 rfl (by kernel_rfl) (by kernel_rfl) (by kernel_rfl) ?_)
    rw [Try.ntmps7]
    exact aGo hres trivial
  rw [h4] at c4
  cases h5 : fewF 6 k
  · rw [h5] at c5
    refine Contract.ofA (CallA.inline Try.func7 rfl (by kernel_rfl) (by kernel_rfl) (by kernel_rfl) ?_)
    rw [Try.ntmps7]
    exact aGo hres trivial
  rw [h5] at c5
  simp only [Bool.and_eq_true] at h1
  have ts := tnS_few h1.1
  have ta := (tnT_few (by decide) (by decide) h1.2).sm
  have tb := (tnT_few (by decide) (by decide) h2).sm
  have ty := tnFs_few (by decide) (by decide) h3
  have tz := tnFs_few (by decide) (by decide) h4
  have ny := fewP_nat 6 (by decide) h3
  have nz := fewP_nat 6 (by decide) h4
  have na := fewT_nat 6 (by decide) h1.2
  have nb := fewT_nat 6 (by decide) h2
  have nk := fewF_nat 6 (by decide) h5
  have k1 := dlower_c s a y ts ta ty
  have k2 := dlower_c s b z ts tb tz
  cases hA : (lowerD s a y).2
  · rw [lowerD_no hA] at k1
    cases hB : (lowerD s b z).2
    · rw [lowerD_no hB] at k2
      refine Contract.ofA (CallA.inline Try.func7 rfl (by kernel_rfl) (by kernel_rfl) (by kernel_rfl) ?_)
      rw [Try.ntmps7]
      exact aGo hres trivial
    · rw [show lowerD s b z = ((lowerD s b z).1, true) from Prod.ext rfl hB] at k2
      refine Contract.ofA (CallA.inline Try.func7 rfl (by kernel_rfl) (by kernel_rfl) (by kernel_rfl) ?_)
      rw [Try.ntmps7]
      exact aGo hres trivial
  have hA1 := lowerD_val hA
  rw [show lowerD s a y = (ofQ (mixV s.r y), true) from Prod.ext hA1 hA] at k1
  cases hB : (lowerD s b z).2
  · rw [lowerD_no hB] at k2
    refine Contract.ofA (CallA.inline Try.func7 rfl (by kernel_rfl) (by kernel_rfl) (by kernel_rfl) ?_)
    rw [Try.ntmps7]
    exact aGo hres trivial
  have hB1 := lowerD_val hB
  rw [show lowerD s b z = (ofQ (mixV s.r z), true) from Prod.ext hB1 hB] at k2
  obtain ⟨a1, a2, a3, a4, a5, a6⟩ := lower_iff.1 hA
  obtain ⟨_, b2, b3, b4, b5, b6⟩ := lower_iff.1 hB
  have hl : y.length = z.length := by omega
  have e0 : ((y.length : Int) != z.length) = false := by rw [hl]; simp
  have su := sz_lower (goal := a) ts ty
  rw [hA1, szQ_ofQ] at su
  have sv := sz_lower (goal := b) ts tz
  rw [hB1, szQ_ofQ] at sv
  have sk : szF k ≤ 6 := nk
  have kk := fright_c k (by omega)
  have ks := fsign_c k (by omega)
  refine Contract.ofA (CallA.inline Try.func7 rfl (by kernel_rfl) (by kernel_rfl) (by kernel_rfl) ?_)
  rw [Try.ntmps7]
  refine aGo (cj2 hres e0) ?_
  repeat (guard_target =~ ∀ _ : St → Prop, _; intro K hK)
  have zk := suK_zero y z
  refine aLoopT (fun (i : Nat) => [(1, encTs a), (2, encTs b), (3, encFs y), (4, encFs z), (6, .lp 0 0 0 0), (11, .lp 1 0 0 0), (13, dB true), (14, .lp 2 0 0 0), (16, .lp 3 0 0 0), (18, .ls 4 i), (19, dI i)]) (fun i => [(0, ⟨24, 0, 2, [cS s], 0, false⟩), (1, ⟨35, 0, 4, [cF k], 0, false⟩), (2, ⟨35, 0, 4, [cF (ofQ (mixV s.r y))], 0, false⟩), (3, ⟨35, 0, 4, [cF (ofQ (mixV s.r z))], 0, false⟩), (4, ⟨35, i, 4, (suK y z i).map cF, 0, false⟩)]) 5 0 (fun i => i ≤ y.length) (fun i => y.length - i) 0 (by omega) ?_ ?_
  · exact leGo zk
  · rintro i hi
    have hly := ty.1
    have hw : IntKind.i64.wrap ((i : Int) + 1) = (i : Int) + 1 := wrap_in (by omega) (by omega)
    have i0 : (0 : Int) ≤ i := by omega
    by_cases h6 : (i : Int) < y.length
    · obtain ⟨f, hf⟩ : ∃ e, y[i]? = some e := ⟨_, List.getElem?_eq_getElem (by omega)⟩
      obtain ⟨g, hg⟩ : ∃ e, z[i]? = some e := ⟨_, List.getElem?_eq_getElem (by omega)⟩
      have h6b : (i : Int) < z.length := by omega
      have of := List.all_eq_true.1 a3 f (mem_at hf)
      have og := List.all_eq_true.1 b3 g (mem_at hg)
      have zf := ny f (mem_at hf)
      have zg := nz g (mem_at hg)
      have m1 := fadd_c f g (by omega) (by omega)
      rw [show addD f g = (ofQ (qOf f + qOf g), 0) by simp [addD, of, og]] at m1
      have e1 := suK_succ hf hg
      have e2 := suK_len y z i
      refine aGoB (cj4 hres i0 h6 (cj4 h6b hf hg hw)) ?_
      repeat (guard_target =~ ∀ _ : St → Prop, _; intro K hK)
      exact loop_end (i + 1) (by omega) (by omega) (by exact leGo e1)
    · obtain rfl : i = y.length := by omega
      rw [suK_all hl]
      have tsum : tnFs (sumY y z) := ⟨by unfold sumY; rw [List.length_zipWith]; omega, fun h hh => by
        obtain ⟨f, g, hf, hg, rfl⟩ := sum_mem hh
        have zf := ny f hf
        have zg := nz g hg
        have of := List.all_eq_true.1 a3 f hf
        have og := List.all_eq_true.1 b3 g hg
        have z1 := szQ_add (qOf f) (qOf g)
        rw [szF_ok of, szF_ok og] at z1
        unfold tnF; rw [szQ_ofQ]; omega⟩
      have m0 := qadd_c (mixV s.r y) (mixV s.r z) (by omega) (by omega)
      have z0 := szQ_add (mixV s.r y) (mixV s.r z)
      have m1 := lplus_c a b ta tb
      obtain ⟨pl, pz⟩ := plusD_sz na nb
      have la := (tnT_few (by decide) (by decide) h1.2).1
      have lb := (tnT_few (by decide) (by decide) h2).1
      have sp : smT (plusD a b) := smT_nat (N := 13) (by omega) (by decide) pz
      have p1 := dlower_c s (plusD a b) (sumY y z) ts sp tsum
      rw [lower_sum hA hB] at p1
      have p2 := same9_c (ofQ (mixV s.r y + mixV s.r z)) (ofQ (mixV s.r y + mixV s.r z)) (by rw [szQ_ofQ]; omega)
      rw [sameF_self] at p2
      have j1 := map_map_id (f := cF) (g := datJ) (fun _ => rfl) (sumY y z)
      cases ok : okF k
      · rw [ok] at kk
        exact aGoB (cj3 hres h6 j1) trivial
      rw [ok] at kk
      by_cases hk : sgnD k < 0
      · exact aGoB (cj4 hres h6 hk j1) trivial
      have hk0 : 0 ≤ qOf k := (sgnD_nonneg ok).1 (by omega)
      have q1 := fmul_c (ofQ (mixV s.r y)) k (by rw [szQ_ofQ]; omega) (by omega)
      rw [show mulD (ofQ (mixV s.r y)) k = (ofQ (qOf k * mixV s.r y), 0) by simp [mulD, okF_ofQ, ok, qOf_ofQ]; congr 1; grind] at q1
      have z2 := szQ_mul (qOf k) (mixV s.r y)
      rw [szF_ok ok] at z2
      have fk : smF k := by unfold smF; omega
      have q2 := ltimes_c a k ta fk
      obtain ⟨tl, tz1⟩ := timesD_sz na nk
      have st : smT (timesD a k) := smT_nat (N := 12) (by omega) (by decide) tz1
      have q3 := scaled9_c y k ty.sm fk a3 ok
      have q4 := dlower_c s (timesD a k) (scaleY y (qOf k)) ts st (tn_scale ny nk ty.1 a3 ok)
      rw [lower_scale hA ok hk0] at q4
      have q5 := same9_c (ofQ (qOf k * mixV s.r y)) (ofQ (qOf k * mixV s.r y)) (by rw [szQ_ofQ]; omega)
      rw [sameF_self] at q5
      exact aGoB (cj4 hres h6 hk j1) trivial
end Go.Proofs.Ytfcfcbamiaajlaa
