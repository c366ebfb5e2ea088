/-
  Layer 11: the law SpanEncloses.
-/
import Derived.Test.YtkddoopknapemaaPSpI
namespace Go.Proofs.Ytkddoopknapemaa
set_option linter.unusedVariables false
set_option linter.unusedSimpArgs false
set_option linter.unusedSectionVars false
open Go Go.RowKit
attribute [local go_sem] opsL_nil opsL_go opsL_guard gSel_tt gSel_ff gSel_tf gSel_ft stepR_some stepR_none callS_some callE_some runL_nil runL_go runL_guard gSelE_tt gSelE_ff gSelE_tf gSelE_ft stepE_some stepE_none opF callD rd constD putT upd_get guardL gOf_bool gOf_undef fieldAddrF fieldF loadF storeF indexAddrF indexF sliceF strSliceF bound buildF fillF buildSliceF elemsF allocF makeSliceF lenF elemsOf appendF minmaxF convertF boxF ldE blkAt spliceE D.cells? D.isCell Res.pure ov TyI.agg binD unD boolD initT thenA inBlockA argD argDs refsD refsL killW datJ datJs endA_ret endA_normal endR_some oneD_one oneD_two oneD_three oneD_four resDs resD fzT Value.oneCell' strip tabT tabM
attribute [local go_sem] List.map Nat.reduceEqDiff Nat.reduceBEq List.getElem?_cons_zero List.getElem?_cons_succ List.getElem?_nil Option.getD_some Option.getD_none true_and and_true true_or or_true false_or or_false and_self Nat.add_zero Nat.zero_add List.length_nil List.length_cons forall_const ite_true ite_false Bool.or_self Bool.false_eq_true Option.map_some Option.map_none beq_self_eq_true Nat.reduceAdd Nat.reduceSub Nat.reduceMul reduceCtorEq List.getElem?_toArray Bool.not_true Bool.not_false decide_eq_true_eq decide_true decide_false Nat.reduceLeDiff Nat.reduceLT Bool.or_false Bool.or_true Bool.and_true Bool.and_false Bool.false_and Bool.true_and Bool.true_beq Bool.false_beq beq_true beq_false Bool.not_eq_true List.drop_succ_cons List.take_succ_cons List.drop_zero List.take_zero List.length_map List.getElem?_map List.length_append List.all_cons List.all_nil List.append_nil List.nil_append List.cons_append List.set_cons_zero List.set_cons_succ Int.toNat_natCast Int.toNat_zero Option.isSome_some Option.isSome_none Array.size_empty ByteArray.size_empty Int.reduceToNat Int.reduceAdd Int.reduceSub Int.reduceLT Int.reduceLE Int.reduceEq Int.reduceNe Int.reduceBEq Int.reduceNeg List.forall_mem_cons List.not_mem_nil false_implies List.forall_mem_map implies_true Nat.reduceBNe Int.cast_ofNat_Int Int.reduceMul Int.reduceGE Int.reduceGT wrap_in ty_2 ty_3 ty_4 ty_5 ty_6 ty_7 ty_8 ty_9 ty_10 ty_11 ty_12 ty_13 ty_14 ty_18 ty_19 ty_21 ty_22 ty_23 ty_24 ty_25 ty_26 ty_27 ty_28 ty_29 ty_30 ty_31 ty_32 ty_37 ty_38 ty_41 ty_47 ty_65 ty_66 ty_67 ty_68 ty_77 ty_78 ty_115 ty_116 ty_124 ty_125 ty_126 ty_127 ty_130 ty_131 ty_137 ty_138 ty_144 ty_145 ty_146 ty_147 ty_148 ty_150 ty_151 ty_152 ty_155 ty_156 ty_157 ty_158
set_option maxRecDepth 100000
set_option maxHeartbeats 32000000
theorem mixed11_c (x y : List FracD) (p : Rat) (sx : smFs x) (sy : smFs y) (hx : okP x = true) (hy : okP y = true) (hl : x.length = y.length) (zp : (szQ p : Int) ≤ 4194304) : Contract Try.prog 34 [encFs x, encFs y, encF (ofQ p)] (encFs (mixD p x y)) := by
 have hres := Try.results34
 have lx := smFs_len sx
 have z1 : szQ ((1 : Int) : Rat) ≤ 4 := szQ_int 1 (by decide) (by decide)
 have i1 := fint_c 1 (by decide) (by decide)
 have m1 := fsub_c (ofQ ((1 : Int) : Rat)) (ofQ p) (by rw [szQ_ofQ]; omega) (by rw [szQ_ofQ]; omega)
 rw [subD_ofQ] at m1
 have zr := szQ_sub ((1 : Int) : Rat) p
 rw [Rat.intCast_one] at m1 i1 zr z1
 refine Contract.ofA (CallA.inline Try.func34 rfl (by kernel_rfl) (by kernel_rfl) (by kernel_rfl) ?_)
 rw [Try.ntmps34]
 refine aGo hres ?_
 repeat (guard_target =~ ∀ _ : St → Prop, _; intro K hK)
 refine aLe (le_row 9 30 4 rfl) ?_
 refine aLoopT (fun (k : Nat) => [(0, encFs x), (1, encFs y), (5, .lp 0 0 0 0), (7, .lp 1 0 0 0), (9, .ls 2 k), (10, dI k)]) (fun k => [(0, ⟨30, 0, 4, [cF (ofQ p)], 0, false⟩), (1, ⟨30, 0, 4, [cF (ofQ (1 - p))], 0, false⟩), (2, ⟨30, k, 4, (mixK p x y k).map cF, 0, false⟩)]) 3 0 (fun k => k ≤ x.length) (fun k => x.length - k) 0 (by omega) ?_ ?_
 · exact leGo mixK_zero
 · rintro k hk
   have hw : IntKind.i64.wrap ((k : Int) + 1) = (k : Int) + 1 := wrap_in (by omega) (by omega)
   have h0 : (0 : Int) ≤ k := by omega
   by_cases h1 : (k : Int) < x.length
   · obtain ⟨f, h2⟩ : ∃ e, x[k]? = some e := ⟨_, List.getElem?_eq_getElem (by omega)⟩
     obtain ⟨g, h3⟩ : ∃ e, y[k]? = some e := ⟨_, List.getElem?_eq_getElem (by omega)⟩
     have h1b : (k : Int) < y.length := by omega
     have of := (List.all_eq_true.1 hx) f (mem_at h2)
     have og := (List.all_eq_true.1 hy) g (mem_at h3)
     have sf : (szF f : Int) ≤ 4194304 := sx.2 f (mem_at h2)
     have sg : (szF g : Int) ≤ 4194304 := sy.2 g (mem_at h3)
     have k1 := fmul_c (ofQ p) f (by rw [szQ_ofQ]; omega) (by omega)
     rw [show mulD (ofQ p) f = (ofQ (p * qOf f), 0) by simp [mulD, okF_ofQ, qOf_ofQ, of]] at k1
     have k2 := fmul_c (ofQ (1 - p)) g (by rw [szQ_ofQ]; omega) (by omega)
     rw [show mulD (ofQ (1 - p)) g = (ofQ ((1 - p) * qOf g), 0) by simp [mulD, okF_ofQ, qOf_ofQ, og]] at k2
     have y1 := szQ_mul p (qOf f)
     rw [szF_ok of] at y1
     have y2 := szQ_mul (1 - p) (qOf g)
     rw [szF_ok og] at y2
     have k3 := fadd_c (ofQ (p * qOf f)) (ofQ ((1 - p) * qOf g)) (by rw [szQ_ofQ]; omega) (by rw [szQ_ofQ]; omega)
     rw [addD_ofQ] at k3
     have n1 := mixK_succ (p := p) h2 h3
     have n2 := mixK_len p x y k
     refine aGo (cj4 hres h0 h1 (cj4 h1b h2 h3 hw)) ?_
     repeat (guard_target =~ ∀ _ : St → Prop, _; intro K hK)
     exact loop_end (k + 1) (by omega) (by omega) (by exact leGo n1)
   · obtain rfl : k = x.length := by omega
     refine aGo (cj2 hres h1) ?_
     repeat (guard_target =~ ∀ _ : St → Prop, _; intro K hK)
     rw [mixK_all p hl]
     exact fz_fracs _ _ _
theorem within11_c (b : BdD) (v : FracD) (zl : (szF b.l : Int) ≤ 4456448) (zh : (szF b.h : Int) ≤ 4456448) (zv : (szF v : Int) ≤ 34359750000) (h1 : b.lo = true → cmpD b.l v ≤ 0) (h2 : b.hi = true → cmpD v b.h ≤ 0) : Contract Try.prog 30 [encBd b, encF v] (dB true) := by
 have hres := Try.results30
 have c1 := fcompare_c b.l v (by omega) (by omega)
 have c2 := fcompare_c v b.h (by omega) (by omega)
 obtain ⟨l, h, lo, hi⟩ := b
 simp only at *
 cases lo
 · cases hi
   · refine Contract.ofA (CallA.inline Try.func30 rfl (by kernel_rfl) (by kernel_rfl) (by kernel_rfl) ?_)
     rw [Try.ntmps30]
     exact aGo hres trivial
   · have g2 := h2 (by trivial)
     refine Contract.ofA (CallA.inline Try.func30 rfl (by kernel_rfl) (by kernel_rfl) (by kernel_rfl) ?_)
     rw [Try.ntmps30]
     exact aGo (cj2 hres g2) trivial
 · have g1 := h1 (by trivial)
   cases hi
   · refine Contract.ofA (CallA.inline Try.func30 rfl (by kernel_rfl) (by kernel_rfl) (by kernel_rfl) ?_)
     rw [Try.ntmps30]
     exact aGo (cj2 hres g1) trivial
   · have g2 := h2 (by trivial)
     refine Contract.ofA (CallA.inline Try.func30 rfl (by kernel_rfl) (by kernel_rfl) (by kernel_rfl) ?_)
     rw [Try.ntmps30]
     exact aGo (cj3 hres g1 g2) trivial
theorem enc_facts {s : SysD} {goal : List TermD} (hs : rightS s = true) (hg : rightT goal s.n = true) (he : (leastE s goal).k ≠ 1) :
    holdsS s (leastE s goal).x = true ∧ holdsS s (leastE s (oppT goal)).x = true ∧ ((boundsD (leastE s goal) (leastE s (oppT goal))).lo = true → (boundsD (leastE s goal) (leastE s (oppT goal))).l = ofQ (dotD goal (leastE s goal).x)) ∧
    ((boundsD (leastE s goal) (leastE s (oppT goal))).lo = false → rayD s goal (leastE s goal).d = true) ∧ ((boundsD (leastE s goal) (leastE s (oppT goal))).hi = true → (boundsD (leastE s goal) (leastE s (oppT goal))).h = ofQ (dotD goal (leastE s (oppT goal)).x)) ∧
    ((boundsD (leastE s goal) (leastE s (oppT goal))).hi = false → rayD s (oppT goal) (leastE s (oppT goal)).d = true) := by
 have hA := check_cases (least_check hs hg)
 have hB := check_cases (least_check hs (opp_right hg))
 generalize leastE s goal = A at *
 generalize leastE s (oppT goal) = B at *
 have xA : holdsS s A.x = true := by
  rcases hA with ⟨_, _, h, _⟩ | ⟨h, _⟩ | ⟨_, h, _⟩
  · exact h
  · exact absurd h he
  · exact h
 have kB : B.k ≠ 1 := by
  rcases hB with ⟨h, _⟩ | ⟨_, h, _⟩ | ⟨h, _⟩
  · omega
  · rw [refutes_no h] at xA; cases xA
  · omega
 have xB : holdsS s B.x = true := by
  rcases hB with ⟨_, _, h, _⟩ | ⟨h, _⟩ | ⟨_, h, _⟩
  · exact h
  · exact absurd h kB
  · exact h
 refine ⟨xA, xB, fun h => ?_, fun h => ?_, fun h => ?_, fun h => ?_⟩
 · have h0 : A.k = 0 := of_decide_eq_true h
   rcases hA with ⟨_, _, _, h, _⟩ | ⟨h, _⟩ | ⟨h, _⟩
   · simp only [boundsD, if_pos h0]; exact h
   · omega
   · omega
 · have h0 : ¬ A.k = 0 := of_decide_eq_false h
   rcases hA with ⟨h, _⟩ | ⟨h, _⟩ | ⟨_, _, h, _⟩
   · exact absurd h h0
   · exact absurd h he
   · exact h
 · have h0 : B.k = 0 := of_decide_eq_true h
   rcases hB with ⟨_, _, _, h, _⟩ | ⟨h, _⟩ | ⟨h, _⟩
   · simp only [boundsD, if_pos h0]
     rw [h, opp_dotD hs hg]
     simp only [negD, okF_ofQ, qOf_ofQ, if_true]
     rw [show -(-dotD goal B.x) = dotD goal B.x by grind]
   · omega
   · omega
 · have h0 : ¬ B.k = 0 := of_decide_eq_false h
   rcases hB with ⟨h, _⟩ | ⟨h, _⟩ | ⟨_, _, h, _⟩
   · exact absurd h h0
   · exact absurd h kB
   · exact h
theorem mix_sm {x y : List FracD} {p : Rat} (tx : tnFs x) (ty : tnFs y) (ox : okP x = true) (oy : okP y = true) (zp : szQ p ≤ 4) : smFs (mixD p x y) := by
 refine ⟨by unfold mixD; rw [List.length_zipWith]; have := tx.1; omega, fun f hf => ?_⟩
 obtain ⟨i, hi⟩ := List.getElem?_of_mem hf
 unfold mixD at hi
 rw [List.getElem?_zipWith] at hi
 split at hi
 · rename_i a b ha hb
   cases hi
   have oa := (List.all_eq_true.1 ox) a (mem_at ha)
   have ob := (List.all_eq_true.1 oy) b (mem_at hb)
   have z1 := szQ_mul p (qOf a)
   have z2 := szQ_mul (1 - p) (qOf b)
   have z3 := szQ_sub 1 p
   have z4 : szQ 1 ≤ 4 := szQ_int 1 (by decide) (by decide)
   have z5 := szQ_add (p * qOf a) ((1 - p) * qOf b)
   rw [szF_ok oa] at z1
   rw [szF_ok ob] at z2
   have := tx.2 a (mem_at ha)
   have := ty.2 b (mem_at hb)
   unfold tnF at *
   unfold smF
   rw [szQ_ofQ]
   omega
 · cases hi
theorem dot_sm {s : SysD} {goal : List TermD} {x : List FracD} (hf : fewT goal 6 2 = true) (hg : rightT goal s.n = true) (tx : tnFs x) (ox : okP x = true) : smF (ofQ (dotD goal x)) := by
 have hb : ∀ v, szQ (atP x v) ≤ 262144 := fun v => by
  unfold atP
  cases h : x[v.toNat]? with
  | none =>
    have h1 : szQ (qOf zF) ≤ 1 := by decide +kernel
    simp only [Option.getD_none]; omega
  | some f =>
    have h1 := tx.2 f (mem_at h)
    unfold tnF at h1
    simp only [Option.getD_some]
    rw [szF_ok (List.all_eq_true.1 ox f (mem_at h))]; omega
 have h2 := fewT_sz hf
 have h3 := dot_sz _ hb goal (C := 2) fun t ht => ⟨(rightT_mem hg ht).2.2.1, by have := h2.2 t ht; omega⟩
 rw [← dotD_eq] at h3
 have h4 := h2.1
 unfold smF
 rw [szQ_ofQ]
 omega
theorem mix_one (p a b : Rat) : mixD p [ofQ a] [ofQ b] = [ofQ (p * a + (1 - p) * b)] := by simp [mixD, qOf_ofQ]
theorem encloses11_c (k0 : Contract Try.prog 8 [] (dB true)) (s : SysD) (goal : List TermD) (x : List FracD) (p q : Int) (hp : 0 ≤ p ∧ p ≤ 255) (hq : 0 ≤ q ∧ q ≤ 255) :
    Contract Try.prog 7 [encS s, encTs goal, encFs x, .v (.int .u8 p), .v (.int .u8 q)] (dB true) := by
 have hres := Try.results7
 have q1 := few11_c s goal
 have q2 := fewP_c x 6 2 (by decide)
 cases h1 : few11 s goal
 · rw [h1] at q1
   refine Contract.ofA (CallA.inline Try.func7 rfl (by kernel_rfl) (by kernel_rfl) (by kernel_rfl) ?_)
   rw [Try.ntmps7]
   exact aGo hres trivial
 rw [h1] at q1
 simp only [few11, Bool.and_eq_true] at h1
 have F := fit11_of h1.1 h1.2
 have q3 := lrightS_c s F.tn.sm
 have q4 := lright_c goal s.n F.gt.sm
 cases h2 : fewP x 6 2
 · rw [h2] at q2
   refine Contract.ofA (CallA.inline Try.func7 rfl (by kernel_rfl) (by kernel_rfl) (by kernel_rfl) ?_)
   rw [Try.ntmps7]
   exact aGo hres trivial
 rw [h2] at q2
 have sx : smFs x := fewP_sm (by decide) (by decide) h2
 cases h3 : rightS s
 · rw [h3] at q3
   refine Contract.ofA (CallA.inline Try.func7 rfl (by kernel_rfl) (by kernel_rfl) (by kernel_rfl) ?_)
   rw [Try.ntmps7]
   exact aGo hres trivial
 rw [h3] at q3
 cases h4 : rightT goal s.n
 · rw [h4] at q4
   refine Contract.ofA (CallA.inline Try.func7 rfl (by kernel_rfl) (by kernel_rfl) (by kernel_rfl) ?_)
   rw [Try.ntmps7]
   exact aGo hres trivial
 rw [h4] at q4
 have ko := of11_c s goal F
 have kh := lholds_c s x F.tn.sm sx
 have e15 : ((15 : Int) != 0) = true := rfl
 have e1f : ((15 : Int) == 15) = true := rfl
 have e00 : ((0 : Int) != 0) = false := rfl
 have e0t : ((0 : Int) == 0) = true := rfl
 by_cases hk : (leastE s goal).k = 1
 · have er : rangeD s goal = ((zO, zO), 15) := by unfold rangeD; rw [h3, h4, if_pos (by rfl), if_pos hk]
   rw [er] at ko
   have no : holdsS s x = false := by
    rcases least_says (least_check h3 h4) with ⟨h, _⟩ | ⟨_, h⟩ | ⟨h, _⟩
    · omega
    · exact h x
    · omega
   rw [no] at kh
   refine Contract.ofA (CallA.inline Try.func7 rfl (by kernel_rfl) (by kernel_rfl) (by kernel_rfl) ?_)
   rw [Try.ntmps7]
   exact aGo (cj3 hres e15 e1f) trivial
 have er : rangeD s goal = ((leastE s goal, leastE s (oppT goal)), 0) := by unfold rangeD; rw [h3, h4, if_pos (by rfl), if_neg hk]
 have eb : (bdsD s goal).1 = boundsD (leastE s goal) (leastE s (oppT goal)) := by unfold bdsD; rw [er]
 obtain ⟨z1, z2⟩ := bds_sz F
 obtain ⟨v1, v2⟩ := range_sz F
 have Bk := (bds_ok h3 h4).resolve_left (fun h => by have := h.1; unfold bdsD at this; rw [er] at this; cases this)
 have hb := Bk.2.2
 rw [eb] at z1 z2 hb
 rw [er] at ko v1 v2
 obtain ⟨xA, xB, l1, l2, u1, u2⟩ := enc_facts h3 h4 hk
 have tA := least_tn F h3 h4
 have tB := least_tn F.opp h3 (opp_right h4)
 have kb := bounds11_c (leastE s goal) (leastE s (oppT goal)) (by simp only at v1; omega) (by simp only at v2; omega)
 have sg := F.gt.sm
 have kv := lValue_c goal x sg sx
 have hxA := holdsS_iff.1 xA
 have hxB := holdsS_iff.1 xB
 have va := lValue_c goal _ sg tA.2.1.sm
 rw [valueD_yes (l := goal) (x := (leastE s goal).x) (by rw [hxA.2.1, h4, hxA.2.2.1]; rfl)] at va
 have vb := lValue_c goal _ sg tB.2.1.sm
 rw [valueD_yes (l := goal) (x := (leastE s (oppT goal)).x) (by rw [hxB.2.1, h4, hxB.2.2.1]; rfl)] at vb
 have kA := lholds_c s _ F.tn.sm tA.2.1.sm
 rw [xA] at kA
 have kB := lholds_c s _ F.tn.sm tB.2.1.sm
 rw [xB] at kB
 have s1 := fsame_c (ofQ (dotD goal (leastE s goal).x)) (boundsD (leastE s goal) (leastE s (oppT goal))).l
 have s2 := fsame_c (ofQ (dotD goal (leastE s (oppT goal)).x)) (boundsD (leastE s goal) (leastE s (oppT goal))).h
 have d1 := dray_c s goal _ F.tn.sm sg tA.2.2.2.sm
 have d2 := dray_c s (oppT goal) _ F.tn.sm F.opp.gt.sm tB.2.2.2.sm
 have im := fint_c (-1) (by decide) (by decide)
 have kt := ltimes_c goal (ofQ ((-1 : Int) : Rat)) sg (by have := one_neg.1; unfold smF; omega)
 rw [show timesD goal (ofQ ((-1 : Int) : Rat)) = oppT goal from rfl] at kt
 have zv := szF_value goal x sg sx
 have hv : holdsS s x = true → valueD goal x = (ofQ (dotD goal x), true) ∧ ((boundsD (leastE s goal) (leastE s (oppT goal))).lo = true → cmpD (boundsD (leastE s goal) (leastE s (oppT goal))).l (ofQ (dotD goal x)) ≤ 0) ∧ ((boundsD (leastE s goal) (leastE s (oppT goal))).hi = true → cmpD (ofQ (dotD goal x)) (boundsD (leastE s goal) (leastE s (oppT goal))).h ≤ 0) := fun h => by
  have hx := holdsS_iff.1 h
  refine ⟨valueD_yes (by rw [hx.2.1, h4, hx.2.2.1]; rfl), fun hl => ?_, fun hl => ?_⟩
  · obtain ⟨r, _, e, _, _, hz⟩ := hb.lo hl
    rw [e]; exact (cmpD_ge _ _).2 (hz x h)
  · obtain ⟨r, _, e, _, _, hz⟩ := hb.hi hl
    rw [e]; exact (cmpD_ge _ _).2 (hz x h)
 have hmix : ¬ p > q → q ≠ 0 → Contract Try.prog 34 [encFs (leastE s goal).x, encFs (leastE s (oppT goal)).x, encF (ofQ (Rat.divInt p q))] (encFs (mixD (Rat.divInt p q) (leastE s goal).x (leastE s (oppT goal)).x)) ∧
     Contract Try.prog 34 [encFs [ofQ (dotD goal (leastE s goal).x)], encFs [ofQ (dotD goal (leastE s (oppT goal)).x)], encF (ofQ (Rat.divInt p q))] (encFs [ofQ (Rat.divInt p q * dotD goal (leastE s goal).x + (1 - Rat.divInt p q) * dotD goal (leastE s (oppT goal)).x)]) ∧
     Contract Try.prog 21 [encTs goal, encFs (mixD (Rat.divInt p q) (leastE s goal).x (leastE s (oppT goal)).x)] (.tup [encF (ofQ (Rat.divInt p q * dotD goal (leastE s goal).x + (1 - Rat.divInt p q) * dotD goal (leastE s (oppT goal)).x)), dB true]) ∧
     Contract Try.prog 18 [encS s, encFs (mixD (Rat.divInt p q) (leastE s goal).x (leastE s (oppT goal)).x)] (dB true) := fun h5 h6 => by
  have zq := szQ_frac p q h6 (by omega) (by omega) (by omega) (by omega)
  obtain ⟨w0, w1⟩ := divInt_unit hp.1 (by omega : p ≤ q) (by omega)
  have hl : (leastE s goal).x.length = (leastE s (oppT goal)).x.length := by have := hxA.2.1; have := hxB.2.1; omega
  have hm := holds_mix xA xB w0 w1
  have hm' := holdsS_iff.1 hm
  have sm := mix_sm tA.2.1 tB.2.1 hxA.2.2.1 hxB.2.2.1 (p := Rat.divInt p q) zq
  have smA := dot_sm (s := s) h1.2 h4 tA.2.1 hxA.2.2.1
  have smB := dot_sm (s := s) h1.2 h4 tB.2.1 hxB.2.2.1
  refine ⟨mixed11_c _ _ _ tA.2.1.sm tB.2.1.sm hxA.2.2.1 hxB.2.2.1 hl (by omega), ?_, ?_, ?_⟩
  · generalize dotD goal (leastE s goal).x = α at *
    generalize dotD goal (leastE s (oppT goal)).x = β at *
    have := mixed11_c [ofQ α] [ofQ β] (Rat.divInt p q) ⟨by simp, fun f hf => by rw [List.mem_singleton.1 hf]; exact smA⟩ ⟨by simp, fun f hf => by rw [List.mem_singleton.1 hf]; exact smB⟩ (by simp [okP, okF_ofQ]) (by simp [okP, okF_ofQ]) (by simp only [List.length_cons, List.length_nil]) (by omega)
    rwa [mix_one] at this
  · have := lValue_c goal _ sg sm
    have e : valueD goal (mixD (Rat.divInt p q) (leastE s goal).x (leastE s (oppT goal)).x) = (ofQ (dotD goal (mixD (Rat.divInt p q) (leastE s goal).x (leastE s (oppT goal)).x)), true) := valueD_yes (by rw [hm'.2.1, h4, hm'.2.2.1]; rfl)
    rw [e, dot_mix hl] at this
    exact this
  · have := lholds_c s _ F.tn.sm sm
    rwa [hm] at this
 have hof : q ≠ 0 → Contract Try.prog 33 [dI p, dI q] (.tup [encF (ofQ (Rat.divInt p q)), dI 0]) := fun h6 => fof_c p q h6 (by omega) (by omega) (by omega) (by omega)
 have wp : IntKind.i64.wrap p = p := wrap_in (by omega) (by omega)
 have wq : IntKind.i64.wrap q = q := wrap_in (by omega) (by omega)
 have kw : holdsS s x = true → Contract Try.prog 30 [encBd (boundsD (leastE s goal) (leastE s (oppT goal))), encF (ofQ (dotD goal x))] (dB true) := fun h => by
  obtain ⟨e, a, b⟩ := hv h
  rw [e] at zv
  exact within11_c _ _ z1 z2 zv a b
 have evx : holdsS s x = true → valueD goal x = (ofQ (dotD goal x), true) := fun h => (hv h).1
 have sA := fsame_c (ofQ (Rat.divInt p q * dotD goal (leastE s goal).x + (1 - Rat.divInt p q) * dotD goal (leastE s (oppT goal)).x)) (ofQ (Rat.divInt p q * dotD goal (leastE s goal).x + (1 - Rat.divInt p q) * dotD goal (leastE s (oppT goal)).x))
 rw [sameF_self] at sA
 generalize hV : valueD goal x = VX at *
 clear hV
 obtain ⟨vv, vo⟩ := VX
 clear hb Bk eb er v1 v2 z1 z2 zv hv xA xB hxA hxB tA tB
 generalize hbd : boundsD (leastE s goal) (leastE s (oppT goal)) = b at *
 clear hbd
 generalize leastE s goal = A at *
 generalize leastE s (oppT goal) = B at *
 generalize oppT goal = O at *
 obtain ⟨ak, av, ax, ay, ad⟩ := A
 obtain ⟨bk, bv, bx, bY, bd⟩ := B
 obtain ⟨bl, bh, blo, bhi⟩ := b
 simp only at *
 generalize dotD goal ax = α at *
 generalize dotD goal bx = β at *
 refine Contract.ofA (CallA.inline Try.func7 rfl (by kernel_rfl) (by kernel_rfl) (by kernel_rfl) ?_)
 rw [Try.ntmps7]
 repeat ((fail_if_success (with_reducible refine at_region 9 ?_)); first
     | (refine hK _ ?_; clear hK; clear K)
     | (refine aSeq fun K hK => ?_)
     | (refine aBlock ?_)
     | (refine aSkip ?_)
     | (refine aExit ?_)
     | (refine aRet ?_)
     | (refine aOps _ rfl (by kernel_rfl) ?_)
     | (refine aRunK _ rfl mixed (by kernel_rfl) (by kernel_rfl) fun KE hE => ?_)
     | (refine hE _ _ (by kernel_rfl) (intsOk_no rfl) ?_; clear hE; clear KE)
     | (refine hE _ _ (by kernel_rfl) (intsOk_yes ?hi ?hj) ?_; (case hi => (repeat (refine intsDead_updB rfl ?_)); exact intsDead_nil); (case hj => simp); clear hE; clear KE)
     | (refine aCondT rfl ?hc ?_; case hc => simp only [go_sem, ↓reduceIte, hres, e00])
     | (refine aCondF rfl ?hc ?_; case hc => simp only [go_sem, ↓reduceIte, hres, e00])
     | (refine callT_of (k0) ?_ ?_; rotate_left; (repeat (refine intsDead_updB rfl ?_)); exact intsDead_nil)
     | (refine callT_ofN (k0) ?_)
     | (refine callU_of (k0) rfl ?_)
     | (refine callU_ofN (k0) rfl ?_)
     | (refine callT_of (q1) ?_ ?_; rotate_left; (repeat (refine intsDead_updB rfl ?_)); exact intsDead_nil)
     | (refine callT_ofN (q1) ?_)
     | (refine callU_of (q1) rfl ?_)
     | (refine callU_ofN (q1) rfl ?_)
     | (refine callT_of (q2) ?_ ?_; rotate_left; (repeat (refine intsDead_updB rfl ?_)); exact intsDead_nil)
     | (refine callT_ofN (q2) ?_)
     | (refine callU_of (q2) rfl ?_)
     | (refine callU_ofN (q2) rfl ?_)
     | (refine callT_of (q3) ?_ ?_; rotate_left; (repeat (refine intsDead_updB rfl ?_)); exact intsDead_nil)
     | (refine callT_ofN (q3) ?_)
     | (refine callU_of (q3) rfl ?_)
     | (refine callU_ofN (q3) rfl ?_)
     | (refine callT_of (q4) ?_ ?_; rotate_left; (repeat (refine intsDead_updB rfl ?_)); exact intsDead_nil)
     | (refine callT_ofN (q4) ?_)
     | (refine callU_of (q4) rfl ?_)
     | (refine callU_ofN (q4) rfl ?_)
     | (refine callT_of (ko) ?_ ?_; rotate_left; (repeat (refine intsDead_updB rfl ?_)); exact intsDead_nil)
     | (refine callT_ofN (ko) ?_)
     | (refine callU_of (ko) rfl ?_)
     | (refine callU_ofN (ko) rfl ?_)
     | (refine callT_of (kb) ?_ ?_; rotate_left; (repeat (refine intsDead_updB rfl ?_)); exact intsDead_nil)
     | (refine callT_ofN (kb) ?_)
     | (refine callU_of (kb) rfl ?_)
     | (refine callU_ofN (kb) rfl ?_)
     | (refine callT_of (kv) ?_ ?_; rotate_left; (repeat (refine intsDead_updB rfl ?_)); exact intsDead_nil)
     | (refine callT_ofN (kv) ?_)
     | (refine callU_of (kv) rfl ?_)
     | (refine callU_ofN (kv) rfl ?_)
     | (simp only [go_sem, ↓reduceIte, hres, e00])
     | (refine And.intro ?ho ?_; (case ho => omega))
     | (clear hK; clear K))
 have r1 : True → ∀ st, StLe st ⟨tabT [(1, encTs goal), (3, .v (.int .u8 p)), (4, .v (.int .u8 q)), (5, .lp 0 0 0 0), (11, dB true), (12, .lp 1 0 0 0), (14, .lp 2 0 0 0), (89, dB false)], tabM [(0, sB0 s), (1, ⟨68, 0, 16, [[dI ak, dI av.p.s, encInts av.p.d, dI av.q.s, encInts av.q.d, encFs ax, encFs ay, encFs ad, dI bk, dI bv.p.s, encInts bv.p.d, dI bv.q.s, encInts bv.q.d, encFs bx, encFs bY, encFs bd]], 0, false⟩), (2, bB ⟨bl, bh, blo, bhi⟩)], 4, 0⟩ → K st := by
  intro _ st hle
  refine hK _ (aLe hle ?_)
  clear hle
  repeat ((fail_if_success (with_reducible refine at_region 13 ?_)); first
   | (refine hK _ ?_; clear hK; clear K)
   | (refine aSeq fun K hK => ?_)
   | (refine aBlock ?_)
   | (refine aSkip ?_)
   | (refine aExit ?_)
   | (refine aRet ?_)
   | (refine aOps _ rfl (by kernel_rfl) ?_)
   | (refine aRunK _ rfl mixed (by kernel_rfl) (by kernel_rfl) fun KE hE => ?_)
   | (refine hE _ _ (by kernel_rfl) (intsOk_no rfl) ?_; clear hE; clear KE)
   | (refine hE _ _ (by kernel_rfl) (intsOk_yes ?hi ?hj) ?_; (case hi => (repeat (refine intsDead_updB rfl ?_)); exact intsDead_nil); (case hj => simp); clear hE; clear KE)
   | (refine aCondT rfl ?hc ?_; case hc => simp only [go_sem, ↓reduceIte, hres])
   | (refine aCondF rfl ?hc ?_; case hc => simp only [go_sem, ↓reduceIte, hres])
   | (refine callT_of (va) ?_ ?_; rotate_left; (repeat (refine intsDead_updB rfl ?_)); exact intsDead_nil)
   | (refine callT_ofN (va) ?_)
   | (refine callU_of (va) rfl ?_)
   | (refine callU_ofN (va) rfl ?_)
   | (refine callT_of (vb) ?_ ?_; rotate_left; (repeat (refine intsDead_updB rfl ?_)); exact intsDead_nil)
   | (refine callT_ofN (vb) ?_)
   | (refine callU_of (vb) rfl ?_)
   | (refine callU_ofN (vb) rfl ?_)
   | (simp only [go_sem, ↓reduceIte, hres])
   | (refine And.intro ?ho ?_; (case ho => omega))
   | (clear hK; clear K))
  have r2 : True → ∀ st, StLe st ⟨tabT [(1, encTs goal), (3, .v (.int .u8 p)), (4, .v (.int .u8 q)), (5, .lp 0 0 0 0), (11, dB true), (12, .lp 1 0 0 0), (14, .lp 2 0 0 0), (17, .lp 4 0 0 0), (18, dB true), (19, .lp 5 0 0 0), (20, dB true), (149, dB false)], tabM [(0, sB0 s), (1, ⟨68, 0, 16, [[dI ak, dI av.p.s, encInts av.p.d, dI av.q.s, encInts av.q.d, encFs ax, encFs ay, encFs ad, dI bk, dI bv.p.s, encInts bv.p.d, dI bv.q.s, encInts bv.q.d, encFs bx, encFs bY, encFs bd]], 0, false⟩), (2, bB ⟨bl, bh, blo, bhi⟩), (4, ⟨30, 0, 4, [cF (ofQ α)], 0, false⟩), (5, ⟨30, 0, 4, [cF (ofQ β)], 0, false⟩)], 6, 0⟩ → K st := by
   intro _ st hle
   refine hK _ (aLe hle ?_)
   clear hle
   repeat ((fail_if_success (with_reducible refine at_region 15 ?_)); first
   | (refine hK _ ?_; clear hK; clear K)
   | (refine aSeq fun K hK => ?_)
   | (refine aBlock ?_)
   | (refine aSkip ?_)
   | (refine aExit ?_)
   | (refine aRet ?_)
   | (refine aOps _ rfl (by kernel_rfl) ?_)
   | (refine aRunK _ rfl mixed (by kernel_rfl) (by kernel_rfl) fun KE hE => ?_)
   | (refine hE _ _ (by kernel_rfl) (intsOk_no rfl) ?_; clear hE; clear KE)
   | (refine hE _ _ (by kernel_rfl) (intsOk_yes ?hi ?hj) ?_; (case hi => (repeat (refine intsDead_updB rfl ?_)); exact intsDead_nil); (case hj => simp); clear hE; clear KE)
   | (refine aCondT rfl ?hc ?_; case hc => simp only [go_sem, ↓reduceIte, hres])
   | (refine aCondF rfl ?hc ?_; case hc => simp only [go_sem, ↓reduceIte, hres])
   | (simp only [go_sem, ↓reduceIte, hres])
   | (refine And.intro ?ho ?_; (case ho => omega))
   | (clear hK; clear K))
   have r3 : True → ∀ st, StLe st ⟨tabT [(1, encTs goal), (3, .v (.int .u8 p)), (4, .v (.int .u8 q)), (5, .lp 0 0 0 0), (11, dB true), (12, .lp 1 0 0 0), (14, .lp 2 0 0 0), (17, .lp 4 0 0 0), (18, dB true), (19, .lp 5 0 0 0), (20, dB true), (177, dB false)], tabM [(0, sB0 s), (1, ⟨68, 0, 16, [[dI ak, dI av.p.s, encInts av.p.d, dI av.q.s, encInts av.q.d, encFs ax, encFs ay, encFs ad, dI bk, dI bv.p.s, encInts bv.p.d, dI bv.q.s, encInts bv.q.d, encFs bx, encFs bY, encFs bd]], 0, false⟩), (2, bB ⟨bl, bh, blo, bhi⟩), (4, ⟨30, 0, 4, [cF (ofQ α)], 0, false⟩), (5, ⟨30, 0, 4, [cF (ofQ β)], 0, false⟩)], 6, 0⟩ → K st := by
    intro _ st hle
    refine hK _ (aLe hle ?_)
    clear hle hK
    cases h5 : q == 0
    rotate_left
    · exact aGo (cj2 hres h5) trivial
    have h5' : q ≠ 0 := by simpa using h5
    by_cases h6 : p > q
    · exact aGo (cj3 hres h5 h6) trivial
    obtain ⟨m1, m2, m3, m4⟩ := hmix h6 h5'
    have ho := hof h5'
    exact aGo (cj4 hres h5 h6 (cj3 wp wq e0t)) trivial
   clear hK
   cases blo
   · rw [l2 rfl] at d1
     cases bhi
     · rw [u2 rfl] at d2
       refine aGo hres ?_
       repeat (guard_target =~ ∀ _ : St → Prop, _; intro K hK)
       exact r3 trivial _ (by exact leGo trivial)
     · refine aGo hres ?_
       repeat (guard_target =~ ∀ _ : St → Prop, _; intro K hK)
       exact r3 trivial _ (by exact leGo trivial)
   · cases bhi
     · rw [u2 rfl] at d2
       refine aGo hres ?_
       repeat (guard_target =~ ∀ _ : St → Prop, _; intro K hK)
       exact r3 trivial _ (by exact leGo trivial)
     · refine aGo hres ?_
       repeat (guard_target =~ ∀ _ : St → Prop, _; intro K hK)
       exact r3 trivial _ (by exact leGo trivial)
  clear hK
  cases blo
  · cases bhi
    · refine aGo hres ?_
      repeat (guard_target =~ ∀ _ : St → Prop, _; intro K hK)
      exact r2 trivial _ (by exact leGo trivial)
    · obtain rfl := u1 (by trivial); rw [sameF_self] at s2
      refine aGo hres ?_
      repeat (guard_target =~ ∀ _ : St → Prop, _; intro K hK)
      exact r2 trivial _ (by exact leGo trivial)
  · obtain rfl := l1 (by trivial); rw [sameF_self] at s1
    cases bhi
    · refine aGo hres ?_
      repeat (guard_target =~ ∀ _ : St → Prop, _; intro K hK)
      exact r2 trivial _ (by exact leGo trivial)
    · obtain rfl := u1 (by trivial); rw [sameF_self] at s2
      refine aGo hres ?_
      repeat (guard_target =~ ∀ _ : St → Prop, _; intro K hK)
      exact r2 trivial _ (by exact leGo trivial)
 clear hK
 cases hx : holdsS s x
 · rw [hx] at kh
   refine aGo hres ?_
   repeat (guard_target =~ ∀ _ : St → Prop, _; intro K hK)
   exact r1 trivial _ (by exact leGo trivial)
 · rw [hx] at kh
   have kx := kw hx
   obtain ⟨rfl, rfl⟩ := Prod.mk.inj (evx hx)
   refine aGo hres ?_
   repeat (guard_target =~ ∀ _ : St → Prop, _; intro K hK)
   exact r1 trivial _ (by exact leGo trivial)
end Go.Proofs.Ytkddoopknapemaa
