/-
  Layer 11: the law SpanCertain.
-/
import Derived.Test.YtkddoopknapemaaPSpN
namespace Go.Proofs.Ytkddoopknapemaa
set_option linter.unusedVariables false
set_option linter.unusedSimpArgs false
set_option linter.unusedSectionVars false
open Go Go.RowKit
attribute [local go_sem] opsL_nil opsL_go opsL_guard gSel_tt gSel_ff gSel_tf gSel_ft stepR_some stepR_none callS_some callE_some runL_nil runL_go runL_guard gSelE_tt gSelE_ff gSelE_tf gSelE_ft stepE_some stepE_none opF callD rd constD putT upd_get guardL gOf_bool gOf_undef fieldAddrF fieldF loadF storeF indexAddrF indexF sliceF strSliceF bound buildF fillF buildSliceF elemsF allocF makeSliceF lenF elemsOf appendF minmaxF convertF boxF ldE blkAt spliceE D.cells? D.isCell Res.pure ov TyI.agg binD unD boolD initT thenA inBlockA argD argDs refsD refsL killW datJ datJs endA_ret endA_normal endR_some oneD_one oneD_two oneD_three oneD_four resDs resD fzT Value.oneCell' strip tabT tabM
attribute [local go_sem] List.map Nat.reduceEqDiff Nat.reduceBEq List.getElem?_cons_zero List.getElem?_cons_succ List.getElem?_nil Option.getD_some Option.getD_none true_and and_true true_or or_true false_or or_false and_self Nat.add_zero Nat.zero_add List.length_nil List.length_cons forall_const ite_true ite_false Bool.or_self Bool.false_eq_true Option.map_some Option.map_none beq_self_eq_true Nat.reduceAdd Nat.reduceSub Nat.reduceMul reduceCtorEq List.getElem?_toArray Bool.not_true Bool.not_false decide_eq_true_eq decide_true decide_false Nat.reduceLeDiff Nat.reduceLT Bool.or_false Bool.or_true Bool.and_true Bool.and_false Bool.false_and Bool.true_and Bool.true_beq Bool.false_beq beq_true beq_false Bool.not_eq_true List.drop_succ_cons List.take_succ_cons List.drop_zero List.take_zero List.length_map List.getElem?_map List.length_append List.all_cons List.all_nil List.append_nil List.nil_append List.cons_append List.set_cons_zero List.set_cons_succ Int.toNat_natCast Int.toNat_zero Option.isSome_some Option.isSome_none Array.size_empty ByteArray.size_empty Int.reduceToNat Int.reduceAdd Int.reduceSub Int.reduceLT Int.reduceLE Int.reduceEq Int.reduceNe Int.reduceBEq Int.reduceNeg List.forall_mem_cons List.not_mem_nil false_implies List.forall_mem_map implies_true Nat.reduceBNe Int.cast_ofNat_Int Int.reduceMul Int.reduceGE Int.reduceGT wrap_in ty_2 ty_3 ty_4 ty_5 ty_6 ty_7 ty_8 ty_9 ty_10 ty_11 ty_12 ty_13 ty_14 ty_18 ty_19 ty_21 ty_22 ty_23 ty_24 ty_25 ty_26 ty_27 ty_28 ty_29 ty_30 ty_31 ty_32 ty_37 ty_38 ty_41 ty_47 ty_65 ty_66 ty_67 ty_68 ty_77 ty_78 ty_115 ty_116 ty_124 ty_125 ty_126 ty_127 ty_130 ty_131 ty_137 ty_138 ty_144 ty_145 ty_146 ty_147 ty_148 ty_150 ty_151 ty_152 ty_155 ty_156 ty_157 ty_158
set_option maxRecDepth 100000
set_option maxHeartbeats 32000000
theorem cert_at {s : SysD} {goal : List TermD} {x : List FracD} (hs : rightS s = true) (hg : rightT goal s.n = true) (hx : holdsS s x = true) (h : (certD s goal).2 = true) : (certD s goal).1 = ofQ (dotD goal x) := by
 unfold certD at h ⊢
 split at h
 · rename_i hc
   rw [if_pos hc]
   simp only [Bool.and_eq_true, beq_iff_eq] at hc
   obtain ⟨⟨⟨h1, h2⟩, h3⟩, h4⟩ := hc
   have hb : BdOk s goal (bdsD s goal).1 := by
    rcases bds_ok hs hg with ⟨_, h⟩ | ⟨_, _, h⟩
    · rw [h x] at hx; cases hx
    · exact h
   obtain ⟨q, _, e, _, _, hq⟩ := hb.lo h2
   obtain ⟨r, _, e', _, _, hr⟩ := hb.hi h3
   rw [e, e', cmpD_eq] at h4
   have a := hq x hx
   have b := hr x hx
   rw [e, show dotD goal x = q by grind]
 · cases h
theorem cert_more {s : SysD} {goal : List TermD} {x : List FracD} (hg : rightT goal s.n = true) (hM : rightS (addS s ⟨goal, 2, ofQ (dotD goal x)⟩) = true) (hx : holdsS s x = true) : certD (addS s ⟨goal, 2, ofQ (dotD goal x)⟩) goal = (ofQ (dotD goal x), true) := by
 have hw := (add_right hM).2
 have hx2 : holdsS (addS s ⟨goal, 2, ofQ (dotD goal x)⟩) x = true := (holds_add hM x).2 ⟨hx, (holdsW_iff hw x).2 ⟨fun _ => by rw [qOf_ofQ]; exact Rat.le_refl, fun _ => by rw [qOf_ofQ]; exact Rat.le_refl⟩⟩
 have hall : ∀ z, holdsS (addS s ⟨goal, 2, ofQ (dotD goal x)⟩) z = true → dotD goal z = dotD goal x := fun z hz => by
  have := (holdsW_iff hw z).1 ((holds_add hM z).1 hz).2
  rw [qOf_ofQ] at this
  have a := this.1 (show ¬ (2 : Int) = 1 by decide)
  have b := this.2 (show ¬ (2 : Int) = 0 by decide)
  simp only at a b
  grind
 have e := bds_eq hM hg hx2 (bd_mk (l := dotD goal x) (h := dotD goal x) hx2 hx2 rfl rfl fun z hz => by rw [hall z hz]; exact ⟨Rat.le_refl, Rat.le_refl⟩)
 unfold certD
 rw [e]
 have : (cmpD (ofQ (dotD goal x)) (ofQ (dotD goal x)) == 0) = true := by simpa using (cmpD_eq (dotD goal x) (dotD goal x)).2 rfl
 simp only [this]
 rfl
theorem grow_316 : Dic.grow 31 6 = 128341 := rfl
theorem fit_more {s : SysD} {goal : List TermD} {x : List FracD} (h : fewS s 6 6 2 = true) (h5 : s.r.length ≤ 5) (hf : fewT goal 6 2 = true) (hp : fewP x 6 2 = true) (ho : okP x = true) (hg : rightT goal s.n = true) : Fit (addS s ⟨goal, 2, ofQ (dotD goal x)⟩) goal 31 6 := by
 obtain ⟨n6, l6, fr⟩ := few_rows h
 have f1 := fewT_sz hf
 have f2 := fewT_nat 2 (by decide) hf
 have f3 := fewP_nat 2 (by decide) hp
 have hb : ∀ v, szQ (atP x v) ≤ 2 := fun v => by
  unfold atP
  cases h : x[v.toNat]? with
  | none =>
    have h1 : szQ (qOf zF) ≤ 1 := by decide +kernel
    simp only [Option.getD_none]; omega
  | some f =>
    simp only [Option.getD_some]
    rw [szF_ok (List.all_eq_true.1 ho f (mem_at h))]; exact f3 f (mem_at h)
 have h3 := dot_sz _ hb goal (C := 2) fun t ht => ⟨(rightT_mem hg ht).2.2.1, f2 t ht⟩
 rw [← dotD_eq] at h3
 refine ⟨by simp only [addS, List.length_append, List.length_cons, List.length_nil]; omega, fun _ => by simp only [addS]; omega, fun _ => .inl (by simp only [addS]; omega), fun w hw => ?_, ⟨by omega, fun t ht => by have := f2 t ht; omega⟩, by decide, by rw [grow_316]; decide⟩
 simp only [addS, List.mem_append, List.mem_singleton] at hw
 rcases hw with hw | rfl
 · have := fr w hw
   exact ⟨by omega, by omega, fun t ht => by have := this.2.2 t ht; omega⟩
 · refine ⟨by simp only; omega, ?_, fun t ht => by have := f2 t ht; omega⟩
   show szF (ofQ _) ≤ 31
   rw [szQ_ofQ]
   omega
theorem certain11_c (k0 : Contract Try.prog 8 [] (dB true)) (s : SysD) (goal : List TermD) (x : List FracD) : Contract Try.prog 5 [encS s, encTs goal, encFs x] (dB true) := by
 have hres := Try.results5
 have q1 := few11_c s goal
 have q2 := fewP_c x 6 2 (by decide)
 cases h1 : few11 s goal
 · rw [h1] at q1
   refine Contract.ofA (CallA.inline Try.func5 rfl (by kernel_rfl) (by kernel_rfl) (by kernel_rfl) ?_)
   rw [Try.ntmps5]
   exact aGo hres trivial
 rw [h1] at q1
 by_cases h5 : (s.r.length : Int) > 5
 · refine Contract.ofA (CallA.inline Try.func5 rfl (by kernel_rfl) (by kernel_rfl) (by kernel_rfl) ?_)
   rw [Try.ntmps5]
   exact aGo (cj2 hres h5) trivial
 have hl5 : ¬ (s.r.length : Int) > 5 := h5
 simp only [few11, Bool.and_eq_true] at h1
 have F := fit11_of h1.1 h1.2
 have q3 := lrightS_c s F.tn.sm
 have q4 := lright_c goal s.n F.gt.sm
 cases h2 : fewP x 6 2
 · rw [h2] at q2
   refine Contract.ofA (CallA.inline Try.func5 rfl (by kernel_rfl) (by kernel_rfl) (by kernel_rfl) ?_)
   rw [Try.ntmps5]
   exact aGo (cj2 hres hl5) trivial
 rw [h2] at q2
 have sx : smFs x := fewP_sm (by decide) (by decide) h2
 cases h3 : rightS s
 · rw [h3] at q3
   refine Contract.ofA (CallA.inline Try.func5 rfl (by kernel_rfl) (by kernel_rfl) (by kernel_rfl) ?_)
   rw [Try.ntmps5]
   exact aGo (cj2 hres hl5) trivial
 rw [h3] at q3
 cases h4 : rightT goal s.n
 · rw [h4] at q4
   refine Contract.ofA (CallA.inline Try.func5 rfl (by kernel_rfl) (by kernel_rfl) (by kernel_rfl) ?_)
   rw [Try.ntmps5]
   exact aGo (cj2 hres hl5) trivial
 rw [h4] at q4
 have kc := cert11_c s goal F
 have kb := bds11_c s goal F
 have kh := lholds_c s x F.tn.sm sx
 have sg := F.gt.sm
 have kv := lValue_c goal x sg sx
 have zz := fsame_c zF zF
 rw [sameF_self] at zz
 have hat := fun hx => cert_at h3 h4 (x := x) hx
 have hsome : holdsS s x = true → valueD goal x = (ofQ (dotD goal x), true) ∧ Contract Try.prog 19 [encS (addS s ⟨goal, 2, ofQ (dotD goal x)⟩), encTs goal] (.tup [encF (ofQ (dotD goal x)), dB true]) := fun hx => by
  have hx' := holdsS_iff.1 hx
  have FM := fit_more h1.1 (by omega) h1.2 h2 hx'.2.2.1 h4
  have hM : rightS (addS s ⟨goal, 2, ofQ (dotD goal x)⟩) = true := by
   have := h3
   simp only [rightS, addS, Bool.and_eq_true, decide_eq_true_eq, List.all_append, List.all_cons, List.all_nil, Bool.and_true, List.length_append, List.length_cons, List.length_nil] at this ⊢
   refine ⟨⟨⟨this.1.1.1, this.1.1.2⟩, by omega⟩, this.2, ?_⟩
   simp only [rightW, Bool.and_eq_true, decide_eq_true_eq]
   exact ⟨⟨⟨h4, show (0 : Int) ≤ 2 by decide⟩, show (2 : Int) < 3 by decide⟩, okF_ofQ _⟩
  have := cert11_c _ goal FM
  rw [cert_more h4 hM hx] at this
  exact ⟨valueD_yes (by rw [hx'.2.1, h4, hx'.2.2.1]; rfl), this⟩
 have hbd := bds_ok h3 h4
 have hcd : certD s goal = if (bdsD s goal).2 && (bdsD s goal).1.lo && (bdsD s goal).1.hi && cmpD (bdsD s goal).1.l (bdsD s goal).1.h == 0 then ((bdsD s goal).1.l, true) else (zF, false) := rfl
 have hsame : (bdsD s goal).2 = true → (bdsD s goal).1.lo = true → (bdsD s goal).1.hi = true → (cmpD (bdsD s goal).1.l (bdsD s goal).1.h == 0) = sameF (bdsD s goal).1.l (bdsD s goal).1.h := fun a1 a2 a3 => by
  rcases hbd with ⟨h, _⟩ | ⟨_, _, hb⟩
  · rw [a1] at h; cases h
  · obtain ⟨q, _, e, _⟩ := hb.lo a2
    obtain ⟨r, _, e', _⟩ := hb.hi a3
    rw [e, e', Bool.eq_iff_iff, sameF_iff, beq_iff_eq, cmpD_eq]
    exact ⟨fun h => by rw [h], fun h => ofQ_inj h⟩
 have sh := fsame_c (bdsD s goal).1.l (bdsD s goal).1.h
 have sl := fsame_c (bdsD s goal).1.l (bdsD s goal).1.l
 rw [sameF_self] at sl
 clear hbd
 generalize hC : certD s goal = C at *
 clear hC
 generalize bdsD s goal = G at *
 generalize valueD goal x = VX at *
 generalize dotD goal x = α at *
 obtain ⟨cv, cs⟩ := C
 obtain ⟨vv, vo⟩ := VX
 obtain ⟨⟨l, h, lo, hi⟩, ok⟩ := G
 simp only at *
 have y5 : ((s.r.length : Nat) : Int) * 48 ≤ 140737488355328 := by omega
 have y6 : ((s.r.length + 1 : Nat) : Int) * 48 ≤ 140737488355328 := by omega
 have y8 := datJ_moreS s.r ⟨goal, 2, ofQ α⟩
 refine Contract.ofA (CallA.inline Try.func5 rfl (by kernel_rfl) (by kernel_rfl) (by kernel_rfl) ?_)
 rw [Try.ntmps5]
 repeat ((fail_if_success (with_reducible refine at_region 6 ?_)); first
     | (refine hK _ ?_; clear hK; clear K)
     | (refine aSeq fun K hK => ?_)
     | (refine aBlock ?_)
     | (refine aSkip ?_)
     | (refine aExit ?_)
     | (refine aRet ?_)
     | (refine aOps _ rfl (by kernel_rfl) ?_)
     | (refine aRunK _ rfl mixed (by kernel_rfl) (by kernel_rfl) fun KE hE => ?_)
     | (refine hE _ _ (by kernel_rfl) (intsOk_no rfl) ?_; clear hE; clear KE)
     | (refine hE _ _ (by kernel_rfl) (intsOk_yes ?hi ?hj) ?_; (case hi => (repeat (refine intsDead_updB rfl ?_)); exact intsDead_nil); (case hj => simp); clear hE; clear KE)
     | (refine aCondT rfl ?hc ?_; case hc => simp only [go_sem, ↓reduceIte, hres, hl5])
     | (refine aCondF rfl ?hc ?_; case hc => simp only [go_sem, ↓reduceIte, hres, hl5])
     | (refine callT_of (k0) ?_ ?_; rotate_left; (repeat (refine intsDead_updB rfl ?_)); exact intsDead_nil)
     | (refine callT_ofN (k0) ?_)
     | (refine callU_of (k0) rfl ?_)
     | (refine callU_ofN (k0) rfl ?_)
     | (refine callT_of (q1) ?_ ?_; rotate_left; (repeat (refine intsDead_updB rfl ?_)); exact intsDead_nil)
     | (refine callT_ofN (q1) ?_)
     | (refine callU_of (q1) rfl ?_)
     | (refine callU_ofN (q1) rfl ?_)
     | (refine callT_of (q2) ?_ ?_; rotate_left; (repeat (refine intsDead_updB rfl ?_)); exact intsDead_nil)
     | (refine callT_ofN (q2) ?_)
     | (refine callU_of (q2) rfl ?_)
     | (refine callU_ofN (q2) rfl ?_)
     | (refine callT_of (q3) ?_ ?_; rotate_left; (repeat (refine intsDead_updB rfl ?_)); exact intsDead_nil)
     | (refine callT_ofN (q3) ?_)
     | (refine callU_of (q3) rfl ?_)
     | (refine callU_ofN (q3) rfl ?_)
     | (refine callT_of (q4) ?_ ?_; rotate_left; (repeat (refine intsDead_updB rfl ?_)); exact intsDead_nil)
     | (refine callT_ofN (q4) ?_)
     | (refine callU_of (q4) rfl ?_)
     | (refine callU_ofN (q4) rfl ?_)
     | (refine callT_of (kc) ?_ ?_; rotate_left; (repeat (refine intsDead_updB rfl ?_)); exact intsDead_nil)
     | (refine callT_ofN (kc) ?_)
     | (refine callU_of (kc) rfl ?_)
     | (refine callU_ofN (kc) rfl ?_)
     | (refine callT_of (kb) ?_ ?_; rotate_left; (repeat (refine intsDead_updB rfl ?_)); exact intsDead_nil)
     | (refine callT_ofN (kb) ?_)
     | (refine callU_of (kb) rfl ?_)
     | (refine callU_ofN (kb) rfl ?_)
     | (simp only [go_sem, ↓reduceIte, hres, hl5])
     | (refine And.intro ?ho ?_; (case ho => omega))
     | (clear hK; clear K))
 have r1 : True → ∀ st, StLe st ⟨tabT [(1, encTs goal), (2, encFs x), (3, .lp 0 0 0 0), (7, dB true), (8, .lp 1 0 0 0), (9, dB cs), (95, dB false)], tabM [(0, sB0 s), (1, ⟨30, 0, 4, [cF cv], 0, false⟩)], 3, 0⟩ → K st := by
  intro _ st hle
  refine hK _ (aLe hle ?_)
  clear hle hK
  cases hx : holdsS s x
  · rw [hx] at kh
    exact aGo hres trivial
  · rw [hx] at kh
    obtain ⟨ev, km⟩ := hsome hx
    obtain ⟨rfl, rfl⟩ := Prod.mk.inj ev
    have sa := fsame_c (ofQ α) (ofQ α)
    rw [sameF_self] at sa
    cases cs
    · exact aGo (cj4 hres y5 y6 y8) trivial
    · obtain rfl := hat hx rfl
      exact aGo (cj4 hres y5 y6 y8) trivial
 clear hK hat
 cases ok
 · obtain ⟨rfl, rfl⟩ := Prod.mk.inj hcd
   refine aGo hres ?_
   repeat (guard_target =~ ∀ _ : St → Prop, _; intro K hK)
   exact r1 trivial _ (by exact leGo trivial)
 cases lo
 · obtain ⟨rfl, rfl⟩ := Prod.mk.inj hcd
   refine aGo hres ?_
   repeat (guard_target =~ ∀ _ : St → Prop, _; intro K hK)
   exact r1 trivial _ (by exact leGo trivial)
 cases hi
 · obtain ⟨rfl, rfl⟩ := Prod.mk.inj hcd
   refine aGo hres ?_
   repeat (guard_target =~ ∀ _ : St → Prop, _; intro K hK)
   exact r1 trivial _ (by exact leGo trivial)
 rw [hsame (by trivial) (by trivial) (by trivial)] at hcd
 cases hs : sameF l h
 · rw [hs] at hcd sh
   obtain ⟨rfl, rfl⟩ := Prod.mk.inj hcd
   refine aGo hres ?_
   repeat (guard_target =~ ∀ _ : St → Prop, _; intro K hK)
   exact r1 trivial _ (by exact leGo trivial)
 · rw [hs] at hcd sh
   obtain ⟨rfl, rfl⟩ := Prod.mk.inj hcd
   refine aGo hres ?_
   repeat (guard_target =~ ∀ _ : St → Prop, _; intro K hK)
   exact r1 trivial _ (by exact leGo trivial)
end Go.Proofs.Ytkddoopknapemaa
