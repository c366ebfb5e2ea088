/-
  Layer 11: the law SpanImplied.
-/
import Derived.Test.YtkddoopknapemaaPSpA
namespace Go.Proofs.Ytkddoopknapemaa
set_option linter.unusedVariables false
set_option linter.unusedSimpArgs false
set_option linter.unusedSectionVars false
open Go Go.RowKit
attribute [local go_sem] opsL_nil opsL_go opsL_guard gSel_tt gSel_ff gSel_tf gSel_ft stepR_some stepR_none callS_some callE_some runL_nil runL_go runL_guard gSelE_tt gSelE_ff gSelE_tf gSelE_ft stepE_some stepE_none opF callD rd constD putT upd_get guardL gOf_bool gOf_undef fieldAddrF fieldF loadF storeF indexAddrF indexF sliceF strSliceF bound buildF fillF buildSliceF elemsF allocF makeSliceF lenF elemsOf appendF minmaxF convertF boxF ldE blkAt spliceE D.cells? D.isCell Res.pure ov TyI.agg binD unD boolD initT thenA inBlockA argD argDs refsD refsL killW datJ datJs endA_ret endA_normal endR_some oneD_one oneD_two oneD_three oneD_four resDs resD fzT Value.oneCell' strip tabT tabM
attribute [local go_sem] List.map Nat.reduceEqDiff Nat.reduceBEq List.getElem?_cons_zero List.getElem?_cons_succ List.getElem?_nil Option.getD_some Option.getD_none true_and and_true true_or or_true false_or or_false and_self Nat.add_zero Nat.zero_add List.length_nil List.length_cons forall_const ite_true ite_false Bool.or_self Bool.false_eq_true Option.map_some Option.map_none beq_self_eq_true Nat.reduceAdd Nat.reduceSub Nat.reduceMul reduceCtorEq List.getElem?_toArray Bool.not_true Bool.not_false decide_eq_true_eq decide_true decide_false Nat.reduceLeDiff Nat.reduceLT Bool.or_false Bool.or_true Bool.and_true Bool.and_false Bool.false_and Bool.true_and Bool.true_beq Bool.false_beq beq_true beq_false Bool.not_eq_true List.drop_succ_cons List.take_succ_cons List.drop_zero List.take_zero List.length_map List.getElem?_map List.length_append List.all_cons List.all_nil List.append_nil List.nil_append List.cons_append List.set_cons_zero List.set_cons_succ Int.toNat_natCast Int.toNat_zero Option.isSome_some Option.isSome_none Array.size_empty ByteArray.size_empty Int.reduceToNat Int.reduceAdd Int.reduceSub Int.reduceLT Int.reduceLE Int.reduceEq Int.reduceNe Int.reduceBEq Int.reduceNeg List.forall_mem_cons List.not_mem_nil false_implies List.forall_mem_map implies_true Nat.reduceBNe Int.cast_ofNat_Int Int.reduceMul Int.reduceGE Int.reduceGT wrap_in ty_2 ty_3 ty_4 ty_5 ty_6 ty_7 ty_8 ty_9 ty_10 ty_11 ty_12 ty_13 ty_14 ty_18 ty_19 ty_21 ty_22 ty_23 ty_24 ty_25 ty_26 ty_27 ty_28 ty_29 ty_30 ty_31 ty_32 ty_37 ty_38 ty_41 ty_47 ty_65 ty_66 ty_67 ty_68 ty_77 ty_78 ty_115 ty_116 ty_124 ty_125 ty_126 ty_127 ty_130 ty_131 ty_137 ty_138 ty_144 ty_145 ty_146 ty_147 ty_148 ty_150 ty_151 ty_152 ty_155 ty_156 ty_157 ty_158
set_option maxRecDepth 100000
set_option maxHeartbeats 32000000
abbrev bB (b : BdD) : Blk := ⟨38, 0, 10, [cBd b], 0, false⟩
abbrev sB0 (s : SysD) : Blk := ⟨24, 0, 2, [cS s], 0, false⟩
abbrev wB0 (w : RowD) : Blk := ⟨32, 0, 6, [cW w], 0, false⟩
theorem one_right {n : Int} {w : RowD} (h : rightS ⟨n, [w]⟩ = true) : rightW n w = true := by
 simp only [rightS, Bool.and_eq_true, List.all_cons, List.all_nil, Bool.and_true] at h; exact h.2
theorem one_holds {n : Int} {w : RowD} {x : List FracD} (h : rightS ⟨n, [w]⟩ = true) (hl : (x.length : Int) = n) (ho : okP x = true) (hn : nonneg x = true) (hw : holdsW w x = true) : holdsS ⟨n, [w]⟩ x = true :=
 holdsS_iff.2 ⟨h, hl, ho, hn, by simp only [List.all_cons, List.all_nil, hw]; rfl⟩
theorem implied11_c (k0 : Contract Try.prog 8 [] (dB true)) (s : SysD) (w : RowD) (x : List FracD) (n : Int) (hn : 0 ≤ n ∧ n ≤ 255) : Contract Try.prog 4 [encS s, encW w, encFs x, .v (.int .u8 n)] (dB true) := by
 have hres := Try.results4
 have q1 := few11_c s w.t
 have q2 := (rfew_c w.v 2).toN rfl
 rw [show (decide ((w.v.p.d.length : Int) ≤ 2) && decide ((w.v.q.d.length : Int) ≤ 2)) = fewF 2 w.v from rfl] at q2
 have q3 := fewP_c x 6 2 (by decide)
 cases h1 : few11 s w.t
 · rw [h1] at q1
   refine Contract.ofA (CallA.inline Try.func4 rfl (by kernel_rfl) (by kernel_rfl) (by kernel_rfl) ?_)
   rw [Try.ntmps4]
   exact aGo hres trivial
 rw [h1] at q1
 simp only [few11, Bool.and_eq_true] at h1
 have sg : smT w.t := fewT_sm (by decide) (by decide) h1.2
 have F := fit11_of h1.1 h1.2
 have q4 := lrightS_c s F.tn.sm
 cases h2 : fewF 2 w.v
 · rw [h2] at q2
   refine Contract.ofA (CallA.inline Try.func4 rfl (by kernel_rfl) (by kernel_rfl) (by kernel_rfl) ?_)
   rw [Try.ntmps4]
   exact aGo hres trivial
 rw [h2] at q2
 have zv : szF w.v ≤ 2 := by have := fewF_sz h2; omega
 have sw : smS ⟨s.n, [w]⟩ := ⟨by simp, fun u hu => by rw [List.mem_singleton.1 hu]; exact ⟨sg, by unfold smF; omega⟩⟩
 have q5 := lrightS_c ⟨s.n, [w]⟩ sw
 cases h3 : fewP x 6 2
 · rw [h3] at q3
   refine Contract.ofA (CallA.inline Try.func4 rfl (by kernel_rfl) (by kernel_rfl) (by kernel_rfl) ?_)
   rw [Try.ntmps4]
   exact aGo hres trivial
 rw [h3] at q3
 have sx : smFs x := fewP_sm (by decide) (by decide) h3
 cases h4 : rightS s
 · rw [h4] at q4
   refine Contract.ofA (CallA.inline Try.func4 rfl (by kernel_rfl) (by kernel_rfl) (by kernel_rfl) ?_)
   rw [Try.ntmps4]
   exact aGo hres trivial
 rw [h4] at q4
 cases h5 : rightS ⟨s.n, [w]⟩
 · rw [h5] at q5
   refine Contract.ofA (CallA.inline Try.func4 rfl (by kernel_rfl) (by kernel_rfl) (by kernel_rfl) ?_)
   rw [Try.ntmps4]
   exact aGo hres trivial
 rw [h5] at q5
 have hw := one_right h5
 have ht : rightT w.t s.n = true := by simp only [rightW, Bool.and_eq_true] at hw; exact hw.1.1.1
 have hi := impl11_c s w F (by omega) h4 hw
 have hb := bds11_c s w.t F
 obtain ⟨y1, y2⟩ := bds_sz F
 have c1 := fcompare_c (bdsD s w.t).1.l w.v (by omega) (by omega)
 have c2 := fcompare_c (bdsD s w.t).1.h w.v (by omega) (by omega)
 have kh := lholds_c s x F.tn.sm sx
 have kw := lholds_c ⟨s.n, [w]⟩ x sw sx
 have eis : impB s w = (!(bdsD s w.t).2 || (((bdsD s w.t).1.lo && decide (0 ≤ cmpD (bdsD s w.t).1.l w.v)) || (w.k == 1)) && (((bdsD s w.t).1.hi && decide (cmpD (bdsD s w.t).1.h w.v ≤ 0)) || (w.k == 0))) := by
  unfold impB
  rw [Bool.or_comm (decide (w.k = 1)), Bool.or_comm (decide (w.k = 0)), show (w.k == 1) = decide (w.k = 1) from rfl, show (w.k == 0) = decide (w.k = 0) from rfl]
  cases (bdsD s w.t).2
  · rfl
  · rfl
 have eok : (bdsD s w.t).2 = false → holdsS s x = false := fun h => by
  rcases bds_ok h4 ht with ⟨_, h2⟩ | ⟨h2, _⟩
  · exact h2 x
  · rw [h] at h2; cases h2
 have ewh : impB s w = true → holdsS s x = true → holdsS ⟨s.n, [w]⟩ x = true := fun h1 h2 => by
  obtain ⟨_, a, b, c, _⟩ := holdsS_iff.1 h2
  exact one_holds h5 a b c ((imp_iff h4 hw).1 h1 x h2)
 have hrow : ∀ u ∈ s.r, Contract Try.prog 13 [encS s, encW u] (.tup [dB true, dI 0]) := fun u hu => by
  have hru := rightS_mem h4 hu
  have fu := (few_rows h1.1).2.2 u hu
  have := impl11_c s u (fit11 h1.1 ⟨by omega, fu.2.2⟩) (by omega) h4 hru
  rwa [(imp_iff h4 hru).2 fun z hz => List.all_eq_true.1 (holdsS_iff.1 hz).2.2.2.2 u hu] at this
 have l6 := (few_rows h1.1).2.1
 generalize impB s w = IS at *
 generalize hg : bdsD s w.t = G at *
 obtain ⟨⟨l, h, lo, hi'⟩, ok⟩ := G
 simp only at *
 obtain ⟨wt, wk, wv⟩ := w
 simp only at *
 have e00 : ((0 : Int) != 0) = false := rfl
 have rows : ∀ {P : Prop}, ((s.r.length : Int) = 0 → P) → (¬ (s.r.length : Int) = 0 → 0 ≤ n.tmod s.r.length → n.tmod s.r.length < s.r.length → ∀ u, s.r[(n.tmod s.r.length).toNat]? = some u → Contract Try.prog 13 [encS s, encW u] (.tup [dB true, dI 0]) → P) → P := fun h1 h2 => by
  by_cases hz : (s.r.length : Int) = 0
  · exact h1 hz
  · have a1 : 0 ≤ n.tmod s.r.length := Int.tmod_nonneg _ hn.1
    have a2 : n.tmod s.r.length < s.r.length := Int.tmod_lt_of_pos _ (by omega)
    obtain ⟨u, hu⟩ : ∃ e, s.r[(n.tmod s.r.length).toNat]? = some e := ⟨_, List.getElem?_eq_getElem (by omega)⟩
    exact h2 hz a1 a2 u hu (hrow u (mem_at hu))
 have wn : IntKind.i64.wrap n = n := wrap_in (by omega) (by omega)
 refine Contract.ofA (CallA.inline Try.func4 rfl (by kernel_rfl) (by kernel_rfl) (by kernel_rfl) ?_)
 rw [Try.ntmps4]
 repeat ((fail_if_success (with_reducible refine at_region 6 ?_)); first
     | (refine hK _ ?_; clear hK; clear K)
     | (refine aSeq fun K hK => ?_)
     | (refine aBlock ?_)
     | (refine aSkip ?_)
     | (refine aExit ?_)
     | (refine aRet ?_)
     | (refine aOps _ rfl (by kernel_rfl) ?_)
     | (refine aRunK _ rfl mixed (by kernel_rfl) (by kernel_rfl) fun KE hE => ?_)
     | (refine hE _ _ (by kernel_rfl) (intsOk_no rfl) ?_; clear hE; clear KE)
     | (refine hE _ _ (by kernel_rfl) (intsOk_yes ?hi ?hj) ?_; (case hi => (repeat (refine intsDead_updB rfl ?_)); exact intsDead_nil); (case hj => simp); clear hE; clear KE)
     | (refine aCondT rfl ?hc ?_; case hc => simp only [go_sem, ↓reduceIte, hres])
     | (refine aCondF rfl ?hc ?_; case hc => simp only [go_sem, ↓reduceIte, hres])
     | (refine callT_of (k0) ?_ ?_; rotate_left; (repeat (refine intsDead_updB rfl ?_)); exact intsDead_nil)
     | (refine callT_ofN (k0) ?_)
     | (refine callU_of (k0) rfl ?_)
     | (refine callU_ofN (k0) rfl ?_)
     | (refine callT_of (q1) ?_ ?_; rotate_left; (repeat (refine intsDead_updB rfl ?_)); exact intsDead_nil)
     | (refine callT_ofN (q1) ?_)
     | (refine callU_of (q1) rfl ?_)
     | (refine callU_ofN (q1) rfl ?_)
     | (refine callT_of (q2) ?_ ?_; rotate_left; (repeat (refine intsDead_updB rfl ?_)); exact intsDead_nil)
     | (refine callT_ofN (q2) ?_)
     | (refine callU_of (q2) rfl ?_)
     | (refine callU_ofN (q2) rfl ?_)
     | (refine callT_of (q3) ?_ ?_; rotate_left; (repeat (refine intsDead_updB rfl ?_)); exact intsDead_nil)
     | (refine callT_ofN (q3) ?_)
     | (refine callU_of (q3) rfl ?_)
     | (refine callU_ofN (q3) rfl ?_)
     | (refine callT_of (q4) ?_ ?_; rotate_left; (repeat (refine intsDead_updB rfl ?_)); exact intsDead_nil)
     | (refine callT_ofN (q4) ?_)
     | (refine callU_of (q4) rfl ?_)
     | (refine callU_ofN (q4) rfl ?_)
     | (refine callT_of (q5) ?_ ?_; rotate_left; (repeat (refine intsDead_updB rfl ?_)); exact intsDead_nil)
     | (refine callT_ofN (q5) ?_)
     | (refine callU_of (q5) rfl ?_)
     | (refine callU_ofN (q5) rfl ?_)
     | (refine callT_of (hi) ?_ ?_; rotate_left; (repeat (refine intsDead_updB rfl ?_)); exact intsDead_nil)
     | (refine callT_ofN (hi) ?_)
     | (refine callU_of (hi) rfl ?_)
     | (refine callU_ofN (hi) rfl ?_)
     | (refine callT_of (hb) ?_ ?_; rotate_left; (repeat (refine intsDead_updB rfl ?_)); exact intsDead_nil)
     | (refine callT_ofN (hb) ?_)
     | (refine callU_of (hb) rfl ?_)
     | (refine callU_ofN (hb) rfl ?_)
     | (simp only [go_sem, ↓reduceIte, hres])
     | (refine And.intro ?ho ?_; (case ho => omega))
     | (clear hK; clear K))
 have r1 : ∀ low : Bool, low = ((lo && decide (0 ≤ cmpD l wv)) || (wk == 1)) → ∀ st, StLe st ⟨tabT [(2, encFs x), (3, .v (.int .u8 n)), (4, .lp 0 0 0 0), (5, .lp 1 0 0 0), (9, dB true), (10, dB IS), (11, dI 0), (12, .lp 3 0 0 0), (13, dB ok), (14, dB low)], tabM [(0, sB0 s), (1, wB0 ⟨wt, wk, wv⟩), (3, bB ⟨l, h, lo, hi'⟩)], 4, 0⟩ → K st := by
  intro low elow st hle
  refine hK _ (aLe hle ?_)
  clear hle
  repeat ((fail_if_success (with_reducible refine at_region 7 ?_)); first
   | (refine hK _ ?_; clear hK; clear K)
   | (refine aSeq fun K hK => ?_)
   | (refine aBlock ?_)
   | (refine aSkip ?_)
   | (refine aExit ?_)
   | (refine aRet ?_)
   | (refine aOps _ rfl (by kernel_rfl) ?_)
   | (refine aRunK _ rfl mixed (by kernel_rfl) (by kernel_rfl) fun KE hE => ?_)
   | (refine hE _ _ (by kernel_rfl) (intsOk_no rfl) ?_; clear hE; clear KE)
   | (refine hE _ _ (by kernel_rfl) (intsOk_yes ?hi ?hj) ?_; (case hi => (repeat (refine intsDead_updB rfl ?_)); exact intsDead_nil); (case hj => simp); clear hE; clear KE)
   | (refine aCondT rfl ?hc ?_; case hc => simp only [go_sem, ↓reduceIte, hres])
   | (refine aCondF rfl ?hc ?_; case hc => simp only [go_sem, ↓reduceIte, hres])
   | (simp only [go_sem, ↓reduceIte, hres])
   | (refine And.intro ?ho ?_; (case ho => omega))
   | (clear hK; clear K))
  have r2 : ∀ high : Bool, high = ((hi' && decide (cmpD h wv ≤ 0)) || (wk == 0)) → ∀ st, StLe st ⟨tabT [(2, encFs x), (3, .v (.int .u8 n)), (4, .lp 0 0 0 0), (5, .lp 1 0 0 0), (9, dB true), (10, dB IS), (11, dI 0), (12, .lp 3 0 0 0), (13, dB ok), (14, dB low), (15, dB high)], tabM [(0, sB0 s), (1, wB0 ⟨wt, wk, wv⟩), (3, bB ⟨l, h, lo, hi'⟩)], 4, 0⟩ → K st := by
   intro high ehigh st hle
   refine hK _ (aLe hle ?_)
   clear hle hK
   rw [← elow, ← ehigh] at eis
   cases ok
   · rw [eok rfl] at kh
     obtain rfl : IS = true := by rw [eis]; rfl
     refine rows (fun hz => ?_) (fun hz j0 j1 u hu ku => ?_)
     · have hz1 : ((s.r.length : Int) == 0) = true := by simpa using hz
       exact aGo (cj3 hres e00 hz1) trivial
     · have hz1 : ((s.r.length : Int) == 0) = false := by simpa using hz
       exact aGo (cj4 hres e00 hz1 (cj4 hz wn j0 (cj2 j1 hu))) trivial
   · cases low
     · obtain rfl : IS = false := by rw [eis]; rfl
       refine rows (fun hz => ?_) (fun hz j0 j1 u hu ku => ?_)
       · have hz1 : ((s.r.length : Int) == 0) = true := by simpa using hz
         exact aGo (cj3 hres e00 hz1) trivial
       · have hz1 : ((s.r.length : Int) == 0) = false := by simpa using hz
         exact aGo (cj4 hres e00 hz1 (cj4 hz wn j0 (cj2 j1 hu))) trivial
     · cases high
       · obtain rfl : IS = false := by rw [eis]; rfl
         refine rows (fun hz => ?_) (fun hz j0 j1 u hu ku => ?_)
         · have hz1 : ((s.r.length : Int) == 0) = true := by simpa using hz
           exact aGo (cj3 hres e00 hz1) trivial
         · have hz1 : ((s.r.length : Int) == 0) = false := by simpa using hz
           exact aGo (cj4 hres e00 hz1 (cj4 hz wn j0 (cj2 j1 hu))) trivial
       · obtain rfl : IS = true := by rw [eis]; rfl
         cases hx : holdsS s x
         · rw [hx] at kh
           refine rows (fun hz => ?_) (fun hz j0 j1 u hu ku => ?_)
           · have hz1 : ((s.r.length : Int) == 0) = true := by simpa using hz
             exact aGo (cj3 hres e00 hz1) trivial
           · have hz1 : ((s.r.length : Int) == 0) = false := by simpa using hz
             exact aGo (cj4 hres e00 hz1 (cj4 hz wn j0 (cj2 j1 hu))) trivial
         · rw [hx] at kh
           rw [ewh rfl hx] at kw
           refine rows (fun hz => ?_) (fun hz j0 j1 u hu ku => ?_)
           · have hz1 : ((s.r.length : Int) == 0) = true := by simpa using hz
             exact aGo (cj3 hres e00 hz1) trivial
           · have hz1 : ((s.r.length : Int) == 0) = false := by simpa using hz
             exact aGo (cj4 hres e00 hz1 (cj4 hz wn j0 (cj2 j1 hu))) trivial
  clear hK
  cases hi'
  · refine aGo hres ?_
    repeat (guard_target =~ ∀ _ : St → Prop, _; intro K hK)
    exact r2 (wk == 0) (by simp) _ (by exact leGo trivial)
  · by_cases hc : cmpD h wv ≤ 0
    · refine aGo (cj2 hres hc) ?_
      repeat (guard_target =~ ∀ _ : St → Prop, _; intro K hK)
      exact r2 true (by simp [hc]) _ (by exact leGo trivial)
    · refine aGo (cj2 hres hc) ?_
      repeat (guard_target =~ ∀ _ : St → Prop, _; intro K hK)
      exact r2 (wk == 0) (by simp [hc]) _ (by exact leGo trivial)
 clear hK
 cases lo
 · refine aGo hres ?_
   repeat (guard_target =~ ∀ _ : St → Prop, _; intro K hK)
   exact r1 (wk == 1) (by simp) _ (by exact leGo trivial)
 · by_cases hc : cmpD l wv ≥ 0
   · refine aGo (cj2 hres hc) ?_
     repeat (guard_target =~ ∀ _ : St → Prop, _; intro K hK)
     exact r1 true (by simp; omega) _ (by exact leGo trivial)
   · refine aGo (cj2 hres hc) ?_
     repeat (guard_target =~ ∀ _ : St → Prop, _; intro K hK)
     exact r1 (wk == 1) (by simp; omega) _ (by exact leGo trivial)
end Go.Proofs.Ytkddoopknapemaa
