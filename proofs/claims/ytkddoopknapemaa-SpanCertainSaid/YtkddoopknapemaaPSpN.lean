/-
  Layer 11, plain: a further row.
-/
import Derived.Test.YtkddoopknapemaaPSpA
import Derived.Test.YtkddoopknapemaaPSpI
namespace Go.Proofs.Ytkddoopknapemaa
set_option linter.unusedVariables false
set_option linter.unusedSimpArgs false
set_option linter.unusedSectionVars false
open Go Go.RowKit
set_option maxRecDepth 100000
abbrev addS (s : SysD) (w : RowD) : SysD := ⟨s.n, s.r ++ [w]⟩
theorem add_right {s : SysD} {w : RowD} (h : rightS (addS s w) = true) : rightS s = true ∧ rightW s.n w = true := by
 simp only [rightS, addS, Bool.and_eq_true, decide_eq_true_eq, List.all_append, List.all_cons, List.all_nil, Bool.and_true, List.length_append, List.length_cons, List.length_nil] at h ⊢
 obtain ⟨⟨⟨a, b⟩, c⟩, d, e⟩ := h
 exact ⟨⟨⟨⟨a, b⟩, by omega⟩, d⟩, e⟩
theorem holds_add {s : SysD} {w : RowD} (h : rightS (addS s w) = true) (x : List FracD) : holdsS (addS s w) x = true ↔ holdsS s x = true ∧ holdsW w x = true := by
 rw [holdsS_iff, holdsS_iff]
 simp only [addS, List.all_append, List.all_cons, List.all_nil, Bool.and_true, Bool.and_eq_true]
 constructor
 · rintro ⟨_, b, c, d, e, f⟩; exact ⟨⟨(add_right h).1, b, c, d, e⟩, f⟩
 · rintro ⟨⟨_, b, c, d, e⟩, f⟩; exact ⟨h, b, c, d, e, f⟩
theorem cmpD_gt (a b : Rat) : cmpD (ofQ a) (ofQ b) > 0 ↔ b < a := by
 rw [cmpD_ofQ]
 rcases sgQ_cases (a - b) with ⟨h, e⟩ | ⟨h, e⟩ | ⟨h, e⟩ <;> rw [e] <;> constructor <;> intro h1 <;> grind
theorem cmpD_lt (a b : Rat) : cmpD (ofQ a) (ofQ b) < 0 ↔ a < b := by
 rw [cmpD_ofQ]
 rcases sgQ_cases (a - b) with ⟨h, e⟩ | ⟨h, e⟩ | ⟨h, e⟩ <;> rw [e] <;> constructor <;> intro h1 <;> grind
section
variable {s : SysD} {w : RowD} {goal : List TermD} (hM : rightS (addS s w) = true) (hg : rightT goal s.n = true)
include hM hg
theorem nar_none (h : (bdsD s goal).2 = false) : (bdsD (addS s w) goal).2 = false ∧ impB s w = true := by
 have hs := (add_right hM).1
 have hw := (add_right hM).2
 have no : ∀ x, holdsS s x = false := by
  rcases bds_ok hs hg with ⟨_, h1⟩ | ⟨h1, _⟩
  · exact h1
  · rw [h] at h1; cases h1
 refine ⟨?_, (imp_iff hs hw).2 fun x hx => absurd hx (by rw [no x]; decide)⟩
 rcases bds_ok hM hg with ⟨h1, _⟩ | ⟨_, ⟨x, hx⟩, _⟩
 · exact h1
 · have := ((holds_add hM x).1 hx).1; rw [no x] at this; cases this
variable (hok : (bdsD s goal).2 = true)
include hok
omit hM in
theorem nar_sol (hs : rightS s = true) : ∃ x, holdsS s x = true := by
 rcases bds_ok hs hg with ⟨h1, _⟩ | ⟨_, h1, _⟩
 · rw [hok] at h1; cases h1
 · exact h1
theorem nar_has : (bdsD s w.t).2 = true ∧ BdOk s w.t (bdsD s w.t).1 := by
 have hs := (add_right hM).1
 have hw := (add_right hM).2
 obtain ⟨x, hx⟩ := nar_sol hg hok hs
 simp only [rightW, Bool.and_eq_true] at hw
 rcases bds_ok hs hw.1.1.1 with ⟨_, h1⟩ | ⟨h1, _, h2⟩
 · rw [h1 x] at hx; cases hx
 · exact ⟨h1, h2⟩
theorem nar_is : (bdsD (addS s w) goal).2 = !((((bdsD s w.t).1.lo && decide (cmpD (bdsD s w.t).1.l w.v > 0)) && (w.k != 0)) || (((bdsD s w.t).1.hi && decide (cmpD (bdsD s w.t).1.h w.v < 0)) && (w.k != 1))) := by
 have hs := (add_right hM).1
 have hw := (add_right hM).2
 obtain ⟨x0, hx0⟩ := nar_sol hg hok hs
 obtain ⟨_, hb⟩ := nar_has hM hg hok
 generalize (bdsD s w.t).1 = b at *
 have hw' := hw
 simp only [rightW, Bool.and_eq_true, decide_eq_true_eq] at hw'
 obtain ⟨v, hv⟩ : ∃ v, w.v = ofQ v := ⟨qOf w.v, okF_eq hw'.2⟩
 have key : (∃ x, holdsS (addS s w) x = true) ↔ ¬ ((b.lo = true ∧ cmpD b.l w.v > 0) ∧ w.k ≠ 0 ∨ (b.hi = true ∧ cmpD b.h w.v < 0) ∧ w.k ≠ 1) := by
  constructor
  · rintro ⟨x, hx⟩ h
    obtain ⟨h1, h2⟩ := (holds_add hM x).1 hx
    rw [holdsW_iff hw, hv, qOf_ofQ] at h2
    rw [hv] at h
    rcases h with ⟨⟨h3, h4⟩, h5⟩ | ⟨⟨h3, h4⟩, h5⟩
    · obtain ⟨q, _, e, _, _, hz⟩ := hb.lo h3
      rw [e, cmpD_gt] at h4
      have := hz x h1; have := h2.2 h5; grind
    · obtain ⟨q, _, e, _, _, hz⟩ := hb.hi h3
      rw [e, cmpD_lt] at h4
      have := hz x h1; have := h2.1 h5; grind
  · intro h
    rw [hv] at h
    have low : w.k ≠ 0 → ∃ x, holdsS s x = true ∧ dotD w.t x ≤ v := fun hk => by
     cases hlo : b.lo
     · exact (hb.nl hlo).2 v
     · obtain ⟨q, x, e, x1, x2, _⟩ := hb.lo hlo
       refine ⟨x, x1, ?_⟩
       have : ¬ cmpD b.l (ofQ v) > 0 := fun h' => h (.inl ⟨⟨hlo, h'⟩, hk⟩)
       rw [e, cmpD_gt] at this; grind
    have high : w.k ≠ 1 → ∃ x, holdsS s x = true ∧ v ≤ dotD w.t x := fun hk => by
     cases hhi : b.hi
     · exact (hb.nh hhi).2 v
     · obtain ⟨q, x, e, x1, x2, _⟩ := hb.hi hhi
       refine ⟨x, x1, ?_⟩
       have : ¬ cmpD b.h (ofQ v) < 0 := fun h' => h (.inr ⟨⟨hhi, h'⟩, hk⟩)
       rw [e, cmpD_lt] at this; grind
    by_cases k0 : w.k = 0
    · obtain ⟨x, x1, x2⟩ := high (by omega)
      exact ⟨x, (holds_add hM x).2 ⟨x1, (holdsW_iff hw x).2 ⟨fun _ => by rw [hv, qOf_ofQ]; exact x2, fun h => absurd k0 h⟩⟩⟩
    · by_cases k1 : w.k = 1
      · obtain ⟨x, x1, x2⟩ := low k0
        exact ⟨x, (holds_add hM x).2 ⟨x1, (holdsW_iff hw x).2 ⟨fun h => absurd k1 h, fun _ => by rw [hv, qOf_ofQ]; exact x2⟩⟩⟩
      · obtain ⟨x, x1, x2⟩ := low k0
        obtain ⟨y, y1, y2⟩ := high k1
        obtain ⟨z, z1, z2⟩ := between_sol x1 y1 x2 y2
        exact ⟨z, (holds_add hM z).2 ⟨z1, (holdsW_iff hw z).2 ⟨fun _ => by rw [hv, qOf_ofQ, z2]; exact Rat.le_refl, fun _ => by rw [hv, qOf_ofQ, z2]; exact Rat.le_refl⟩⟩⟩
 have e1 : (bdsD (addS s w) goal).2 = true ↔ ∃ x, holdsS (addS s w) x = true := by
  rcases bds_ok hM hg with ⟨h1, h2⟩ | ⟨h1, h2, _⟩
  · rw [h1]; exact ⟨fun h => (by cases h), fun ⟨x, hx⟩ => absurd hx (by rw [h2 x]; decide)⟩
  · rw [h1]; exact ⟨fun _ => h2, fun _ => rfl⟩
 rw [Bool.eq_iff_iff, e1, key]
 simp only [Bool.not_eq_true', Bool.or_eq_false_iff, Bool.and_eq_false_iff, bne_eq_false_iff_eq, decide_eq_false_iff_not]
 constructor
 · intro h
   refine ⟨?_, ?_⟩
   · by_cases k0 : w.k = 0
     · exact .inr k0
     · left
       cases hlo : b.lo
       · exact .inl rfl
       · exact .inr fun h' => h (.inl ⟨⟨hlo, h'⟩, k0⟩)
   · by_cases k1 : w.k = 1
     · exact .inr k1
     · left
       cases hhi : b.hi
       · exact .inl rfl
       · exact .inr fun h' => h (.inr ⟨⟨hhi, h'⟩, k1⟩)
 · rintro ⟨h1, h2⟩ h
   rcases h with ⟨⟨h3, h4⟩, h5⟩ | ⟨⟨h3, h4⟩, h5⟩
   · rcases h1 with (h1 | h1) | h1
     · rw [h3] at h1; cases h1
     · exact h1 h4
     · exact h5 h1
   · rcases h2 with (h2 | h2) | h2
     · rw [h3] at h2; cases h2
     · exact h2 h4
     · exact h5 h2
theorem nar_not (h : (bdsD (addS s w) goal).2 = false) : impB s w = false := by
 have hs := (add_right hM).1
 have hw := (add_right hM).2
 obtain ⟨x0, hx0⟩ := nar_sol hg hok hs
 cases hi : impB s w
 · rfl
 · have := (holds_add hM x0).2 ⟨hx0, (imp_iff hs hw).1 hi x0 hx0⟩
   rcases bds_ok hM hg with ⟨_, h2⟩ | ⟨h1, _⟩
   · rw [h2 x0] at this; cases this
   · rw [h] at h1; cases h1
variable (his : (bdsD (addS s w) goal).2 = true)
include his
theorem nar_ok : BdOk s goal (bdsD s goal).1 ∧ BdOk (addS s w) goal (bdsD (addS s w) goal).1 := by
 refine ⟨?_, ?_⟩
 · rcases bds_ok (add_right hM).1 hg with ⟨h1, _⟩ | ⟨_, _, h⟩
   · rw [hok] at h1; cases h1
   · exact h
 · rcases bds_ok hM hg with ⟨h1, _⟩ | ⟨_, _, h⟩
   · rw [his] at h1; cases h1
   · exact h
theorem nar_low (h : (bdsD s goal).1.lo = true) : (bdsD (addS s w) goal).1.lo = true ∧ ¬ cmpD (bdsD s goal).1.l (bdsD (addS s w) goal).1.l > 0 := by
 obtain ⟨ha, hb⟩ := nar_ok hM hg hok his
 generalize (bdsD s goal).1 = a at *
 generalize (bdsD (addS s w) goal).1 = b at *
 obtain ⟨q, _, e, _, _, hz⟩ := ha.lo h
 cases hl : b.lo
 · obtain ⟨x, x1, x2⟩ := (hb.nl hl).2 (q - 1)
   have := hz x ((holds_add hM x).1 x1).1; grind
 · obtain ⟨r, x, e2, x1, x2, _⟩ := hb.lo hl
   refine ⟨rfl, ?_⟩
   rw [e, e2, cmpD_gt]
   have := hz x ((holds_add hM x).1 x1).1; grind
theorem nar_high (h : (bdsD s goal).1.hi = true) : (bdsD (addS s w) goal).1.hi = true ∧ ¬ cmpD (bdsD s goal).1.h (bdsD (addS s w) goal).1.h < 0 := by
 obtain ⟨ha, hb⟩ := nar_ok hM hg hok his
 generalize (bdsD s goal).1 = a at *
 generalize (bdsD (addS s w) goal).1 = b at *
 obtain ⟨q, _, e, _, _, hz⟩ := ha.hi h
 cases hl : b.hi
 · obtain ⟨x, x1, x2⟩ := (hb.nh hl).2 (q + 1)
   have := hz x ((holds_add hM x).1 x1).1; grind
 · obtain ⟨r, x, e2, x1, x2, _⟩ := hb.hi hl
   refine ⟨rfl, ?_⟩
   rw [e, e2, cmpD_lt]
   have := hz x ((holds_add hM x).1 x1).1; grind
theorem nar_same (h : impB s w = true) : (bdsD s goal).1 = (bdsD (addS s w) goal).1 := by
 obtain ⟨ha, hb⟩ := nar_ok hM hg hok his
 have hi := (imp_iff (add_right hM).1 (add_right hM).2).1 h
 exact bd_same ha hb (fun x hx => ⟨x, (holds_add hM x).2 ⟨hx, hi x hx⟩, rfl⟩) (fun x hx => ⟨x, ((holds_add hM x).1 hx).1, rfl⟩)
end
attribute [local go_sem] opsL_nil opsL_go opsL_guard gSel_tt gSel_ff gSel_tf gSel_ft stepR_some stepR_none callS_some callE_some runL_nil runL_go runL_guard gSelE_tt gSelE_ff gSelE_tf gSelE_ft stepE_some stepE_none opF callD rd constD putT upd_get guardL gOf_bool gOf_undef fieldAddrF fieldF loadF storeF indexAddrF indexF sliceF strSliceF bound buildF fillF buildSliceF elemsF allocF makeSliceF lenF elemsOf appendF minmaxF convertF boxF ldE blkAt spliceE D.cells? D.isCell Res.pure ov TyI.agg binD unD boolD initT thenA inBlockA argD argDs refsD refsL killW datJ datJs endA_ret endA_normal endR_some oneD_one oneD_two oneD_three oneD_four resDs resD fzT Value.oneCell' strip tabT tabM
attribute [local go_sem] List.map Nat.reduceEqDiff Nat.reduceBEq List.getElem?_cons_zero List.getElem?_cons_succ List.getElem?_nil Option.getD_some Option.getD_none true_and and_true true_or or_true false_or or_false and_self Nat.add_zero Nat.zero_add List.length_nil List.length_cons forall_const ite_true ite_false Bool.or_self Bool.false_eq_true Option.map_some Option.map_none beq_self_eq_true Nat.reduceAdd Nat.reduceSub Nat.reduceMul reduceCtorEq List.getElem?_toArray Bool.not_true Bool.not_false decide_eq_true_eq decide_true decide_false Nat.reduceLeDiff Nat.reduceLT Bool.or_false Bool.or_true Bool.and_true Bool.and_false Bool.false_and Bool.true_and Bool.true_beq Bool.false_beq beq_true beq_false Bool.not_eq_true List.drop_succ_cons List.take_succ_cons List.drop_zero List.take_zero List.length_map List.getElem?_map List.length_append List.all_cons List.all_nil List.append_nil List.nil_append List.cons_append List.set_cons_zero List.set_cons_succ Int.toNat_natCast Int.toNat_zero Option.isSome_some Option.isSome_none Array.size_empty ByteArray.size_empty Int.reduceToNat Int.reduceAdd Int.reduceSub Int.reduceLT Int.reduceLE Int.reduceEq Int.reduceNe Int.reduceBEq Int.reduceNeg List.forall_mem_cons List.not_mem_nil false_implies List.forall_mem_map implies_true Nat.reduceBNe Int.cast_ofNat_Int Int.reduceMul Int.reduceGE Int.reduceGT wrap_in ty_2 ty_3 ty_4 ty_5 ty_6 ty_7 ty_8 ty_9 ty_10 ty_11 ty_12 ty_13 ty_14 ty_18 ty_19 ty_21 ty_22 ty_23 ty_24 ty_25 ty_26 ty_27 ty_28 ty_29 ty_30 ty_31 ty_32 ty_37 ty_38 ty_41 ty_47 ty_65 ty_66 ty_67 ty_68 ty_77 ty_78 ty_115 ty_116 ty_124 ty_125 ty_126 ty_127 ty_130 ty_131 ty_137 ty_138 ty_144 ty_145 ty_146 ty_147 ty_148 ty_150 ty_151 ty_152 ty_155 ty_156 ty_157 ty_158
set_option maxHeartbeats 32000000
theorem sameB11_c (a : BdD) (zl : (szF a.l : Int) ≤ 4456448) (zh : (szF a.h : Int) ≤ 4456448) : Contract Try.prog 15 [encBd a, encBd a] (dB true) := by
 have hres := Try.results15
 have s1 := (rsameF_c a.l a.l (by omega)).toN rfl
 have s2 := (rsameF_c a.h a.h (by omega)).toN rfl
 rw [sameF_self] at s1 s2
 obtain ⟨l, h, lo, hi⟩ := a
 simp only at s1 s2
 refine Contract.ofA (CallA.inline Try.func15 rfl (by kernel_rfl) (by kernel_rfl) (by kernel_rfl) ?_)
 rw [Try.ntmps15]
 exact aGo hres trivial
theorem datJ_rowsS (l : List RowD) : List.map (List.map datJ) (l.map cW) = l.map cW := map_map_id (f := cW) (g := datJ) (fun _ => rfl) l
theorem datJ_moreS (l : List RowD) (w : RowD) : List.map (List.map datJ) (l.map cW ++ [cW w]) = (l ++ [w]).map cW := by rw [List.map_append, datJ_rowsS, List.map_append]; rfl
theorem narrows11_c (k0 : Contract Try.prog 8 [] (dB true)) (s : SysD) (goal : List TermD) (w : RowD) (hz : (s.r.length : Int) * 96 ≤ 140737488351232) : Contract Try.prog 3 [encS s, encTs goal, encW w] (dB true) := by
 have hres := Try.results3
 have q1 := few11_c (addS s w) goal
 have y5 : ((s.r.length : Nat) : Int) * 48 ≤ 140737488355328 := by omega
 have y6 : ((s.r.length + 1 : Nat) : Int) * 48 ≤ 140737488355328 := by omega
 have y7 : (((s.r.map cW).length + 1 : Nat) : Int) * 48 ≤ 140737488355328 := by rw [List.length_map]; omega
 have y8 := datJ_moreS s.r w
 cases h1 : few11 (addS s w) goal
 · rw [h1] at q1
   refine Contract.ofA (CallA.inline Try.func3 rfl (by kernel_rfl) (by kernel_rfl) (by kernel_rfl) ?_)
   rw [Try.ntmps3]
   exact aGo (cj4 hres y5 y6 y8) trivial
 rw [h1] at q1
 simp only [few11, Bool.and_eq_true] at h1
 have F2 := fit11_of h1.1 h1.2
 obtain ⟨n6, l6, fr⟩ := few_rows h1.1
 have hS : fewS s 6 6 2 = true := by
  have := h1.1
  simp only [fewS, Bool.and_eq_true, decide_eq_true_eq, addS, List.all_append, List.length_append, List.length_cons, List.length_nil] at this ⊢
  exact ⟨⟨this.1.1, by omega⟩, this.2.1⟩
 have F1 := fit11_of hS h1.2
 obtain ⟨w1, w2, w3⟩ := fr w (by simp [addS])
 have FW : Fit s w.t := fit11 hS ⟨by omega, w3⟩
 have q2 := lrightS_c (addS s w) F2.tn.sm
 have q3 := lright_c goal s.n F2.gt.sm
 cases hM : rightS (addS s w)
 · rw [hM] at q2
   refine Contract.ofA (CallA.inline Try.func3 rfl (by kernel_rfl) (by kernel_rfl) (by kernel_rfl) ?_)
   rw [Try.ntmps3]
   exact aGo (cj4 hres y5 y6 y8) trivial
 rw [hM] at q2
 cases hg : rightT goal s.n
 · rw [hg] at q3
   refine Contract.ofA (CallA.inline Try.func3 rfl (by kernel_rfl) (by kernel_rfl) (by kernel_rfl) ?_)
   rw [Try.ntmps3]
   exact aGo (cj4 hres y5 y6 y8) trivial
 rw [hg] at q3
 obtain ⟨hs, hw⟩ := add_right hM
 have hi := impl11_c s w FW (by omega) hs hw
 have ba := bds11_c s goal F1
 have bb := bds11_c (addS s w) goal F2
 have bt := bds11_c s w.t FW
 have e00 : ((0 : Int) == 0) = true := rfl
 have e01 : ((0 : Int) != 0) = false := rfl
 cases hok : (bdsD s goal).2
 · obtain ⟨h3, h4⟩ := nar_none hM hg hok
   rw [hok] at ba
   rw [h3] at bb
   rw [h4] at hi
   refine Contract.ofA (CallA.inline Try.func3 rfl (by kernel_rfl) (by kernel_rfl) (by kernel_rfl) ?_)
   rw [Try.ntmps3]
   exact aGo (cj4 hres y5 y6 (cj2 y8 e00)) trivial
 rw [hok] at ba
 have hhas := (nar_has hM hg hok).1
 rw [hhas] at bt
 have his := nar_is hM hg hok
 have hnot := nar_not hM hg hok
 have hlow := nar_low hM hg hok
 have hhigh := nar_high hM hg hok
 have hsame := nar_same hM hg hok
 obtain ⟨y1, y2⟩ := bds_sz F1
 obtain ⟨y3, y4⟩ := bds_sz F2
 obtain ⟨z3, z4⟩ := bds_sz FW
 have c1 := fcompare_c (bdsD s w.t).1.l w.v (by omega) (by omega)
 have c2 := fcompare_c (bdsD s w.t).1.h w.v (by omega) (by omega)
 have c3 := fcompare_c (bdsD s goal).1.l (bdsD (addS s w) goal).1.l (by omega) (by omega)
 have c4 := fcompare_c (bdsD s goal).1.h (bdsD (addS s w) goal).1.h (by omega) (by omega)
 have ks := sameB11_c (bdsD s goal).1 y1 y2
 generalize impB s w = IM at *
 generalize (bdsD s goal).1 = A at *
 generalize (bdsD (addS s w) goal).1 = B at *
 generalize (bdsD (addS s w) goal).2 = IS at *
 generalize (bdsD s w.t).1 = T at *
 clear y1 y2 y3 y4 z3 z4 F1 F2 FW
 obtain ⟨wt, wk, wv⟩ := w
 obtain ⟨tl, th, tlo, thi⟩ := T
 simp only at *
 refine Contract.ofA (CallA.inline Try.func3 rfl (by kernel_rfl) (by kernel_rfl) (by kernel_rfl) ?_)
 rw [Try.ntmps3]
 repeat ((fail_if_success (with_reducible refine at_region 11 ?_)); first
     | (refine hK _ ?_; clear hK; clear K)
     | (refine aSeq fun K hK => ?_)
     | (refine aBlock ?_)
     | (refine aSkip ?_)
     | (refine aExit ?_)
     | (refine aRet ?_)
     | (refine aOps _ rfl (by kernel_rfl) ?_)
     | (refine aRunK _ rfl mixed (by kernel_rfl) (by kernel_rfl) fun KE hE => ?_)
     | (refine hE _ _ (by kernel_rfl) (intsOk_no rfl) ?_; clear hE; clear KE)
     | (refine hE _ _ (by kernel_rfl) (intsOk_yes ?hi ?hj) ?_; (case hi => (repeat (refine intsDead_updB rfl ?_)); exact intsDead_nil); (case hj => simp); clear hE; clear KE)
     | (refine aCondT rfl ?hc ?_; case hc => simp only [go_sem, ↓reduceIte, hres, y5, y6, y8])
     | (refine aCondF rfl ?hc ?_; case hc => simp only [go_sem, ↓reduceIte, hres, y5, y6, y8])
     | (refine callT_of (k0) ?_ ?_; rotate_left; (repeat (refine intsDead_updB rfl ?_)); exact intsDead_nil)
     | (refine callT_ofN (k0) ?_)
     | (refine callU_of (k0) rfl ?_)
     | (refine callU_ofN (k0) rfl ?_)
     | (refine callT_of (q1) ?_ ?_; rotate_left; (repeat (refine intsDead_updB rfl ?_)); exact intsDead_nil)
     | (refine callT_ofN (q1) ?_)
     | (refine callU_of (q1) rfl ?_)
     | (refine callU_ofN (q1) rfl ?_)
     | (refine callT_of (q2) ?_ ?_; rotate_left; (repeat (refine intsDead_updB rfl ?_)); exact intsDead_nil)
     | (refine callT_ofN (q2) ?_)
     | (refine callU_of (q2) rfl ?_)
     | (refine callU_ofN (q2) rfl ?_)
     | (refine callT_of (q3) ?_ ?_; rotate_left; (repeat (refine intsDead_updB rfl ?_)); exact intsDead_nil)
     | (refine callT_ofN (q3) ?_)
     | (refine callU_of (q3) rfl ?_)
     | (refine callU_ofN (q3) rfl ?_)
     | (refine callT_of (hi) ?_ ?_; rotate_left; (repeat (refine intsDead_updB rfl ?_)); exact intsDead_nil)
     | (refine callT_ofN (hi) ?_)
     | (refine callU_of (hi) rfl ?_)
     | (refine callU_ofN (hi) rfl ?_)
     | (refine callT_of (ba) ?_ ?_; rotate_left; (repeat (refine intsDead_updB rfl ?_)); exact intsDead_nil)
     | (refine callT_ofN (ba) ?_)
     | (refine callU_of (ba) rfl ?_)
     | (refine callU_ofN (ba) rfl ?_)
     | (refine callT_of (bb) ?_ ?_; rotate_left; (repeat (refine intsDead_updB rfl ?_)); exact intsDead_nil)
     | (refine callT_ofN (bb) ?_)
     | (refine callU_of (bb) rfl ?_)
     | (refine callU_ofN (bb) rfl ?_)
     | (refine callT_of (bt) ?_ ?_; rotate_left; (repeat (refine intsDead_updB rfl ?_)); exact intsDead_nil)
     | (refine callT_ofN (bt) ?_)
     | (refine callU_of (bt) rfl ?_)
     | (refine callU_ofN (bt) rfl ?_)
     | (simp only [go_sem, ↓reduceIte, hres, y5, y6, y8])
     | (refine And.intro ?ho ?_; (case ho => omega))
     | (clear hK; clear K))
 have e10 : ((1 : Int) != 0) = true := rfl
 have e11 : ((1 : Int) != 1) = false := rfl
 have e0n : ((0 : Int) != 1) = true := rfl
 have e20 : ((2 : Int) != 0) = true := rfl
 have e21 : ((2 : Int) != 1) = true := rfl
 have hk : wk = 0 ∨ wk = 1 ∨ wk = 2 := by
  simp only [rightW, Bool.and_eq_true, decide_eq_true_eq] at hw; omega
 have r1 : ∀ low : Bool, low = (tlo && decide (cmpD tl wv > 0)) → ∀ st, StLe st ⟨tabT [(3, .lp 0 0 0 0), (5, .lp 1 0 0 0), (7, dB true), (9, .lp 5 0 0 0), (11, .lp 6 0 0 0), (12, dB IS), (13, dB IM), (14, dI 0), (15, .lp 7 0 0 0), (16, dB true), (17, dB low)], tabM [(0, sB0 s), (1, wB0 ⟨wt, wk, wv⟩), (5, bB A), (6, bB B), (7, bB ⟨tl, th, tlo, thi⟩)], 8, 0⟩ → K st := by
  intro low elow st hle
  refine hK _ (aLe hle ?_)
  clear hle
  repeat ((fail_if_success (with_reducible refine at_region 12 ?_)); first
   | (refine hK _ ?_; clear hK; clear K)
   | (refine aSeq fun K hK => ?_)
   | (refine aBlock ?_)
   | (refine aSkip ?_)
   | (refine aExit ?_)
   | (refine aRet ?_)
   | (refine aOps _ rfl (by kernel_rfl) ?_)
   | (refine aRunK _ rfl mixed (by kernel_rfl) (by kernel_rfl) fun KE hE => ?_)
   | (refine hE _ _ (by kernel_rfl) (intsOk_no rfl) ?_; clear hE; clear KE)
   | (refine hE _ _ (by kernel_rfl) (intsOk_yes ?hi ?hj) ?_; (case hi => (repeat (refine intsDead_updB rfl ?_)); exact intsDead_nil); (case hj => simp); clear hE; clear KE)
   | (refine aCondT rfl ?hc ?_; case hc => simp only [go_sem, ↓reduceIte, hres])
   | (refine aCondF rfl ?hc ?_; case hc => simp only [go_sem, ↓reduceIte, hres])
   | (simp only [go_sem, ↓reduceIte, hres])
   | (refine And.intro ?ho ?_; (case ho => omega))
   | (clear hK; clear K))
  have r2 : ∀ high : Bool, high = (thi && decide (cmpD th wv < 0)) → ∀ st, StLe st ⟨tabT [(3, .lp 0 0 0 0), (5, .lp 1 0 0 0), (7, dB true), (9, .lp 5 0 0 0), (11, .lp 6 0 0 0), (12, dB IS), (13, dB IM), (14, dI 0), (15, .lp 7 0 0 0), (16, dB true), (17, dB low), (18, dB high)], tabM [(0, sB0 s), (1, wB0 ⟨wt, wk, wv⟩), (5, bB A), (6, bB B), (7, bB ⟨tl, th, tlo, thi⟩)], 8, 0⟩ → K st := by
   intro high ehigh st hle
   refine hK _ (aLe hle ?_)
   clear hle hK
   rw [← elow, ← ehigh] at his
   repeat ((fail_if_success (with_reducible refine at_region 13 ?_)); first
   | (refine hK _ ?_; clear hK; clear K)
   | (refine aSeq fun K hK => ?_)
   | (refine aBlock ?_)
   | (refine aSkip ?_)
   | (refine aExit ?_)
   | (refine aRet ?_)
   | (refine aOps _ rfl (by kernel_rfl) ?_)
   | (refine aRunK _ rfl mixed (by kernel_rfl) (by kernel_rfl) fun KE hE => ?_)
   | (refine hE _ _ (by kernel_rfl) (intsOk_no rfl) ?_; clear hE; clear KE)
   | (refine hE _ _ (by kernel_rfl) (intsOk_yes ?hi ?hj) ?_; (case hi => (repeat (refine intsDead_updB rfl ?_)); exact intsDead_nil); (case hj => simp); clear hE; clear KE)
   | (refine aCondT rfl ?hc ?_; case hc => simp only [go_sem, ↓reduceIte, hres])
   | (refine aCondF rfl ?hc ?_; case hc => simp only [go_sem, ↓reduceIte, hres])
   | (simp only [go_sem, ↓reduceIte, hres])
   | (refine And.intro ?ho ?_; (case ho => omega))
   | (clear hK; clear K))
   have r3 : True → ∀ st, StLe st ⟨tabT [(7, dB true), (9, .lp 5 0 0 0), (11, .lp 6 0 0 0), (12, dB IS), (13, dB IM), (129, dB false)], tabM [(5, bB A), (6, bB B)], 8, 0⟩ → K st := by
    intro _ st hle
    refine hK _ (aLe hle ?_)
    clear hle hK his
    cases IS
    · obtain rfl := hnot rfl
      exact aGo hres trivial
    · cases IM
      · clear hsame
        obtain ⟨al, ah, alo, ahi⟩ := A
        obtain ⟨bl, bh, blo, bhi⟩ := B
        simp only at *
        cases alo
        · cases ahi
          · exact aGo hres trivial
          · obtain ⟨rfl, g2⟩ := hhigh (by trivial) (by trivial)
            exact aGo (cj2 hres g2) trivial
        · obtain ⟨rfl, g1⟩ := hlow (by trivial) (by trivial)
          cases ahi
          · exact aGo (cj2 hres g1) trivial
          · obtain ⟨rfl, g2⟩ := hhigh (by trivial) (by trivial)
            exact aGo (cj3 hres g1 g2) trivial
      · obtain rfl := hsame rfl rfl
        obtain ⟨al, ah, alo, ahi⟩ := A
        simp only at *
        cases alo
        · cases ahi
          · exact aGo hres trivial
          · obtain ⟨_, g2⟩ := hhigh (by trivial) (by trivial)
            exact aGo (cj2 hres g2) trivial
        · obtain ⟨_, g1⟩ := hlow (by trivial) (by trivial)
          cases ahi
          · exact aGo (cj2 hres g1) trivial
          · obtain ⟨_, g2⟩ := hhigh (by trivial) (by trivial)
            exact aGo (cj3 hres g1 g2) trivial
   clear hK
   rcases hk with hk | hk | hk
   · subst hk
     cases low
     · cases high
       · obtain rfl : IS = true := by rw [his]; rfl
         refine aGo (cj2 hres e01) ?_
         repeat (guard_target =~ ∀ _ : St → Prop, _; intro K hK)
         exact r3 trivial _ (by exact leGo trivial)
       · obtain rfl : IS = false := by rw [his]; rfl
         refine aGo (cj3 hres e01 e0n) ?_
         repeat (guard_target =~ ∀ _ : St → Prop, _; intro K hK)
         exact r3 trivial _ (by exact leGo trivial)
     · cases high
       · obtain rfl : IS = true := by rw [his]; rfl
         refine aGo (cj2 hres e01) ?_
         repeat (guard_target =~ ∀ _ : St → Prop, _; intro K hK)
         exact r3 trivial _ (by exact leGo trivial)
       · obtain rfl : IS = false := by rw [his]; rfl
         refine aGo (cj3 hres e01 e0n) ?_
         repeat (guard_target =~ ∀ _ : St → Prop, _; intro K hK)
         exact r3 trivial _ (by exact leGo trivial)
   · subst hk
     cases low
     · cases high
       · obtain rfl : IS = true := by rw [his]; rfl
         refine aGo (cj2 hres e01) ?_
         repeat (guard_target =~ ∀ _ : St → Prop, _; intro K hK)
         exact r3 trivial _ (by exact leGo trivial)
       · obtain rfl : IS = true := by rw [his]; rfl
         refine aGo (cj3 hres e01 e11) ?_
         repeat (guard_target =~ ∀ _ : St → Prop, _; intro K hK)
         exact r3 trivial _ (by exact leGo trivial)
     · obtain rfl : IS = false := by rw [his]; rfl
       refine aGo (cj3 hres e01 e10) ?_
       repeat (guard_target =~ ∀ _ : St → Prop, _; intro K hK)
       exact r3 trivial _ (by exact leGo trivial)
   · subst hk
     cases low
     · cases high
       · obtain rfl : IS = true := by rw [his]; rfl
         refine aGo (cj2 hres e01) ?_
         repeat (guard_target =~ ∀ _ : St → Prop, _; intro K hK)
         exact r3 trivial _ (by exact leGo trivial)
       · obtain rfl : IS = false := by rw [his]; rfl
         refine aGo (cj3 hres e01 e21) ?_
         repeat (guard_target =~ ∀ _ : St → Prop, _; intro K hK)
         exact r3 trivial _ (by exact leGo trivial)
     · obtain rfl : IS = false := by rw [his]; rfl
       refine aGo (cj3 hres e01 e20) ?_
       repeat (guard_target =~ ∀ _ : St → Prop, _; intro K hK)
       exact r3 trivial _ (by exact leGo trivial)
  clear hK
  cases thi
  · refine aGo hres ?_
    repeat (guard_target =~ ∀ _ : St → Prop, _; intro K hK)
    exact r2 false (by simp) _ (by exact leGo trivial)
  · by_cases hc : cmpD th wv < 0
    · refine aGo (cj2 hres hc) ?_
      repeat (guard_target =~ ∀ _ : St → Prop, _; intro K hK)
      exact r2 true (by simp [hc]) _ (by exact leGo trivial)
    · refine aGo (cj2 hres hc) ?_
      repeat (guard_target =~ ∀ _ : St → Prop, _; intro K hK)
      exact r2 false (by simp [hc]) _ (by exact leGo trivial)
 clear hK
 cases tlo
 · refine aGo hres ?_
   repeat (guard_target =~ ∀ _ : St → Prop, _; intro K hK)
   exact r1 false (by simp) _ (by exact leGo trivial)
 · by_cases hc : cmpD tl wv > 0
   · refine aGo (cj2 hres hc) ?_
     repeat (guard_target =~ ∀ _ : St → Prop, _; intro K hK)
     exact r1 true (by simp; omega) _ (by exact leGo trivial)
   · refine aGo (cj2 hres hc) ?_
     repeat (guard_target =~ ∀ _ : St → Prop, _; intro K hK)
     exact r1 false (by simp; omega) _ (by exact leGo trivial)
end Go.Proofs.Ytkddoopknapemaa
