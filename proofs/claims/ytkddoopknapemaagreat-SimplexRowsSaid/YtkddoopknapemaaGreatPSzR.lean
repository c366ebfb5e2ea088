/-
  Further rows, a multiple of the goal (plain).
-/
import Derived.Test.YtkddoopknapemaaGreatPSzA
namespace Go.Proofs.YtkddoopknapemaaGreat
set_option linter.unusedVariables false
set_option linter.unusedSimpArgs false
set_option linter.unusedSectionVars false
open Go Go.RowKit
set_option maxRecDepth 100000
def moreS (s : SysD) (w : RowD) : SysD := ⟨s.n, s.r ++ [w]⟩
theorem more_right {s : SysD} {w : RowD} (h : rightS (moreS s w) = true) : rightS s = true := by
 simp only [rightS, moreS, Bool.and_eq_true, List.all_append] at h ⊢
 refine ⟨⟨h.1.1, decide_eq_true ?_⟩, h.2.1⟩
 have := of_decide_eq_true h.1.2
 rw [List.length_append] at this
 omega
theorem more_holds {s : SysD} {w : RowD} {x : List FracD} (h : holdsS (moreS s w) x = true) : holdsS s x = true := by
 obtain ⟨h1, h2, h3, h4, h5⟩ := holdsS_iff.1 h
 refine holdsS_iff.2 ⟨more_right h1, h2, h3, h4, ?_⟩
 simp only [moreS, List.all_append, Bool.and_eq_true] at h5
 exact h5.1
theorem more_ray {s : SysD} {w : RowD} {goal : List TermD} {d : List FracD} (h : rayD (moreS s w) goal d = true) : rayD s goal d = true := by
 obtain ⟨h1, h2, h3, h4, h5, h6, h7⟩ := rayD_iff.1 h
 refine rayD_iff.2 ⟨more_right h1, h2, h3, h4, h5, ?_, h7⟩
 simp only [moreS, List.all_append, Bool.and_eq_true] at h6
 exact h6.1
section
variable {s : SysD} {w : RowD} {goal : List TermD} {a b : OptD} (ha : checkD s goal a = true) (hb : checkD (moreS s w) goal b = true)
include ha hb
theorem more_none (h : a.k = 1) : b.k = 1 := by
 rcases check_cases ha with ⟨a0, _⟩ | ⟨a0, a1, _⟩ | ⟨a0, _⟩
 · omega
 · rcases check_cases hb with ⟨b0, b1, b2, _⟩ | ⟨b0, _⟩ | ⟨b0, b1, _⟩
   · have := refutes_no (x := b.x) a1; rw [more_holds b2] at this; cases this
   · exact b0
   · have := refutes_no (x := b.x) a1; rw [more_holds b1] at this; cases this
 · omega
theorem more_found (h : a.k = 0) : b.k ≠ 2 ∧ (b.k = 0 → 0 ≤ sgQ (qOf b.v - qOf a.v)) ∧ (holdsS (moreS s w) a.x = true → b.k = 0 ∧ b.v = a.v) := by
 rcases check_cases ha with ⟨a0, a1, a2, a3, a4, a5⟩ | ⟨a0, _⟩ | ⟨a0, _⟩
 · rcases check_cases hb with ⟨b0, b1, b2, b3, b4, b5⟩ | ⟨b0, b1, _⟩ | ⟨b0, b1, b2, _⟩
   · have h1 := bounds a1 (more_holds b2)
     refine ⟨by omega, fun _ => ?_, fun hx => ⟨b0, ?_⟩⟩
     · rw [a3, b3, qOf_ofQ, qOf_ofQ]
       have : ¬ sgQ (dotD goal b.x - dotD goal a.x) < 0 := fun h => by rw [sgQ_lt] at h; grind
       omega
     · have h2 := bounds b1 hx
       rw [a3, b3]
       congr 1; grind
   · refine ⟨by omega, fun h => by omega, fun hx => ?_⟩
     have := refutes_no (x := a.x) b1; rw [hx] at this; cases this
   · have := ray_no (y := a.y) (more_holds b1) (more_ray b2)
     rw [a1] at this; cases this
 · omega
 · omega
end
theorem scale_check {s : SysD} {goal : List TermD} {a : OptD} (ha : checkD s goal a = true) {f : FracD} (ho : okF f = true) (hk : 0 < qOf f) :
    ∃ o : OptD, checkD s (timesD goal f) o = true ∧ o.k = a.k ∧ (a.k = 0 → o.v = ofQ (qOf a.v * qOf f)) := by
 obtain ⟨hr, hg⟩ := right_check ha
 have hn := (rightS_n hr).2
 have rg := rightT_high (n' := 1500) hn hg
 have ht : rightT (timesD goal f) s.n = true := rightT_times hg
 have hd : ∀ x, dotD (timesD goal f) x = qOf f * dotD goal x := fun x => by rw [dotD_eq, dotD_eq, timesD_dot rg ho]
 rcases check_cases ha with ⟨a0, a1, a2, a3, a4, a5⟩ | ⟨a0, a1, a2, a3, a4⟩ | ⟨a0, a1, a2, a3, a4⟩
 · have hl := lower_scale a1 ho (Rat.le_of_lt hk)
   obtain ⟨_, hxl, hxo, _, _⟩ := holdsS_iff.1 a2
   refine ⟨⟨0, ofQ (qOf f * dotD goal a.x), a.x, scaleY a.y (qOf f), []⟩, ?_, a0.symm, fun _ => ?_⟩
   · unfold checkD
     rw [hr, ht]
     simp only [if_true, hl, a2]
     rw [valueD_yes (by rw [hxl, ht, hxo]; rfl), hd, ← a4, sameF_self]
     rfl
   · rw [a3, qOf_ofQ]; congr 1; grind
 · refine ⟨⟨1, zF, [], a.y, []⟩, ?_, a0.symm, fun h => by omega⟩
   unfold checkD
   rw [hr, ht]
   simp only [a1]
   rw [if_neg (by decide), if_pos trivial, sameF_self]; rfl
 · refine ⟨⟨2, zF, a.x, [], a.d⟩, ?_, a0.symm, fun h => by omega⟩
   obtain ⟨h1, h2, h3, h4, h5, h6, h7⟩ := rayD_iff.1 a2
   have hray : rayD s (timesD goal f) a.d = true := rayD_iff.2 ⟨h1, ht, h3, h4, h5, h6, by
    rw [sgQ_lt] at h7 ⊢
    rw [hd]
    have := Rat.mul_pos hk (by grind : 0 < -dotD goal a.d)
    grind⟩
   unfold checkD
   rw [hr, ht]
   simp only [a1, hray]
   rw [if_neg (by decide), if_neg (by decide), if_pos trivial, sameF_self]; rfl
attribute [local go_sem] opsL_nil opsL_go opsL_guard gSel_tt gSel_ff gSel_tf gSel_ft stepR_some stepR_none callS_some callE_some runL_nil runL_go runL_guard gSelE_tt gSelE_ff gSelE_tf gSelE_ft stepE_some stepE_none opF callD rd constD putT upd_get guardL gOf_bool gOf_undef fieldAddrF fieldF loadF storeF indexAddrF indexF sliceF strSliceF bound buildF fillF buildSliceF elemsF allocF makeSliceF lenF elemsOf appendF minmaxF convertF boxF ldE blkAt spliceE D.cells? D.isCell Res.pure ov TyI.agg binD unD boolD initT thenA inBlockA argD argDs refsD refsL killW datJ datJs endA_ret endA_normal endR_some oneD_one oneD_two oneD_three oneD_four resDs resD fzT Value.oneCell' strip tabT tabM
attribute [local go_sem] List.map Nat.reduceEqDiff Nat.reduceBEq List.getElem?_cons_zero List.getElem?_cons_succ List.getElem?_nil Option.getD_some Option.getD_none true_and and_true true_or or_true false_or or_false and_self Nat.add_zero Nat.zero_add List.length_nil List.length_cons forall_const ite_true ite_false Bool.or_self Bool.false_eq_true Option.map_some Option.map_none beq_self_eq_true Nat.reduceAdd Nat.reduceSub Nat.reduceMul reduceCtorEq List.getElem?_toArray Bool.not_true Bool.not_false decide_eq_true_eq decide_true decide_false Nat.reduceLeDiff Nat.reduceLT Bool.or_false Bool.or_true Bool.and_true Bool.and_false Bool.false_and Bool.true_and Bool.true_beq Bool.false_beq beq_true beq_false Bool.not_eq_true List.drop_succ_cons List.take_succ_cons List.drop_zero List.take_zero List.length_map List.getElem?_map List.length_append List.all_cons List.all_nil List.append_nil List.nil_append List.cons_append List.set_cons_zero List.set_cons_succ Int.toNat_natCast Int.toNat_zero Option.isSome_some Option.isSome_none Array.size_empty ByteArray.size_empty Int.reduceToNat Int.reduceAdd Int.reduceSub Int.reduceLT Int.reduceLE Int.reduceEq Int.reduceNe Int.reduceBEq Int.reduceNeg List.forall_mem_cons List.not_mem_nil false_implies List.forall_mem_map implies_true Nat.reduceBNe Int.cast_ofNat_Int Int.reduceMul Int.reduceGE Int.reduceGT wrap_in ty_2 ty_3 ty_4 ty_5 ty_6 ty_7 ty_8 ty_9 ty_10 ty_11 ty_12 ty_13 ty_14 ty_18 ty_19 ty_21 ty_22 ty_23 ty_24 ty_25 ty_28 ty_29 ty_30 ty_31 ty_32 ty_33 ty_34 ty_35 ty_36 ty_55 ty_56 ty_57 ty_64 ty_65 ty_76 ty_77 ty_100 ty_101 ty_119 ty_120 ty_121 ty_122 ty_125 ty_126 ty_131 ty_132 ty_133 ty_134 ty_152 ty_153 ty_169 ty_170 ty_176 ty_177 ty_178 ty_179 ty_180 ty_181 ty_182 ty_183 ty_186 ty_187 ty_188 ty_189
set_option maxHeartbeats 16000000
theorem divInt_one' (n : Int) : Rat.divInt n 1 = (n : Rat) := by
 have := Rat.num_divInt_den (n : Rat)
 rwa [Rat.num_intCast, Rat.den_intCast] at this
theorem datJ_rowsZ (l : List RowD) : List.map (List.map datJ) (l.map cW) = l.map cW := map_map_id (f := cW) (g := datJ) (fun _ => rfl) l
theorem datJ_moreZ (l : List RowD) (w : RowD) : (l.map cW ++ [cW w]).map (List.map datJ) = (l ++ [w]).map cW := by rw [List.map_append, datJ_rowsZ, List.map_append]; rfl
theorem rows10_c (k0 : Contract Tryz.prog 11 [] (dB true)) (s : SysD) (goal : List TermD) (w : RowD) (n : Int) (hn : 0 ≤ n ∧ n ≤ 65535) (hz : (s.r.length : Int) * 96 ≤ 140737488351232) :
    Contract Tryz.prog 7 [encS s, encTs goal, encW w, .v (.int .u16 n)] (dB true) := by
 have hres := Tryz.results7
 have kf := few10_c s goal
 have kg := few10_c (moreS s w) goal
 have j1 := datJ_rowsZ s.r
 have j2 := datJ_moreZ s.r w
 cases hf : few10 s goal
 · rw [hf] at kf
   refine Contract.ofA (CallA.inline Tryz.func7 rfl (by kernel_rfl) (by kernel_rfl) (by kernel_rfl) ?_)
   rw [Tryz.ntmps7]
   exact aGo (cj3 hres j1 j2) trivial
 rw [hf] at kf
 cases hg : few10 (moreS s w) goal
 · rw [hg] at kg
   refine Contract.ofA (CallA.inline Tryz.func7 rfl (by kernel_rfl) (by kernel_rfl) (by kernel_rfl) ?_)
   rw [Tryz.ntmps7]
   exact aGo (cj3 hres j1 j2) trivial
 rw [hg] at kg
 have h := fit_few hf
 have hM := fit_few hg
 have kl := least_c s goal h
 have km := least_c (moreS s w) goal hM
 have b0 : ((1 : Int) != 0) = true := rfl
 have b00 : ((0 : Int) != 0) = false := rfl
 cases ok1 : (rightS s && rightT goal s.n)
 · have e1 : leastD s goal = (⟨0, zF, [], [], []⟩, 1) := by unfold leastD; rw [ok1]; rfl
   rw [e1] at kl
   refine Contract.ofA (CallA.inline Tryz.func7 rfl (by kernel_rfl) (by kernel_rfl) (by kernel_rfl) ?_)
   rw [Tryz.ntmps7]
   cases ok2 : (rightS (moreS s w) && rightT goal (moreS s w).n)
   · have e2 : leastD (moreS s w) goal = (⟨0, zF, [], [], []⟩, 1) := by unfold leastD; rw [ok2]; rfl
     rw [e2] at km
     exact aGo (cj4 hres j1 j2 b0) trivial
   · have e2 : leastD (moreS s w) goal = (leastE (moreS s w) goal, 0) := by unfold leastD; rw [ok2]; rfl
     rw [e2] at km
     generalize leastE (moreS s w) goal = B at *
     exact aGo (cj4 hres j1 j2 b0) trivial
 rw [show leastD s goal = (leastE s goal, 0) by unfold leastD; rw [ok1]; rfl] at kl
 cases ok2 : (rightS (moreS s w) && rightT goal (moreS s w).n)
 · have e2 : leastD (moreS s w) goal = (⟨0, zF, [], [], []⟩, 1) := by unfold leastD; rw [ok2]; rfl
   rw [e2] at km
   generalize leastE s goal = A at *
   refine Contract.ofA (CallA.inline Tryz.func7 rfl (by kernel_rfl) (by kernel_rfl) (by kernel_rfl) ?_)
   rw [Tryz.ntmps7]
   exact aGo (cj4 hres j1 j2 (cj2 b0 b00)) trivial
 rw [show leastD (moreS s w) goal = (leastE (moreS s w) goal, 0) by unfold leastD; rw [ok2]; rfl] at km
 simp only [Bool.and_eq_true] at ok1 ok2
 obtain ⟨hr, hgT⟩ := ok1
 have hrM := ok2.1
 have ca := least_check hr hgT
 have cb := least_check hrM ok2.2
 have ta := least_tn h hr hgT
 have tb := least_tn hM hrM ok2.2
 have hw0 : IntKind.i64.wrap n = n := wrap_in (by omega) (by omega)
 have hw : IntKind.i64.wrap (n + 1) = n + 1 := wrap_in (by omega) (by omega)
 obtain ⟨q, hq⟩ : ∃ q, Rat.divInt (n + 1) 1 = q := ⟨_, rfl⟩
 have hq2 : q = ((n + 1 : Int) : Rat) := by rw [← hq]; exact divInt_one' (n + 1)
 have q0 : 0 < q := by
  rw [← sgQ_gt, hq2]
  unfold sgQ
  rw [Rat.num_intCast, Int.sign_eq_one_of_pos (by omega)]
  decide
 have zq : szQ q ≤ 1 := by
  rw [hq2, szQ_eq, Rat.num_intCast, Rat.den_intCast]
  have e1 : szZ (n + 1) ≤ 1 := szZ_le (by simp only [bp]; omega)
  have e2 : szZ ((1 : Nat) : Int) ≤ 1 := szZ_le (by simp only [bp]; omega)
  omega
 have kn := num10_c (n + 1) 1 (by decide) (by omega) (by omega) (by decide) (by decide)
 rw [hq] at kn
 have zfq : szF (ofQ q) ≤ 1 := zq
 have kt := ltimes_c goal (ofQ q) h.gt.sm (by unfold smF; omega)
 have hT : Fit s (timesD goal (ofQ q)) := by
  have hc : ∀ t ∈ goal, szF t.f ≤ 1 := by
   simp only [few10, Bool.and_eq_true, fewT, List.all_eq_true] at hf
   exact fun t ht => fewF_le (hf.1.2.2 t ht) 1 (by decide)
  have := timesD_sz (f := ofQ q) hc zfq
  exact Fit.mk5 h.l h.n h.t h.w ⟨by have := h.g.1; omega, fun t ht => (this.2 t ht).1⟩
 have kc := least_c s (timesD goal (ofQ q)) hT
 have hgt : rightT (timesD goal (ofQ q)) s.n = true := rightT_times hgT
 rw [show leastD s (timesD goal (ofQ q)) = (leastE s (timesD goal (ofQ q)), 0) by unfold leastD; rw [hr, hgt]; rfl] at kc
 obtain ⟨o, o1, o2, o3⟩ := scale_check ca (okF_ofQ q) (by rw [qOf_ofQ]; exact q0)
 obtain ⟨p1, p2⟩ := agrees (least_check hr hgt) o1
 have ck : (leastE s (timesD goal (ofQ q))).k = (leastE s goal).k := p1.trans o2
 have cv : (leastE s goal).k = 0 → (leastE s (timesD goal (ofQ q))).v = ofQ (qOf (leastE s goal).v * q) := fun h0 => by rw [p2, o3 h0, qOf_ofQ]
 have kw := rmulF_c (leastE s goal).v (ofQ q) (by have := ta.1; unfold tnF at this; omega) (by rw [szQ_ofQ]; omega)
 have tc := least_tn hT hr hgt
 clear o1 o2 o3 p1 p2 o
 have b1 : ((leastE s (timesD goal (ofQ q))).k == (leastE s goal).k) = true := by rw [ck]; simp
 have kinds : (leastE s goal).k = 0 ∨ (leastE s goal).k = 1 ∨ (leastE s goal).k = 2 := by
  rcases check_cases ca with ⟨a0, _⟩ | ⟨a0, _⟩ | ⟨a0, _⟩
  · exact .inl a0
  · exact .inr (.inl a0)
  · exact .inr (.inr a0)
 have kindsB : (leastE (moreS s w) goal).k = 0 ∨ (leastE (moreS s w) goal).k = 1 ∨ (leastE (moreS s w) goal).k = 2 := by
  rcases check_cases cb with ⟨a0, _⟩ | ⟨a0, _⟩ | ⟨a0, _⟩
  · exact .inl a0
  · exact .inr (.inl a0)
  · exact .inr (.inr a0)
 have vA : (leastE s goal).k = 0 → okF (leastE s goal).v = true := fun h0 => by
  rcases check_cases ca with ⟨_, _, _, a3, _⟩ | ⟨a0, _⟩ | ⟨a0, _⟩
  · rw [a3]; exact okF_ofQ _
  · omega
  · omega
 have vB : (leastE (moreS s w) goal).k = 0 → okF (leastE (moreS s w) goal).v = true := fun h0 => by
  rcases check_cases cb with ⟨_, _, _, a3, _⟩ | ⟨a0, _⟩ | ⟨a0, _⟩
  · rw [a3]; exact okF_ofQ _
  · omega
  · omega
 have mn := more_none ca cb
 have mf := more_found ca cb
 generalize leastE s (timesD goal (ofQ q)) = C at *
 generalize leastE s goal = A at *
 generalize leastE (moreS s w) goal = B at *
 rcases kinds with a0 | a0 | a0
 · obtain ⟨f1, f2, f3⟩ := mf a0
   have oA := vA a0
   have zA := ta.1
   unfold tnF at zA
   have c1 : (A.k == 1) = false := by rw [a0]; rfl
   have c2 : (A.k == 0) = true := by rw [a0]; rfl
   have c4 : (A.k != 0) = false := by rw [a0]; rfl
   have d1 : (B.k == 2) = false := by simp [f1]
   have e1 : mulD A.v (ofQ q) = (ofQ (qOf A.v * q), 0) := by
    have := mulD_ofQ (qOf A.v) q
    rwa [← okF_eq oA] at this
   rw [e1] at kw
   have zC := tc.1
   unfold tnF at zC
   have ks := (rsameF_c C.v (ofQ (qOf A.v * q)) (by omega)).toN rfl
   rw [show sameF C.v (ofQ (qOf A.v * q)) = true by rw [cv a0, sameF_self]] at ks
   have kh := lholds_c (moreS s w) A.x hM.tn.sm ta.2.1.sm
   by_cases hb0 : B.k = 0
   · have oB := vB hb0
     have zB := tb.1
     unfold tnF at zB
     have d2 : (B.k == 0) = true := by rw [hb0]; rfl
     have kcmp := rcmp_c (qOf B.v) (qOf A.v) (by rw [szF_ok oB]; omega) (by rw [szF_ok oA]; omega)
     rw [← okF_eq oA, ← okF_eq oB] at kcmp
     have f2' := f2 hb0
     have d3 : ¬ sgQ (qOf B.v - qOf A.v) < 0 := by omega
     cases hh : holdsS (moreS s w) A.x
     · rw [hh] at kh
       refine Contract.ofA (CallA.inline Tryz.func7 rfl (by kernel_rfl) (by kernel_rfl) (by kernel_rfl) ?_)
       rw [Tryz.ntmps7]
       exact aGo (cj4 hres j1 j2 (cj4 b00 b1 c1 (cj4 c2 c4 d1 (cj4 d2 d3 hw0 hw)))) trivial
     · rw [hh] at kh
       obtain ⟨g1, g2⟩ := f3 hh
       have d4 : (B.k != 0) = false := by rw [hb0]; rfl
       have ks2 := (rsameF_c A.v B.v (by omega)).toN rfl
       rw [show sameF A.v B.v = true by rw [g2, sameF_self]] at ks2
       refine Contract.ofA (CallA.inline Tryz.func7 rfl (by kernel_rfl) (by kernel_rfl) (by kernel_rfl) ?_)
       rw [Tryz.ntmps7]
       exact aGo (cj4 hres j1 j2 (cj4 b00 b1 c1 (cj4 c2 c4 d1 (cj4 d2 d3 d4 (cj2 hw0 hw))))) trivial
   · have d2 : (B.k == 0) = false := by simp [hb0]
     cases hh : holdsS (moreS s w) A.x
     · rw [hh] at kh
       refine Contract.ofA (CallA.inline Tryz.func7 rfl (by kernel_rfl) (by kernel_rfl) (by kernel_rfl) ?_)
       rw [Tryz.ntmps7]
       exact aGo (cj4 hres j1 j2 (cj4 b00 b1 c1 (cj4 c2 c4 d1 (cj3 d2 hw0 hw)))) trivial
     · exact absurd (f3 hh).1 hb0
 · have c1 : (A.k == 1) = true := by rw [a0]; rfl
   have c2 : (A.k == 0) = false := by rw [a0]; rfl
   have c3 : (B.k != 1) = false := by rw [mn a0]; rfl
   have c4 : (A.k != 0) = true := by rw [a0]; rfl
   refine Contract.ofA (CallA.inline Tryz.func7 rfl (by kernel_rfl) (by kernel_rfl) (by kernel_rfl) ?_)
   rw [Tryz.ntmps7]
   exact aGo (cj4 hres j1 j2 (cj4 b00 b1 c1 (cj4 c2 c3 c4 (cj2 hw0 hw)))) trivial
 · have c1 : (A.k == 1) = false := by rw [a0]; rfl
   have c2 : (A.k == 0) = false := by rw [a0]; rfl
   have c4 : (A.k != 0) = true := by rw [a0]; rfl
   refine Contract.ofA (CallA.inline Tryz.func7 rfl (by kernel_rfl) (by kernel_rfl) (by kernel_rfl) ?_)
   rw [Tryz.ntmps7]
   exact aGo (cj4 hres j1 j2 (cj4 b00 b1 c1 (cj4 c2 c4 hw0 hw))) trivial
end Go.Proofs.YtkddoopknapemaaGreat
