/-
  ScaleRecalls: the walk.
-/
import Derived.Test.YtenmlcpbjjlokaaMOthers
import Derived.Test.YtenmlcpbjjlokaaMLawS

/-
  ScaleRecalls: the walk.
-/
namespace Go.Proofs.Ytenmlcpbjjlokaa
set_option linter.unusedVariables false
set_option linter.unusedSimpArgs false
open Go Go.RowKit
attribute [local go_sem] opsL_nil opsL_go opsL_guard gSel_tt gSel_ff gSel_tf gSel_ft stepR_some stepR_none callS_some callE_some runL_nil runL_go runL_guard gSelE_tt gSelE_ff gSelE_tf gSelE_ft stepE_some stepE_none opF callD rd constD putT upd_get guardL gOf_bool gOf_undef fieldAddrF fieldF loadF storeF indexAddrF indexF sliceF strSliceF bound buildF fillF buildSliceF elemsF allocF makeSliceF lenF elemsOf appendF minmaxF convertF boxF ldE blkAt spliceE D.cells? D.isCell Res.pure ov TyI.agg binD unD boolD initT thenA inBlockA argD argDs refsD refsL killW datJ datJs endA_ret endA_normal endR_some oneD_one oneD_two oneD_three oneD_four resDs resD fzT Value.oneCell' strip tabT tabM
attribute [local go_sem] List.map Nat.reduceEqDiff Nat.reduceBEq List.getElem?_cons_zero List.getElem?_cons_succ List.getElem?_nil Option.getD_some Option.getD_none true_and and_true true_or or_true false_or or_false and_self Nat.add_zero Nat.zero_add List.length_nil List.length_cons forall_const ite_true ite_false Bool.or_self Bool.false_eq_true Option.map_some Option.map_none beq_self_eq_true Nat.reduceAdd Nat.reduceSub Nat.reduceMul reduceCtorEq List.getElem?_toArray Bool.not_true Bool.not_false decide_eq_true_eq decide_true decide_false Nat.reduceLeDiff Nat.reduceLT Bool.or_false Bool.or_true Bool.and_true Bool.and_false Bool.false_and Bool.true_and Bool.true_beq Bool.false_beq beq_true beq_false Bool.not_eq_true List.drop_succ_cons List.take_succ_cons List.drop_zero List.take_zero List.length_map List.getElem?_map List.length_append List.all_cons List.all_nil List.append_nil List.nil_append List.cons_append List.set_cons_zero List.set_cons_succ Int.toNat_natCast Int.toNat_zero Option.isSome_some Option.isSome_none Array.size_empty ByteArray.size_empty Int.reduceToNat Int.reduceAdd Int.reduceSub Int.reduceLT Int.reduceLE Int.reduceEq Int.reduceNe Int.reduceBEq Int.reduceNeg List.forall_mem_cons List.not_mem_nil false_implies List.forall_mem_map implies_true Nat.reduceBNe Int.cast_ofNat_Int Int.reduceMul Int.reduceGE Int.reduceGT wrap_in ty_2 ty_3 ty_4 ty_5 ty_6 ty_7 ty_8 ty_9 ty_10 ty_11 ty_12 ty_13 ty_14 ty_18 ty_19 ty_21 ty_22 ty_23 ty_24 ty_25 ty_30 ty_31 ty_32 ty_33 ty_34 ty_44 ty_51 ty_52 ty_54 ty_55 ty_56 ty_57 ty_58 ty_74 ty_75 ty_78 ty_93 ty_94 ty_121 ty_122 ty_131 ty_132 ty_133 ty_134 ty_135 ty_137 ty_138 ty_139 ty_142 ty_143 ty_144 ty_145
set_option maxRecDepth 100000
set_option maxHeartbeats 40000000

theorem findN_app (l m : List CertD) (s day : Int) : ∀ k, k ≤ l.length → findN (l ++ m) s day k = findN l s day k := by
  intro k
  induction k with
  | zero => intro _; rfl
  | succ k ih =>
    intro hk
    have h1 := ih (by omega)
    obtain ⟨c, hx⟩ : ∃ e, l[k]? = some e := ⟨_, List.getElem?_eq_getElem (by omega)⟩
    have hx2 : (l ++ m)[k]? = some c := by rw [List.getElem?_append_left (by omega)]; exact hx
    have h2 : takesC (l ++ m) (findN l s day k) c = takesC l (findN l s day k) c := by
      cases hf : findN l s day k with
      | none => rfl
      | some b =>
        have := (findN_lt k b hf).1
        simp only [takesC]
        rw [List.getElem?_append_left (by omega)]
    simp only [findN, hx, hx2, h1, h2]
theorem findC_add {l : List CertD} {c : CertD} {s day : Int} (ho : ownC c s day = true) (ht : takesC l (findC l s day) c = true) : findC (l ++ [c]) s day = some l.length := by
  have h1 := findN_app l [c] s day l.length (Nat.le_refl _)
  have hx2 : (l ++ [c])[l.length]? = some c := by simp
  have h2 : takesC (l ++ [c]) (findC l s day) c = true := by
    rw [← ht]
    cases hf : findC l s day with
    | none => rfl
    | some b =>
      have := (findN_lt l.length b hf).1
      simp only [takesC]
      rw [List.getElem?_append_left (by omega)]
  unfold findC
  rw [List.length_append, List.length_singleton]
  exact findN_take hx2 ho (by rw [h1]; exact h2)
theorem recC_add (l : List RecD) (x : RecD) (s day : Int) : recC (l ++ [x]) s day = (recC l s day || hitR s day x) := by simp [recC]
theorem intD_hit (cs : List CertD) (rs : List RecD) (which reading day : Int) (h : recC rs which day = true) : intD cs rs which reading day = ⟨zF, zF, false⟩ := by
  rcases intD_cases cs rs which reading day with hX | ⟨b, c, h1, hb, hx, h2, hok, hX⟩
  · exact hX
  · rw [h] at h2; cases h2
theorem intD_same (cs : List CertD) (rs rs' : List RecD) (which reading day : Int) (h : recC rs' which day = recC rs which day) : intD cs rs' which reading day = intD cs rs which reading day := by
  unfold intD; rw [h]

theorem recalls13_c (cs : List CertD) (rs : List RecD) (which reading day : Int) (x : RecD) (c : CertD) : Contract Try.prog 7 [encCs cs, encRs rs, dI which, dI reading, dI day, encR x, encC c] (dB true) := by
  have hres := Try.results7
  have k1 := sane_c
  by_cases hf1 : (cs.length : Int) > 110
  · refine Contract.ofA (CallA.inline Try.func7 rfl (by kernel_rfl) (by kernel_rfl) (by kernel_rfl) ?_)
    rw [Try.ntmps7]
    repeat (first
      | (refine hK _ ?_; clear hK; clear K)
      | (refine aSeq fun K hK => ?_)
      | (refine aBlock ?_)
      | (refine aSkip ?_)
      | (refine aExit ?_)
      | (refine aRet ?_)
      | (refine aOps _ rfl (by kernel_rfl) ?_)
      | (refine aRunK _ rfl mixed (by kernel_rfl) (by kernel_rfl) fun KE hE => ?_)
      | (refine hE _ _ (by kernel_rfl) (intsOk_no rfl) ?_; clear hE; clear KE)
      | (refine hE _ _ (by kernel_rfl) (intsOk_yes ?hi ?hj) ?_; (case hi => (repeat (refine intsDead_updB rfl ?_)); exact intsDead_nil); (case hj => simp); clear hE; clear KE)
      | (refine aCondT rfl ?hc ?_; case hc => simp only [go_sem, ↓reduceIte, hres, hf1])
      | (refine aCondF rfl ?hc ?_; case hc => simp only [go_sem, ↓reduceIte, hres, hf1])
      | (refine callT_of (k1) ?_ ?_; rotate_left; (repeat (refine intsDead_updB rfl ?_)); exact intsDead_nil)
      | (refine callT_ofN (k1) ?_)
      | (refine callU_of (k1) rfl ?_)
      | (refine callU_ofN (k1) rfl ?_)
      | (simp only [go_sem, ↓reduceIte, hres, hf1])
      | (refine And.intro ?ho ?_; (case ho => omega))
      | (clear hK; clear K))
  by_cases hf2 : (rs.length : Int) > 50
  · refine Contract.ofA (CallA.inline Try.func7 rfl (by kernel_rfl) (by kernel_rfl) (by kernel_rfl) ?_)
    rw [Try.ntmps7]
    repeat (first
      | (refine hK _ ?_; clear hK; clear K)
      | (refine aSeq fun K hK => ?_)
      | (refine aBlock ?_)
      | (refine aSkip ?_)
      | (refine aExit ?_)
      | (refine aRet ?_)
      | (refine aOps _ rfl (by kernel_rfl) ?_)
      | (refine aRunK _ rfl mixed (by kernel_rfl) (by kernel_rfl) fun KE hE => ?_)
      | (refine hE _ _ (by kernel_rfl) (intsOk_no rfl) ?_; clear hE; clear KE)
      | (refine hE _ _ (by kernel_rfl) (intsOk_yes ?hi ?hj) ?_; (case hi => (repeat (refine intsDead_updB rfl ?_)); exact intsDead_nil); (case hj => simp); clear hE; clear KE)
      | (refine aCondT rfl ?hc ?_; case hc => simp only [go_sem, ↓reduceIte, hres, hf1, hf2])
      | (refine aCondF rfl ?hc ?_; case hc => simp only [go_sem, ↓reduceIte, hres, hf1, hf2])
      | (refine callT_of (k1) ?_ ?_; rotate_left; (repeat (refine intsDead_updB rfl ?_)); exact intsDead_nil)
      | (refine callT_ofN (k1) ?_)
      | (refine callU_of (k1) rfl ?_)
      | (refine callU_ofN (k1) rfl ?_)
      | (simp only [go_sem, ↓reduceIte, hres, hf1, hf2])
      | (refine And.intro ?ho ?_; (case ho => omega))
      | (clear hK; clear K))
  have ki := inter_c cs rs which reading day (by omega) (by omega)
  have kj := inter_c cs (rs ++ [x]) which reading day (by omega) (by simp; omega)
  rw [show encRs (rs ++ [x]) = .sl (rs.map cR ++ [cR x]) by simp] at kj
  have kf := find_c cs which day (by omega)
  have kr := sright_c { c with s := which }
  have q4 := same_c (intD cs rs which reading day).lo (intD cs rs which reading day).lo (by have := (szF_inter cs rs which reading day).1; omega)
  have q5 := same_c (intD cs rs which reading day).hi (intD cs rs which reading day).hi (by have := (szF_inter cs rs which reading day).2; omega)
  rw [sameF_self] at q4 q5
  have j1 : List.map (List.map datJ) (List.map cC cs ++ [[dI which, dI c.f, dI c.u, dI c.g, dI c.p, dI c.d]]) = List.map cC cs ++ [cC { c with s := which }] := by rw [List.map_append, map_datJ (fun _ => rfl)]; rfl
  have j2 : List.map (List.map datJ) (List.map cR rs ++ [[dI x.s, dI x.d]]) = List.map cR rs ++ [cR x] := by rw [List.map_append, map_datJ (fun _ => rfl)]; rfl
  have kg := find_c (cs ++ [{ c with s := which }]) which day (by simp; omega)
  rw [show encCs (cs ++ [{ c with s := which }]) = .sl (cs.map cC ++ [cC { c with s := which }]) by simp] at kg
  -- the second half, for what the first half has left
  cases hh1 : x.s == which
  · rw [intD_same cs rs (rs ++ [x]) which reading day (by rw [recC_add]; simp [hitR, hh1])] at kj
    cases hr : rightC { c with s := which }
    · rw [hr] at kr
      cases hfc : findC cs which day with
      | none =>
        rw [hfc] at kf
        refine Contract.ofA (CallA.inline Try.func7 rfl (by kernel_rfl) (by kernel_rfl) (by kernel_rfl) ?_)
        rw [Try.ntmps7]
        repeat (first
      | (refine hK _ ?_; clear hK; clear K)
      | (refine aSeq fun K hK => ?_)
      | (refine aBlock ?_)
      | (refine aSkip ?_)
      | (refine aExit ?_)
      | (refine aRet ?_)
      | (refine aOps _ rfl (by kernel_rfl) ?_)
      | (refine aRunK _ rfl mixed (by kernel_rfl) (by kernel_rfl) fun KE hE => ?_)
      | (refine hE _ _ (by kernel_rfl) (intsOk_no rfl) ?_; clear hE; clear KE)
      | (refine hE _ _ (by kernel_rfl) (intsOk_yes ?hi ?hj) ?_; (case hi => (repeat (refine intsDead_updB rfl ?_)); exact intsDead_nil); (case hj => simp); clear hE; clear KE)
      | (refine aCondT rfl ?hc ?_; case hc => simp only [go_sem, ↓reduceIte, hres, hf1, hf2, j1, j2, bne_self_eq_false, beq_self_eq_true, hh1])
      | (refine aCondF rfl ?hc ?_; case hc => simp only [go_sem, ↓reduceIte, hres, hf1, hf2, j1, j2, bne_self_eq_false, beq_self_eq_true, hh1])
      | (refine callT_of (k1) ?_ ?_; rotate_left; (repeat (refine intsDead_updB rfl ?_)); exact intsDead_nil)
      | (refine callT_ofN (k1) ?_)
      | (refine callU_of (k1) rfl ?_)
      | (refine callU_ofN (k1) rfl ?_)
      | (refine callT_of (ki) ?_ ?_; rotate_left; (repeat (refine intsDead_updB rfl ?_)); exact intsDead_nil)
      | (refine callT_ofN (ki) ?_)
      | (refine callU_of (ki) rfl ?_)
      | (refine callU_ofN (ki) rfl ?_)
      | (refine callT_of (kj) ?_ ?_; rotate_left; (repeat (refine intsDead_updB rfl ?_)); exact intsDead_nil)
      | (refine callT_ofN (kj) ?_)
      | (refine callU_of (kj) rfl ?_)
      | (refine callU_ofN (kj) rfl ?_)
      | (refine callT_of (q4) ?_ ?_; rotate_left; (repeat (refine intsDead_updB rfl ?_)); exact intsDead_nil)
      | (refine callT_ofN (q4) ?_)
      | (refine callU_of (q4) rfl ?_)
      | (refine callU_ofN (q4) rfl ?_)
      | (refine callT_of (q5) ?_ ?_; rotate_left; (repeat (refine intsDead_updB rfl ?_)); exact intsDead_nil)
      | (refine callT_ofN (q5) ?_)
      | (refine callU_of (q5) rfl ?_)
      | (refine callU_ofN (q5) rfl ?_)
      | (refine callT_of (kf) ?_ ?_; rotate_left; (repeat (refine intsDead_updB rfl ?_)); exact intsDead_nil)
      | (refine callT_ofN (kf) ?_)
      | (refine callU_of (kf) rfl ?_)
      | (refine callU_ofN (kf) rfl ?_)
      | (refine callT_of (kr) ?_ ?_; rotate_left; (repeat (refine intsDead_updB rfl ?_)); exact intsDead_nil)
      | (refine callT_ofN (kr) ?_)
      | (refine callU_of (kr) rfl ?_)
      | (refine callU_ofN (kr) rfl ?_)
      | (refine callT_of (kg) ?_ ?_; rotate_left; (repeat (refine intsDead_updB rfl ?_)); exact intsDead_nil)
      | (refine callT_ofN (kg) ?_)
      | (refine callU_of (kg) rfl ?_)
      | (refine callU_ofN (kg) rfl ?_)
      | (simp only [go_sem, ↓reduceIte, hres, hf1, hf2, j1, j2, bne_self_eq_false, beq_self_eq_true, hh1])
      | (refine And.intro ?ho ?_; (case ho => omega))
      | (clear hK; clear K))
      | some b =>
        rw [hfc] at kf
        obtain ⟨hb, e, hx, _⟩ := findC_some hfc
        have h5 : (b : Int) ≥ 0 := by omega
        have h6 : (b : Int) < cs.length := by omega
        have h5n : ¬ (b : Int) < 0 := by omega
        have h6n : ¬ (b : Int) ≥ cs.length := by omega
        refine Contract.ofA (CallA.inline Try.func7 rfl (by kernel_rfl) (by kernel_rfl) (by kernel_rfl) ?_)
        rw [Try.ntmps7]
        repeat (first
      | (refine hK _ ?_; clear hK; clear K)
      | (refine aSeq fun K hK => ?_)
      | (refine aBlock ?_)
      | (refine aSkip ?_)
      | (refine aExit ?_)
      | (refine aRet ?_)
      | (refine aOps _ rfl (by kernel_rfl) ?_)
      | (refine aRunK _ rfl mixed (by kernel_rfl) (by kernel_rfl) fun KE hE => ?_)
      | (refine hE _ _ (by kernel_rfl) (intsOk_no rfl) ?_; clear hE; clear KE)
      | (refine hE _ _ (by kernel_rfl) (intsOk_yes ?hi ?hj) ?_; (case hi => (repeat (refine intsDead_updB rfl ?_)); exact intsDead_nil); (case hj => simp); clear hE; clear KE)
      | (refine aCondT rfl ?hc ?_; case hc => simp only [go_sem, ↓reduceIte, hres, hf1, hf2, j1, j2, bne_self_eq_false, beq_self_eq_true, hh1, h5, h6, h5n, h6n])
      | (refine aCondF rfl ?hc ?_; case hc => simp only [go_sem, ↓reduceIte, hres, hf1, hf2, j1, j2, bne_self_eq_false, beq_self_eq_true, hh1, h5, h6, h5n, h6n])
      | (refine callT_of (k1) ?_ ?_; rotate_left; (repeat (refine intsDead_updB rfl ?_)); exact intsDead_nil)
      | (refine callT_ofN (k1) ?_)
      | (refine callU_of (k1) rfl ?_)
      | (refine callU_ofN (k1) rfl ?_)
      | (refine callT_of (ki) ?_ ?_; rotate_left; (repeat (refine intsDead_updB rfl ?_)); exact intsDead_nil)
      | (refine callT_ofN (ki) ?_)
      | (refine callU_of (ki) rfl ?_)
      | (refine callU_ofN (ki) rfl ?_)
      | (refine callT_of (kj) ?_ ?_; rotate_left; (repeat (refine intsDead_updB rfl ?_)); exact intsDead_nil)
      | (refine callT_ofN (kj) ?_)
      | (refine callU_of (kj) rfl ?_)
      | (refine callU_ofN (kj) rfl ?_)
      | (refine callT_of (q4) ?_ ?_; rotate_left; (repeat (refine intsDead_updB rfl ?_)); exact intsDead_nil)
      | (refine callT_ofN (q4) ?_)
      | (refine callU_of (q4) rfl ?_)
      | (refine callU_ofN (q4) rfl ?_)
      | (refine callT_of (q5) ?_ ?_; rotate_left; (repeat (refine intsDead_updB rfl ?_)); exact intsDead_nil)
      | (refine callT_ofN (q5) ?_)
      | (refine callU_of (q5) rfl ?_)
      | (refine callU_ofN (q5) rfl ?_)
      | (refine callT_of (kf) ?_ ?_; rotate_left; (repeat (refine intsDead_updB rfl ?_)); exact intsDead_nil)
      | (refine callT_ofN (kf) ?_)
      | (refine callU_of (kf) rfl ?_)
      | (refine callU_ofN (kf) rfl ?_)
      | (refine callT_of (kr) ?_ ?_; rotate_left; (repeat (refine intsDead_updB rfl ?_)); exact intsDead_nil)
      | (refine callT_ofN (kr) ?_)
      | (refine callU_of (kr) rfl ?_)
      | (refine callU_ofN (kr) rfl ?_)
      | (refine callT_of (kg) ?_ ?_; rotate_left; (repeat (refine intsDead_updB rfl ?_)); exact intsDead_nil)
      | (refine callT_ofN (kg) ?_)
      | (refine callU_of (kg) rfl ?_)
      | (refine callU_ofN (kg) rfl ?_)
      | (simp only [go_sem, ↓reduceIte, hres, hf1, hf2, j1, j2, bne_self_eq_false, beq_self_eq_true, hh1, h5, h6, h5n, h6n])
      | (refine And.intro ?ho ?_; (case ho => omega))
      | (clear hK; clear K))
    rw [hr] at kr
    by_cases hd1 : c.f > day
    · cases hfc : findC cs which day with
      | none =>
        rw [hfc] at kf
        refine Contract.ofA (CallA.inline Try.func7 rfl (by kernel_rfl) (by kernel_rfl) (by kernel_rfl) ?_)
        rw [Try.ntmps7]
        repeat (first
      | (refine hK _ ?_; clear hK; clear K)
      | (refine aSeq fun K hK => ?_)
      | (refine aBlock ?_)
      | (refine aSkip ?_)
      | (refine aExit ?_)
      | (refine aRet ?_)
      | (refine aOps _ rfl (by kernel_rfl) ?_)
      | (refine aRunK _ rfl mixed (by kernel_rfl) (by kernel_rfl) fun KE hE => ?_)
      | (refine hE _ _ (by kernel_rfl) (intsOk_no rfl) ?_; clear hE; clear KE)
      | (refine hE _ _ (by kernel_rfl) (intsOk_yes ?hi ?hj) ?_; (case hi => (repeat (refine intsDead_updB rfl ?_)); exact intsDead_nil); (case hj => simp); clear hE; clear KE)
      | (refine aCondT rfl ?hc ?_; case hc => simp only [go_sem, ↓reduceIte, hres, hf1, hf2, j1, j2, bne_self_eq_false, beq_self_eq_true, hh1, hd1])
      | (refine aCondF rfl ?hc ?_; case hc => simp only [go_sem, ↓reduceIte, hres, hf1, hf2, j1, j2, bne_self_eq_false, beq_self_eq_true, hh1, hd1])
      | (refine callT_of (k1) ?_ ?_; rotate_left; (repeat (refine intsDead_updB rfl ?_)); exact intsDead_nil)
      | (refine callT_ofN (k1) ?_)
      | (refine callU_of (k1) rfl ?_)
      | (refine callU_ofN (k1) rfl ?_)
      | (refine callT_of (ki) ?_ ?_; rotate_left; (repeat (refine intsDead_updB rfl ?_)); exact intsDead_nil)
      | (refine callT_ofN (ki) ?_)
      | (refine callU_of (ki) rfl ?_)
      | (refine callU_ofN (ki) rfl ?_)
      | (refine callT_of (kj) ?_ ?_; rotate_left; (repeat (refine intsDead_updB rfl ?_)); exact intsDead_nil)
      | (refine callT_ofN (kj) ?_)
      | (refine callU_of (kj) rfl ?_)
      | (refine callU_ofN (kj) rfl ?_)
      | (refine callT_of (q4) ?_ ?_; rotate_left; (repeat (refine intsDead_updB rfl ?_)); exact intsDead_nil)
      | (refine callT_ofN (q4) ?_)
      | (refine callU_of (q4) rfl ?_)
      | (refine callU_ofN (q4) rfl ?_)
      | (refine callT_of (q5) ?_ ?_; rotate_left; (repeat (refine intsDead_updB rfl ?_)); exact intsDead_nil)
      | (refine callT_ofN (q5) ?_)
      | (refine callU_of (q5) rfl ?_)
      | (refine callU_ofN (q5) rfl ?_)
      | (refine callT_of (kf) ?_ ?_; rotate_left; (repeat (refine intsDead_updB rfl ?_)); exact intsDead_nil)
      | (refine callT_ofN (kf) ?_)
      | (refine callU_of (kf) rfl ?_)
      | (refine callU_ofN (kf) rfl ?_)
      | (refine callT_of (kr) ?_ ?_; rotate_left; (repeat (refine intsDead_updB rfl ?_)); exact intsDead_nil)
      | (refine callT_ofN (kr) ?_)
      | (refine callU_of (kr) rfl ?_)
      | (refine callU_ofN (kr) rfl ?_)
      | (refine callT_of (kg) ?_ ?_; rotate_left; (repeat (refine intsDead_updB rfl ?_)); exact intsDead_nil)
      | (refine callT_ofN (kg) ?_)
      | (refine callU_of (kg) rfl ?_)
      | (refine callU_ofN (kg) rfl ?_)
      | (simp only [go_sem, ↓reduceIte, hres, hf1, hf2, j1, j2, bne_self_eq_false, beq_self_eq_true, hh1, hd1])
      | (refine And.intro ?ho ?_; (case ho => omega))
      | (clear hK; clear K))
      | some b =>
        rw [hfc] at kf
        obtain ⟨hb, e, hx, _⟩ := findC_some hfc
        have h5 : (b : Int) ≥ 0 := by omega
        have h6 : (b : Int) < cs.length := by omega
        have h5n : ¬ (b : Int) < 0 := by omega
        have h6n : ¬ (b : Int) ≥ cs.length := by omega
        refine Contract.ofA (CallA.inline Try.func7 rfl (by kernel_rfl) (by kernel_rfl) (by kernel_rfl) ?_)
        rw [Try.ntmps7]
        repeat (first
      | (refine hK _ ?_; clear hK; clear K)
      | (refine aSeq fun K hK => ?_)
      | (refine aBlock ?_)
      | (refine aSkip ?_)
      | (refine aExit ?_)
      | (refine aRet ?_)
      | (refine aOps _ rfl (by kernel_rfl) ?_)
      | (refine aRunK _ rfl mixed (by kernel_rfl) (by kernel_rfl) fun KE hE => ?_)
      | (refine hE _ _ (by kernel_rfl) (intsOk_no rfl) ?_; clear hE; clear KE)
      | (refine hE _ _ (by kernel_rfl) (intsOk_yes ?hi ?hj) ?_; (case hi => (repeat (refine intsDead_updB rfl ?_)); exact intsDead_nil); (case hj => simp); clear hE; clear KE)
      | (refine aCondT rfl ?hc ?_; case hc => simp only [go_sem, ↓reduceIte, hres, hf1, hf2, j1, j2, bne_self_eq_false, beq_self_eq_true, hh1, hd1, h5, h6, h5n, h6n])
      | (refine aCondF rfl ?hc ?_; case hc => simp only [go_sem, ↓reduceIte, hres, hf1, hf2, j1, j2, bne_self_eq_false, beq_self_eq_true, hh1, hd1, h5, h6, h5n, h6n])
      | (refine callT_of (k1) ?_ ?_; rotate_left; (repeat (refine intsDead_updB rfl ?_)); exact intsDead_nil)
      | (refine callT_ofN (k1) ?_)
      | (refine callU_of (k1) rfl ?_)
      | (refine callU_ofN (k1) rfl ?_)
      | (refine callT_of (ki) ?_ ?_; rotate_left; (repeat (refine intsDead_updB rfl ?_)); exact intsDead_nil)
      | (refine callT_ofN (ki) ?_)
      | (refine callU_of (ki) rfl ?_)
      | (refine callU_ofN (ki) rfl ?_)
      | (refine callT_of (kj) ?_ ?_; rotate_left; (repeat (refine intsDead_updB rfl ?_)); exact intsDead_nil)
      | (refine callT_ofN (kj) ?_)
      | (refine callU_of (kj) rfl ?_)
      | (refine callU_ofN (kj) rfl ?_)
      | (refine callT_of (q4) ?_ ?_; rotate_left; (repeat (refine intsDead_updB rfl ?_)); exact intsDead_nil)
      | (refine callT_ofN (q4) ?_)
      | (refine callU_of (q4) rfl ?_)
      | (refine callU_ofN (q4) rfl ?_)
      | (refine callT_of (q5) ?_ ?_; rotate_left; (repeat (refine intsDead_updB rfl ?_)); exact intsDead_nil)
      | (refine callT_ofN (q5) ?_)
      | (refine callU_of (q5) rfl ?_)
      | (refine callU_ofN (q5) rfl ?_)
      | (refine callT_of (kf) ?_ ?_; rotate_left; (repeat (refine intsDead_updB rfl ?_)); exact intsDead_nil)
      | (refine callT_ofN (kf) ?_)
      | (refine callU_of (kf) rfl ?_)
      | (refine callU_ofN (kf) rfl ?_)
      | (refine callT_of (kr) ?_ ?_; rotate_left; (repeat (refine intsDead_updB rfl ?_)); exact intsDead_nil)
      | (refine callT_ofN (kr) ?_)
      | (refine callU_of (kr) rfl ?_)
      | (refine callU_ofN (kr) rfl ?_)
      | (refine callT_of (kg) ?_ ?_; rotate_left; (repeat (refine intsDead_updB rfl ?_)); exact intsDead_nil)
      | (refine callT_ofN (kg) ?_)
      | (refine callU_of (kg) rfl ?_)
      | (refine callU_ofN (kg) rfl ?_)
      | (simp only [go_sem, ↓reduceIte, hres, hf1, hf2, j1, j2, bne_self_eq_false, beq_self_eq_true, hh1, hd1, h5, h6, h5n, h6n])
      | (refine And.intro ?ho ?_; (case ho => omega))
      | (clear hK; clear K))
    by_cases hd2 : day > c.u
    · cases hfc : findC cs which day with
      | none =>
        rw [hfc] at kf
        refine Contract.ofA (CallA.inline Try.func7 rfl (by kernel_rfl) (by kernel_rfl) (by kernel_rfl) ?_)
        rw [Try.ntmps7]
        repeat (first
      | (refine hK _ ?_; clear hK; clear K)
      | (refine aSeq fun K hK => ?_)
      | (refine aBlock ?_)
      | (refine aSkip ?_)
      | (refine aExit ?_)
      | (refine aRet ?_)
      | (refine aOps _ rfl (by kernel_rfl) ?_)
      | (refine aRunK _ rfl mixed (by kernel_rfl) (by kernel_rfl) fun KE hE => ?_)
      | (refine hE _ _ (by kernel_rfl) (intsOk_no rfl) ?_; clear hE; clear KE)
      | (refine hE _ _ (by kernel_rfl) (intsOk_yes ?hi ?hj) ?_; (case hi => (repeat (refine intsDead_updB rfl ?_)); exact intsDead_nil); (case hj => simp); clear hE; clear KE)
      | (refine aCondT rfl ?hc ?_; case hc => simp only [go_sem, ↓reduceIte, hres, hf1, hf2, j1, j2, bne_self_eq_false, beq_self_eq_true, hh1, hd1, hd2])
      | (refine aCondF rfl ?hc ?_; case hc => simp only [go_sem, ↓reduceIte, hres, hf1, hf2, j1, j2, bne_self_eq_false, beq_self_eq_true, hh1, hd1, hd2])
      | (refine callT_of (k1) ?_ ?_; rotate_left; (repeat (refine intsDead_updB rfl ?_)); exact intsDead_nil)
      | (refine callT_ofN (k1) ?_)
      | (refine callU_of (k1) rfl ?_)
      | (refine callU_ofN (k1) rfl ?_)
      | (refine callT_of (ki) ?_ ?_; rotate_left; (repeat (refine intsDead_updB rfl ?_)); exact intsDead_nil)
      | (refine callT_ofN (ki) ?_)
      | (refine callU_of (ki) rfl ?_)
      | (refine callU_ofN (ki) rfl ?_)
      | (refine callT_of (kj) ?_ ?_; rotate_left; (repeat (refine intsDead_updB rfl ?_)); exact intsDead_nil)
      | (refine callT_ofN (kj) ?_)
      | (refine callU_of (kj) rfl ?_)
      | (refine callU_ofN (kj) rfl ?_)
      | (refine callT_of (q4) ?_ ?_; rotate_left; (repeat (refine intsDead_updB rfl ?_)); exact intsDead_nil)
      | (refine callT_ofN (q4) ?_)
      | (refine callU_of (q4) rfl ?_)
      | (refine callU_ofN (q4) rfl ?_)
      | (refine callT_of (q5) ?_ ?_; rotate_left; (repeat (refine intsDead_updB rfl ?_)); exact intsDead_nil)
      | (refine callT_ofN (q5) ?_)
      | (refine callU_of (q5) rfl ?_)
      | (refine callU_ofN (q5) rfl ?_)
      | (refine callT_of (kf) ?_ ?_; rotate_left; (repeat (refine intsDead_updB rfl ?_)); exact intsDead_nil)
      | (refine callT_ofN (kf) ?_)
      | (refine callU_of (kf) rfl ?_)
      | (refine callU_ofN (kf) rfl ?_)
      | (refine callT_of (kr) ?_ ?_; rotate_left; (repeat (refine intsDead_updB rfl ?_)); exact intsDead_nil)
      | (refine callT_ofN (kr) ?_)
      | (refine callU_of (kr) rfl ?_)
      | (refine callU_ofN (kr) rfl ?_)
      | (refine callT_of (kg) ?_ ?_; rotate_left; (repeat (refine intsDead_updB rfl ?_)); exact intsDead_nil)
      | (refine callT_ofN (kg) ?_)
      | (refine callU_of (kg) rfl ?_)
      | (refine callU_ofN (kg) rfl ?_)
      | (simp only [go_sem, ↓reduceIte, hres, hf1, hf2, j1, j2, bne_self_eq_false, beq_self_eq_true, hh1, hd1, hd2])
      | (refine And.intro ?ho ?_; (case ho => omega))
      | (clear hK; clear K))
      | some b =>
        rw [hfc] at kf
        obtain ⟨hb, e, hx, _⟩ := findC_some hfc
        have h5 : (b : Int) ≥ 0 := by omega
        have h6 : (b : Int) < cs.length := by omega
        have h5n : ¬ (b : Int) < 0 := by omega
        have h6n : ¬ (b : Int) ≥ cs.length := by omega
        refine Contract.ofA (CallA.inline Try.func7 rfl (by kernel_rfl) (by kernel_rfl) (by kernel_rfl) ?_)
        rw [Try.ntmps7]
        repeat (first
      | (refine hK _ ?_; clear hK; clear K)
      | (refine aSeq fun K hK => ?_)
      | (refine aBlock ?_)
      | (refine aSkip ?_)
      | (refine aExit ?_)
      | (refine aRet ?_)
      | (refine aOps _ rfl (by kernel_rfl) ?_)
      | (refine aRunK _ rfl mixed (by kernel_rfl) (by kernel_rfl) fun KE hE => ?_)
      | (refine hE _ _ (by kernel_rfl) (intsOk_no rfl) ?_; clear hE; clear KE)
      | (refine hE _ _ (by kernel_rfl) (intsOk_yes ?hi ?hj) ?_; (case hi => (repeat (refine intsDead_updB rfl ?_)); exact intsDead_nil); (case hj => simp); clear hE; clear KE)
      | (refine aCondT rfl ?hc ?_; case hc => simp only [go_sem, ↓reduceIte, hres, hf1, hf2, j1, j2, bne_self_eq_false, beq_self_eq_true, hh1, hd1, hd2, h5, h6, h5n, h6n])
      | (refine aCondF rfl ?hc ?_; case hc => simp only [go_sem, ↓reduceIte, hres, hf1, hf2, j1, j2, bne_self_eq_false, beq_self_eq_true, hh1, hd1, hd2, h5, h6, h5n, h6n])
      | (refine callT_of (k1) ?_ ?_; rotate_left; (repeat (refine intsDead_updB rfl ?_)); exact intsDead_nil)
      | (refine callT_ofN (k1) ?_)
      | (refine callU_of (k1) rfl ?_)
      | (refine callU_ofN (k1) rfl ?_)
      | (refine callT_of (ki) ?_ ?_; rotate_left; (repeat (refine intsDead_updB rfl ?_)); exact intsDead_nil)
      | (refine callT_ofN (ki) ?_)
      | (refine callU_of (ki) rfl ?_)
      | (refine callU_ofN (ki) rfl ?_)
      | (refine callT_of (kj) ?_ ?_; rotate_left; (repeat (refine intsDead_updB rfl ?_)); exact intsDead_nil)
      | (refine callT_ofN (kj) ?_)
      | (refine callU_of (kj) rfl ?_)
      | (refine callU_ofN (kj) rfl ?_)
      | (refine callT_of (q4) ?_ ?_; rotate_left; (repeat (refine intsDead_updB rfl ?_)); exact intsDead_nil)
      | (refine callT_ofN (q4) ?_)
      | (refine callU_of (q4) rfl ?_)
      | (refine callU_ofN (q4) rfl ?_)
      | (refine callT_of (q5) ?_ ?_; rotate_left; (repeat (refine intsDead_updB rfl ?_)); exact intsDead_nil)
      | (refine callT_ofN (q5) ?_)
      | (refine callU_of (q5) rfl ?_)
      | (refine callU_ofN (q5) rfl ?_)
      | (refine callT_of (kf) ?_ ?_; rotate_left; (repeat (refine intsDead_updB rfl ?_)); exact intsDead_nil)
      | (refine callT_ofN (kf) ?_)
      | (refine callU_of (kf) rfl ?_)
      | (refine callU_ofN (kf) rfl ?_)
      | (refine callT_of (kr) ?_ ?_; rotate_left; (repeat (refine intsDead_updB rfl ?_)); exact intsDead_nil)
      | (refine callT_ofN (kr) ?_)
      | (refine callU_of (kr) rfl ?_)
      | (refine callU_ofN (kr) rfl ?_)
      | (refine callT_of (kg) ?_ ?_; rotate_left; (repeat (refine intsDead_updB rfl ?_)); exact intsDead_nil)
      | (refine callT_ofN (kg) ?_)
      | (refine callU_of (kg) rfl ?_)
      | (refine callU_ofN (kg) rfl ?_)
      | (simp only [go_sem, ↓reduceIte, hres, hf1, hf2, j1, j2, bne_self_eq_false, beq_self_eq_true, hh1, hd1, hd2, h5, h6, h5n, h6n])
      | (refine And.intro ?ho ?_; (case ho => omega))
      | (clear hK; clear K))
    have how : ownC { c with s := which } which day = true := by simp [ownC, coversC, hr]; omega
    cases hfc : findC cs which day with
    | none =>
      rw [hfc] at kf
      rw [findC_add how (by rw [hfc]; rfl)] at kg
      refine Contract.ofA (CallA.inline Try.func7 rfl (by kernel_rfl) (by kernel_rfl) (by kernel_rfl) ?_)
      rw [Try.ntmps7]
      repeat (first
      | (refine hK _ ?_; clear hK; clear K)
      | (refine aSeq fun K hK => ?_)
      | (refine aBlock ?_)
      | (refine aSkip ?_)
      | (refine aExit ?_)
      | (refine aRet ?_)
      | (refine aOps _ rfl (by kernel_rfl) ?_)
      | (refine aRunK _ rfl mixed (by kernel_rfl) (by kernel_rfl) fun KE hE => ?_)
      | (refine hE _ _ (by kernel_rfl) (intsOk_no rfl) ?_; clear hE; clear KE)
      | (refine hE _ _ (by kernel_rfl) (intsOk_yes ?hi ?hj) ?_; (case hi => (repeat (refine intsDead_updB rfl ?_)); exact intsDead_nil); (case hj => simp); clear hE; clear KE)
      | (refine aCondT rfl ?hc ?_; case hc => simp only [go_sem, ↓reduceIte, hres, hf1, hf2, j1, j2, bne_self_eq_false, beq_self_eq_true, hh1, hd1, hd2])
      | (refine aCondF rfl ?hc ?_; case hc => simp only [go_sem, ↓reduceIte, hres, hf1, hf2, j1, j2, bne_self_eq_false, beq_self_eq_true, hh1, hd1, hd2])
      | (refine callT_of (k1) ?_ ?_; rotate_left; (repeat (refine intsDead_updB rfl ?_)); exact intsDead_nil)
      | (refine callT_ofN (k1) ?_)
      | (refine callU_of (k1) rfl ?_)
      | (refine callU_ofN (k1) rfl ?_)
      | (refine callT_of (ki) ?_ ?_; rotate_left; (repeat (refine intsDead_updB rfl ?_)); exact intsDead_nil)
      | (refine callT_ofN (ki) ?_)
      | (refine callU_of (ki) rfl ?_)
      | (refine callU_ofN (ki) rfl ?_)
      | (refine callT_of (kj) ?_ ?_; rotate_left; (repeat (refine intsDead_updB rfl ?_)); exact intsDead_nil)
      | (refine callT_ofN (kj) ?_)
      | (refine callU_of (kj) rfl ?_)
      | (refine callU_ofN (kj) rfl ?_)
      | (refine callT_of (q4) ?_ ?_; rotate_left; (repeat (refine intsDead_updB rfl ?_)); exact intsDead_nil)
      | (refine callT_ofN (q4) ?_)
      | (refine callU_of (q4) rfl ?_)
      | (refine callU_ofN (q4) rfl ?_)
      | (refine callT_of (q5) ?_ ?_; rotate_left; (repeat (refine intsDead_updB rfl ?_)); exact intsDead_nil)
      | (refine callT_ofN (q5) ?_)
      | (refine callU_of (q5) rfl ?_)
      | (refine callU_ofN (q5) rfl ?_)
      | (refine callT_of (kf) ?_ ?_; rotate_left; (repeat (refine intsDead_updB rfl ?_)); exact intsDead_nil)
      | (refine callT_ofN (kf) ?_)
      | (refine callU_of (kf) rfl ?_)
      | (refine callU_ofN (kf) rfl ?_)
      | (refine callT_of (kr) ?_ ?_; rotate_left; (repeat (refine intsDead_updB rfl ?_)); exact intsDead_nil)
      | (refine callT_ofN (kr) ?_)
      | (refine callU_of (kr) rfl ?_)
      | (refine callU_ofN (kr) rfl ?_)
      | (refine callT_of (kg) ?_ ?_; rotate_left; (repeat (refine intsDead_updB rfl ?_)); exact intsDead_nil)
      | (refine callT_ofN (kg) ?_)
      | (refine callU_of (kg) rfl ?_)
      | (refine callU_ofN (kg) rfl ?_)
      | (simp only [go_sem, ↓reduceIte, hres, hf1, hf2, j1, j2, bne_self_eq_false, beq_self_eq_true, hh1, hd1, hd2])
      | (refine And.intro ?ho ?_; (case ho => omega))
      | (clear hK; clear K))
    | some b =>
      rw [hfc] at kf
      obtain ⟨hb, e, hx, _⟩ := findC_some hfc
      have h5 : (b : Int) ≥ 0 := by omega
      have h6 : (b : Int) < cs.length := by omega
      have h5n : ¬ (b : Int) < 0 := by omega
      have h6n : ¬ (b : Int) ≥ cs.length := by omega
      have h50 : (0 : Int) ≤ b := h5
      by_cases hg : e.f > c.f
      · skip
        refine Contract.ofA (CallA.inline Try.func7 rfl (by kernel_rfl) (by kernel_rfl) (by kernel_rfl) ?_)
        rw [Try.ntmps7]
        repeat (first
      | (refine hK _ ?_; clear hK; clear K)
      | (refine aSeq fun K hK => ?_)
      | (refine aBlock ?_)
      | (refine aSkip ?_)
      | (refine aExit ?_)
      | (refine aRet ?_)
      | (refine aOps _ rfl (by kernel_rfl) ?_)
      | (refine aRunK _ rfl mixed (by kernel_rfl) (by kernel_rfl) fun KE hE => ?_)
      | (refine hE _ _ (by kernel_rfl) (intsOk_no rfl) ?_; clear hE; clear KE)
      | (refine hE _ _ (by kernel_rfl) (intsOk_yes ?hi ?hj) ?_; (case hi => (repeat (refine intsDead_updB rfl ?_)); exact intsDead_nil); (case hj => simp); clear hE; clear KE)
      | (refine aCondT rfl ?hc ?_; case hc => simp only [go_sem, ↓reduceIte, hres, hf1, hf2, j1, j2, bne_self_eq_false, beq_self_eq_true, hh1, hd1, hd2, h5, h50, h6, h5n, h6n, hx, hg])
      | (refine aCondF rfl ?hc ?_; case hc => simp only [go_sem, ↓reduceIte, hres, hf1, hf2, j1, j2, bne_self_eq_false, beq_self_eq_true, hh1, hd1, hd2, h5, h50, h6, h5n, h6n, hx, hg])
      | (refine callT_of (k1) ?_ ?_; rotate_left; (repeat (refine intsDead_updB rfl ?_)); exact intsDead_nil)
      | (refine callT_ofN (k1) ?_)
      | (refine callU_of (k1) rfl ?_)
      | (refine callU_ofN (k1) rfl ?_)
      | (refine callT_of (ki) ?_ ?_; rotate_left; (repeat (refine intsDead_updB rfl ?_)); exact intsDead_nil)
      | (refine callT_ofN (ki) ?_)
      | (refine callU_of (ki) rfl ?_)
      | (refine callU_ofN (ki) rfl ?_)
      | (refine callT_of (kj) ?_ ?_; rotate_left; (repeat (refine intsDead_updB rfl ?_)); exact intsDead_nil)
      | (refine callT_ofN (kj) ?_)
      | (refine callU_of (kj) rfl ?_)
      | (refine callU_ofN (kj) rfl ?_)
      | (refine callT_of (q4) ?_ ?_; rotate_left; (repeat (refine intsDead_updB rfl ?_)); exact intsDead_nil)
      | (refine callT_ofN (q4) ?_)
      | (refine callU_of (q4) rfl ?_)
      | (refine callU_ofN (q4) rfl ?_)
      | (refine callT_of (q5) ?_ ?_; rotate_left; (repeat (refine intsDead_updB rfl ?_)); exact intsDead_nil)
      | (refine callT_ofN (q5) ?_)
      | (refine callU_of (q5) rfl ?_)
      | (refine callU_ofN (q5) rfl ?_)
      | (refine callT_of (kf) ?_ ?_; rotate_left; (repeat (refine intsDead_updB rfl ?_)); exact intsDead_nil)
      | (refine callT_ofN (kf) ?_)
      | (refine callU_of (kf) rfl ?_)
      | (refine callU_ofN (kf) rfl ?_)
      | (refine callT_of (kr) ?_ ?_; rotate_left; (repeat (refine intsDead_updB rfl ?_)); exact intsDead_nil)
      | (refine callT_ofN (kr) ?_)
      | (refine callU_of (kr) rfl ?_)
      | (refine callU_ofN (kr) rfl ?_)
      | (refine callT_of (kg) ?_ ?_; rotate_left; (repeat (refine intsDead_updB rfl ?_)); exact intsDead_nil)
      | (refine callT_ofN (kg) ?_)
      | (refine callU_of (kg) rfl ?_)
      | (refine callU_ofN (kg) rfl ?_)
      | (simp only [go_sem, ↓reduceIte, hres, hf1, hf2, j1, j2, bne_self_eq_false, beq_self_eq_true, hh1, hd1, hd2, h5, h50, h6, h5n, h6n, hx, hg])
      | (refine And.intro ?ho ?_; (case ho => omega))
      | (clear hK; clear K))
      · rw [findC_add how (by rw [hfc]; simp [takesC, hx]; omega)] at kg
        refine Contract.ofA (CallA.inline Try.func7 rfl (by kernel_rfl) (by kernel_rfl) (by kernel_rfl) ?_)
        rw [Try.ntmps7]
        repeat (first
      | (refine hK _ ?_; clear hK; clear K)
      | (refine aSeq fun K hK => ?_)
      | (refine aBlock ?_)
      | (refine aSkip ?_)
      | (refine aExit ?_)
      | (refine aRet ?_)
      | (refine aOps _ rfl (by kernel_rfl) ?_)
      | (refine aRunK _ rfl mixed (by kernel_rfl) (by kernel_rfl) fun KE hE => ?_)
      | (refine hE _ _ (by kernel_rfl) (intsOk_no rfl) ?_; clear hE; clear KE)
      | (refine hE _ _ (by kernel_rfl) (intsOk_yes ?hi ?hj) ?_; (case hi => (repeat (refine intsDead_updB rfl ?_)); exact intsDead_nil); (case hj => simp); clear hE; clear KE)
      | (refine aCondT rfl ?hc ?_; case hc => simp only [go_sem, ↓reduceIte, hres, hf1, hf2, j1, j2, bne_self_eq_false, beq_self_eq_true, hh1, hd1, hd2, h5, h50, h6, h5n, h6n, hx, hg])
      | (refine aCondF rfl ?hc ?_; case hc => simp only [go_sem, ↓reduceIte, hres, hf1, hf2, j1, j2, bne_self_eq_false, beq_self_eq_true, hh1, hd1, hd2, h5, h50, h6, h5n, h6n, hx, hg])
      | (refine callT_of (k1) ?_ ?_; rotate_left; (repeat (refine intsDead_updB rfl ?_)); exact intsDead_nil)
      | (refine callT_ofN (k1) ?_)
      | (refine callU_of (k1) rfl ?_)
      | (refine callU_ofN (k1) rfl ?_)
      | (refine callT_of (ki) ?_ ?_; rotate_left; (repeat (refine intsDead_updB rfl ?_)); exact intsDead_nil)
      | (refine callT_ofN (ki) ?_)
      | (refine callU_of (ki) rfl ?_)
      | (refine callU_ofN (ki) rfl ?_)
      | (refine callT_of (kj) ?_ ?_; rotate_left; (repeat (refine intsDead_updB rfl ?_)); exact intsDead_nil)
      | (refine callT_ofN (kj) ?_)
      | (refine callU_of (kj) rfl ?_)
      | (refine callU_ofN (kj) rfl ?_)
      | (refine callT_of (q4) ?_ ?_; rotate_left; (repeat (refine intsDead_updB rfl ?_)); exact intsDead_nil)
      | (refine callT_ofN (q4) ?_)
      | (refine callU_of (q4) rfl ?_)
      | (refine callU_ofN (q4) rfl ?_)
      | (refine callT_of (q5) ?_ ?_; rotate_left; (repeat (refine intsDead_updB rfl ?_)); exact intsDead_nil)
      | (refine callT_ofN (q5) ?_)
      | (refine callU_of (q5) rfl ?_)
      | (refine callU_ofN (q5) rfl ?_)
      | (refine callT_of (kf) ?_ ?_; rotate_left; (repeat (refine intsDead_updB rfl ?_)); exact intsDead_nil)
      | (refine callT_ofN (kf) ?_)
      | (refine callU_of (kf) rfl ?_)
      | (refine callU_ofN (kf) rfl ?_)
      | (refine callT_of (kr) ?_ ?_; rotate_left; (repeat (refine intsDead_updB rfl ?_)); exact intsDead_nil)
      | (refine callT_ofN (kr) ?_)
      | (refine callU_of (kr) rfl ?_)
      | (refine callU_ofN (kr) rfl ?_)
      | (refine callT_of (kg) ?_ ?_; rotate_left; (repeat (refine intsDead_updB rfl ?_)); exact intsDead_nil)
      | (refine callT_ofN (kg) ?_)
      | (refine callU_of (kg) rfl ?_)
      | (refine callU_ofN (kg) rfl ?_)
      | (simp only [go_sem, ↓reduceIte, hres, hf1, hf2, j1, j2, bne_self_eq_false, beq_self_eq_true, hh1, hd1, hd2, h5, h50, h6, h5n, h6n, hx, hg])
      | (refine And.intro ?ho ?_; (case ho => omega))
      | (clear hK; clear K))
  by_cases hh2 : x.d ≤ day
  · rw [intD_hit cs (rs ++ [x]) which reading day (by rw [recC_add]; simp [hitR, hh1, hh2])] at kj
    cases hr : rightC { c with s := which }
    · rw [hr] at kr
      cases hfc : findC cs which day with
      | none =>
        rw [hfc] at kf
        refine Contract.ofA (CallA.inline Try.func7 rfl (by kernel_rfl) (by kernel_rfl) (by kernel_rfl) ?_)
        rw [Try.ntmps7]
        repeat (first
      | (refine hK _ ?_; clear hK; clear K)
      | (refine aSeq fun K hK => ?_)
      | (refine aBlock ?_)
      | (refine aSkip ?_)
      | (refine aExit ?_)
      | (refine aRet ?_)
      | (refine aOps _ rfl (by kernel_rfl) ?_)
      | (refine aRunK _ rfl mixed (by kernel_rfl) (by kernel_rfl) fun KE hE => ?_)
      | (refine hE _ _ (by kernel_rfl) (intsOk_no rfl) ?_; clear hE; clear KE)
      | (refine hE _ _ (by kernel_rfl) (intsOk_yes ?hi ?hj) ?_; (case hi => (repeat (refine intsDead_updB rfl ?_)); exact intsDead_nil); (case hj => simp); clear hE; clear KE)
      | (refine aCondT rfl ?hc ?_; case hc => simp only [go_sem, ↓reduceIte, hres, hf1, hf2, j1, j2, bne_self_eq_false, beq_self_eq_true, hh1, hh2])
      | (refine aCondF rfl ?hc ?_; case hc => simp only [go_sem, ↓reduceIte, hres, hf1, hf2, j1, j2, bne_self_eq_false, beq_self_eq_true, hh1, hh2])
      | (refine callT_of (k1) ?_ ?_; rotate_left; (repeat (refine intsDead_updB rfl ?_)); exact intsDead_nil)
      | (refine callT_ofN (k1) ?_)
      | (refine callU_of (k1) rfl ?_)
      | (refine callU_ofN (k1) rfl ?_)
      | (refine callT_of (ki) ?_ ?_; rotate_left; (repeat (refine intsDead_updB rfl ?_)); exact intsDead_nil)
      | (refine callT_ofN (ki) ?_)
      | (refine callU_of (ki) rfl ?_)
      | (refine callU_ofN (ki) rfl ?_)
      | (refine callT_of (kj) ?_ ?_; rotate_left; (repeat (refine intsDead_updB rfl ?_)); exact intsDead_nil)
      | (refine callT_ofN (kj) ?_)
      | (refine callU_of (kj) rfl ?_)
      | (refine callU_ofN (kj) rfl ?_)
      | (refine callT_of (q4) ?_ ?_; rotate_left; (repeat (refine intsDead_updB rfl ?_)); exact intsDead_nil)
      | (refine callT_ofN (q4) ?_)
      | (refine callU_of (q4) rfl ?_)
      | (refine callU_ofN (q4) rfl ?_)
      | (refine callT_of (q5) ?_ ?_; rotate_left; (repeat (refine intsDead_updB rfl ?_)); exact intsDead_nil)
      | (refine callT_ofN (q5) ?_)
      | (refine callU_of (q5) rfl ?_)
      | (refine callU_ofN (q5) rfl ?_)
      | (refine callT_of (kf) ?_ ?_; rotate_left; (repeat (refine intsDead_updB rfl ?_)); exact intsDead_nil)
      | (refine callT_ofN (kf) ?_)
      | (refine callU_of (kf) rfl ?_)
      | (refine callU_ofN (kf) rfl ?_)
      | (refine callT_of (kr) ?_ ?_; rotate_left; (repeat (refine intsDead_updB rfl ?_)); exact intsDead_nil)
      | (refine callT_ofN (kr) ?_)
      | (refine callU_of (kr) rfl ?_)
      | (refine callU_ofN (kr) rfl ?_)
      | (refine callT_of (kg) ?_ ?_; rotate_left; (repeat (refine intsDead_updB rfl ?_)); exact intsDead_nil)
      | (refine callT_ofN (kg) ?_)
      | (refine callU_of (kg) rfl ?_)
      | (refine callU_ofN (kg) rfl ?_)
      | (simp only [go_sem, ↓reduceIte, hres, hf1, hf2, j1, j2, bne_self_eq_false, beq_self_eq_true, hh1, hh2])
      | (refine And.intro ?ho ?_; (case ho => omega))
      | (clear hK; clear K))
      | some b =>
        rw [hfc] at kf
        obtain ⟨hb, e, hx, _⟩ := findC_some hfc
        have h5 : (b : Int) ≥ 0 := by omega
        have h6 : (b : Int) < cs.length := by omega
        have h5n : ¬ (b : Int) < 0 := by omega
        have h6n : ¬ (b : Int) ≥ cs.length := by omega
        refine Contract.ofA (CallA.inline Try.func7 rfl (by kernel_rfl) (by kernel_rfl) (by kernel_rfl) ?_)
        rw [Try.ntmps7]
        repeat (first
      | (refine hK _ ?_; clear hK; clear K)
      | (refine aSeq fun K hK => ?_)
      | (refine aBlock ?_)
      | (refine aSkip ?_)
      | (refine aExit ?_)
      | (refine aRet ?_)
      | (refine aOps _ rfl (by kernel_rfl) ?_)
      | (refine aRunK _ rfl mixed (by kernel_rfl) (by kernel_rfl) fun KE hE => ?_)
      | (refine hE _ _ (by kernel_rfl) (intsOk_no rfl) ?_; clear hE; clear KE)
      | (refine hE _ _ (by kernel_rfl) (intsOk_yes ?hi ?hj) ?_; (case hi => (repeat (refine intsDead_updB rfl ?_)); exact intsDead_nil); (case hj => simp); clear hE; clear KE)
      | (refine aCondT rfl ?hc ?_; case hc => simp only [go_sem, ↓reduceIte, hres, hf1, hf2, j1, j2, bne_self_eq_false, beq_self_eq_true, hh1, hh2, h5, h6, h5n, h6n])
      | (refine aCondF rfl ?hc ?_; case hc => simp only [go_sem, ↓reduceIte, hres, hf1, hf2, j1, j2, bne_self_eq_false, beq_self_eq_true, hh1, hh2, h5, h6, h5n, h6n])
      | (refine callT_of (k1) ?_ ?_; rotate_left; (repeat (refine intsDead_updB rfl ?_)); exact intsDead_nil)
      | (refine callT_ofN (k1) ?_)
      | (refine callU_of (k1) rfl ?_)
      | (refine callU_ofN (k1) rfl ?_)
      | (refine callT_of (ki) ?_ ?_; rotate_left; (repeat (refine intsDead_updB rfl ?_)); exact intsDead_nil)
      | (refine callT_ofN (ki) ?_)
      | (refine callU_of (ki) rfl ?_)
      | (refine callU_ofN (ki) rfl ?_)
      | (refine callT_of (kj) ?_ ?_; rotate_left; (repeat (refine intsDead_updB rfl ?_)); exact intsDead_nil)
      | (refine callT_ofN (kj) ?_)
      | (refine callU_of (kj) rfl ?_)
      | (refine callU_ofN (kj) rfl ?_)
      | (refine callT_of (q4) ?_ ?_; rotate_left; (repeat (refine intsDead_updB rfl ?_)); exact intsDead_nil)
      | (refine callT_ofN (q4) ?_)
      | (refine callU_of (q4) rfl ?_)
      | (refine callU_ofN (q4) rfl ?_)
      | (refine callT_of (q5) ?_ ?_; rotate_left; (repeat (refine intsDead_updB rfl ?_)); exact intsDead_nil)
      | (refine callT_ofN (q5) ?_)
      | (refine callU_of (q5) rfl ?_)
      | (refine callU_ofN (q5) rfl ?_)
      | (refine callT_of (kf) ?_ ?_; rotate_left; (repeat (refine intsDead_updB rfl ?_)); exact intsDead_nil)
      | (refine callT_ofN (kf) ?_)
      | (refine callU_of (kf) rfl ?_)
      | (refine callU_ofN (kf) rfl ?_)
      | (refine callT_of (kr) ?_ ?_; rotate_left; (repeat (refine intsDead_updB rfl ?_)); exact intsDead_nil)
      | (refine callT_ofN (kr) ?_)
      | (refine callU_of (kr) rfl ?_)
      | (refine callU_ofN (kr) rfl ?_)
      | (refine callT_of (kg) ?_ ?_; rotate_left; (repeat (refine intsDead_updB rfl ?_)); exact intsDead_nil)
      | (refine callT_ofN (kg) ?_)
      | (refine callU_of (kg) rfl ?_)
      | (refine callU_ofN (kg) rfl ?_)
      | (simp only [go_sem, ↓reduceIte, hres, hf1, hf2, j1, j2, bne_self_eq_false, beq_self_eq_true, hh1, hh2, h5, h6, h5n, h6n])
      | (refine And.intro ?ho ?_; (case ho => omega))
      | (clear hK; clear K))
    rw [hr] at kr
    by_cases hd1 : c.f > day
    · cases hfc : findC cs which day with
      | none =>
        rw [hfc] at kf
        refine Contract.ofA (CallA.inline Try.func7 rfl (by kernel_rfl) (by kernel_rfl) (by kernel_rfl) ?_)
        rw [Try.ntmps7]
        repeat (first
      | (refine hK _ ?_; clear hK; clear K)
      | (refine aSeq fun K hK => ?_)
      | (refine aBlock ?_)
      | (refine aSkip ?_)
      | (refine aExit ?_)
      | (refine aRet ?_)
      | (refine aOps _ rfl (by kernel_rfl) ?_)
      | (refine aRunK _ rfl mixed (by kernel_rfl) (by kernel_rfl) fun KE hE => ?_)
      | (refine hE _ _ (by kernel_rfl) (intsOk_no rfl) ?_; clear hE; clear KE)
      | (refine hE _ _ (by kernel_rfl) (intsOk_yes ?hi ?hj) ?_; (case hi => (repeat (refine intsDead_updB rfl ?_)); exact intsDead_nil); (case hj => simp); clear hE; clear KE)
      | (refine aCondT rfl ?hc ?_; case hc => simp only [go_sem, ↓reduceIte, hres, hf1, hf2, j1, j2, bne_self_eq_false, beq_self_eq_true, hh1, hh2, hd1])
      | (refine aCondF rfl ?hc ?_; case hc => simp only [go_sem, ↓reduceIte, hres, hf1, hf2, j1, j2, bne_self_eq_false, beq_self_eq_true, hh1, hh2, hd1])
      | (refine callT_of (k1) ?_ ?_; rotate_left; (repeat (refine intsDead_updB rfl ?_)); exact intsDead_nil)
      | (refine callT_ofN (k1) ?_)
      | (refine callU_of (k1) rfl ?_)
      | (refine callU_ofN (k1) rfl ?_)
      | (refine callT_of (ki) ?_ ?_; rotate_left; (repeat (refine intsDead_updB rfl ?_)); exact intsDead_nil)
      | (refine callT_ofN (ki) ?_)
      | (refine callU_of (ki) rfl ?_)
      | (refine callU_ofN (ki) rfl ?_)
      | (refine callT_of (kj) ?_ ?_; rotate_left; (repeat (refine intsDead_updB rfl ?_)); exact intsDead_nil)
      | (refine callT_ofN (kj) ?_)
      | (refine callU_of (kj) rfl ?_)
      | (refine callU_ofN (kj) rfl ?_)
      | (refine callT_of (q4) ?_ ?_; rotate_left; (repeat (refine intsDead_updB rfl ?_)); exact intsDead_nil)
      | (refine callT_ofN (q4) ?_)
      | (refine callU_of (q4) rfl ?_)
      | (refine callU_ofN (q4) rfl ?_)
      | (refine callT_of (q5) ?_ ?_; rotate_left; (repeat (refine intsDead_updB rfl ?_)); exact intsDead_nil)
      | (refine callT_ofN (q5) ?_)
      | (refine callU_of (q5) rfl ?_)
      | (refine callU_ofN (q5) rfl ?_)
      | (refine callT_of (kf) ?_ ?_; rotate_left; (repeat (refine intsDead_updB rfl ?_)); exact intsDead_nil)
      | (refine callT_ofN (kf) ?_)
      | (refine callU_of (kf) rfl ?_)
      | (refine callU_ofN (kf) rfl ?_)
      | (refine callT_of (kr) ?_ ?_; rotate_left; (repeat (refine intsDead_updB rfl ?_)); exact intsDead_nil)
      | (refine callT_ofN (kr) ?_)
      | (refine callU_of (kr) rfl ?_)
      | (refine callU_ofN (kr) rfl ?_)
      | (refine callT_of (kg) ?_ ?_; rotate_left; (repeat (refine intsDead_updB rfl ?_)); exact intsDead_nil)
      | (refine callT_ofN (kg) ?_)
      | (refine callU_of (kg) rfl ?_)
      | (refine callU_ofN (kg) rfl ?_)
      | (simp only [go_sem, ↓reduceIte, hres, hf1, hf2, j1, j2, bne_self_eq_false, beq_self_eq_true, hh1, hh2, hd1])
      | (refine And.intro ?ho ?_; (case ho => omega))
      | (clear hK; clear K))
      | some b =>
        rw [hfc] at kf
        obtain ⟨hb, e, hx, _⟩ := findC_some hfc
        have h5 : (b : Int) ≥ 0 := by omega
        have h6 : (b : Int) < cs.length := by omega
        have h5n : ¬ (b : Int) < 0 := by omega
        have h6n : ¬ (b : Int) ≥ cs.length := by omega
        refine Contract.ofA (CallA.inline Try.func7 rfl (by kernel_rfl) (by kernel_rfl) (by kernel_rfl) ?_)
        rw [Try.ntmps7]
        repeat (first
      | (refine hK _ ?_; clear hK; clear K)
      | (refine aSeq fun K hK => ?_)
      | (refine aBlock ?_)
      | (refine aSkip ?_)
      | (refine aExit ?_)
      | (refine aRet ?_)
      | (refine aOps _ rfl (by kernel_rfl) ?_)
      | (refine aRunK _ rfl mixed (by kernel_rfl) (by kernel_rfl) fun KE hE => ?_)
      | (refine hE _ _ (by kernel_rfl) (intsOk_no rfl) ?_; clear hE; clear KE)
      | (refine hE _ _ (by kernel_rfl) (intsOk_yes ?hi ?hj) ?_; (case hi => (repeat (refine intsDead_updB rfl ?_)); exact intsDead_nil); (case hj => simp); clear hE; clear KE)
      | (refine aCondT rfl ?hc ?_; case hc => simp only [go_sem, ↓reduceIte, hres, hf1, hf2, j1, j2, bne_self_eq_false, beq_self_eq_true, hh1, hh2, hd1, h5, h6, h5n, h6n])
      | (refine aCondF rfl ?hc ?_; case hc => simp only [go_sem, ↓reduceIte, hres, hf1, hf2, j1, j2, bne_self_eq_false, beq_self_eq_true, hh1, hh2, hd1, h5, h6, h5n, h6n])
      | (refine callT_of (k1) ?_ ?_; rotate_left; (repeat (refine intsDead_updB rfl ?_)); exact intsDead_nil)
      | (refine callT_ofN (k1) ?_)
      | (refine callU_of (k1) rfl ?_)
      | (refine callU_ofN (k1) rfl ?_)
      | (refine callT_of (ki) ?_ ?_; rotate_left; (repeat (refine intsDead_updB rfl ?_)); exact intsDead_nil)
      | (refine callT_ofN (ki) ?_)
      | (refine callU_of (ki) rfl ?_)
      | (refine callU_ofN (ki) rfl ?_)
      | (refine callT_of (kj) ?_ ?_; rotate_left; (repeat (refine intsDead_updB rfl ?_)); exact intsDead_nil)
      | (refine callT_ofN (kj) ?_)
      | (refine callU_of (kj) rfl ?_)
      | (refine callU_ofN (kj) rfl ?_)
      | (refine callT_of (q4) ?_ ?_; rotate_left; (repeat (refine intsDead_updB rfl ?_)); exact intsDead_nil)
      | (refine callT_ofN (q4) ?_)
      | (refine callU_of (q4) rfl ?_)
      | (refine callU_ofN (q4) rfl ?_)
      | (refine callT_of (q5) ?_ ?_; rotate_left; (repeat (refine intsDead_updB rfl ?_)); exact intsDead_nil)
      | (refine callT_ofN (q5) ?_)
      | (refine callU_of (q5) rfl ?_)
      | (refine callU_ofN (q5) rfl ?_)
      | (refine callT_of (kf) ?_ ?_; rotate_left; (repeat (refine intsDead_updB rfl ?_)); exact intsDead_nil)
      | (refine callT_ofN (kf) ?_)
      | (refine callU_of (kf) rfl ?_)
      | (refine callU_ofN (kf) rfl ?_)
      | (refine callT_of (kr) ?_ ?_; rotate_left; (repeat (refine intsDead_updB rfl ?_)); exact intsDead_nil)
      | (refine callT_ofN (kr) ?_)
      | (refine callU_of (kr) rfl ?_)
      | (refine callU_ofN (kr) rfl ?_)
      | (refine callT_of (kg) ?_ ?_; rotate_left; (repeat (refine intsDead_updB rfl ?_)); exact intsDead_nil)
      | (refine callT_ofN (kg) ?_)
      | (refine callU_of (kg) rfl ?_)
      | (refine callU_ofN (kg) rfl ?_)
      | (simp only [go_sem, ↓reduceIte, hres, hf1, hf2, j1, j2, bne_self_eq_false, beq_self_eq_true, hh1, hh2, hd1, h5, h6, h5n, h6n])
      | (refine And.intro ?ho ?_; (case ho => omega))
      | (clear hK; clear K))
    by_cases hd2 : day > c.u
    · cases hfc : findC cs which day with
      | none =>
        rw [hfc] at kf
        refine Contract.ofA (CallA.inline Try.func7 rfl (by kernel_rfl) (by kernel_rfl) (by kernel_rfl) ?_)
        rw [Try.ntmps7]
        repeat (first
      | (refine hK _ ?_; clear hK; clear K)
      | (refine aSeq fun K hK => ?_)
      | (refine aBlock ?_)
      | (refine aSkip ?_)
      | (refine aExit ?_)
      | (refine aRet ?_)
      | (refine aOps _ rfl (by kernel_rfl) ?_)
      | (refine aRunK _ rfl mixed (by kernel_rfl) (by kernel_rfl) fun KE hE => ?_)
      | (refine hE _ _ (by kernel_rfl) (intsOk_no rfl) ?_; clear hE; clear KE)
      | (refine hE _ _ (by kernel_rfl) (intsOk_yes ?hi ?hj) ?_; (case hi => (repeat (refine intsDead_updB rfl ?_)); exact intsDead_nil); (case hj => simp); clear hE; clear KE)
      | (refine aCondT rfl ?hc ?_; case hc => simp only [go_sem, ↓reduceIte, hres, hf1, hf2, j1, j2, bne_self_eq_false, beq_self_eq_true, hh1, hh2, hd1, hd2])
      | (refine aCondF rfl ?hc ?_; case hc => simp only [go_sem, ↓reduceIte, hres, hf1, hf2, j1, j2, bne_self_eq_false, beq_self_eq_true, hh1, hh2, hd1, hd2])
      | (refine callT_of (k1) ?_ ?_; rotate_left; (repeat (refine intsDead_updB rfl ?_)); exact intsDead_nil)
      | (refine callT_ofN (k1) ?_)
      | (refine callU_of (k1) rfl ?_)
      | (refine callU_ofN (k1) rfl ?_)
      | (refine callT_of (ki) ?_ ?_; rotate_left; (repeat (refine intsDead_updB rfl ?_)); exact intsDead_nil)
      | (refine callT_ofN (ki) ?_)
      | (refine callU_of (ki) rfl ?_)
      | (refine callU_ofN (ki) rfl ?_)
      | (refine callT_of (kj) ?_ ?_; rotate_left; (repeat (refine intsDead_updB rfl ?_)); exact intsDead_nil)
      | (refine callT_ofN (kj) ?_)
      | (refine callU_of (kj) rfl ?_)
      | (refine callU_ofN (kj) rfl ?_)
      | (refine callT_of (q4) ?_ ?_; rotate_left; (repeat (refine intsDead_updB rfl ?_)); exact intsDead_nil)
      | (refine callT_ofN (q4) ?_)
      | (refine callU_of (q4) rfl ?_)
      | (refine callU_ofN (q4) rfl ?_)
      | (refine callT_of (q5) ?_ ?_; rotate_left; (repeat (refine intsDead_updB rfl ?_)); exact intsDead_nil)
      | (refine callT_ofN (q5) ?_)
      | (refine callU_of (q5) rfl ?_)
      | (refine callU_ofN (q5) rfl ?_)
      | (refine callT_of (kf) ?_ ?_; rotate_left; (repeat (refine intsDead_updB rfl ?_)); exact intsDead_nil)
      | (refine callT_ofN (kf) ?_)
      | (refine callU_of (kf) rfl ?_)
      | (refine callU_ofN (kf) rfl ?_)
      | (refine callT_of (kr) ?_ ?_; rotate_left; (repeat (refine intsDead_updB rfl ?_)); exact intsDead_nil)
      | (refine callT_ofN (kr) ?_)
      | (refine callU_of (kr) rfl ?_)
      | (refine callU_ofN (kr) rfl ?_)
      | (refine callT_of (kg) ?_ ?_; rotate_left; (repeat (refine intsDead_updB rfl ?_)); exact intsDead_nil)
      | (refine callT_ofN (kg) ?_)
      | (refine callU_of (kg) rfl ?_)
      | (refine callU_ofN (kg) rfl ?_)
      | (simp only [go_sem, ↓reduceIte, hres, hf1, hf2, j1, j2, bne_self_eq_false, beq_self_eq_true, hh1, hh2, hd1, hd2])
      | (refine And.intro ?ho ?_; (case ho => omega))
      | (clear hK; clear K))
      | some b =>
        rw [hfc] at kf
        obtain ⟨hb, e, hx, _⟩ := findC_some hfc
        have h5 : (b : Int) ≥ 0 := by omega
        have h6 : (b : Int) < cs.length := by omega
        have h5n : ¬ (b : Int) < 0 := by omega
        have h6n : ¬ (b : Int) ≥ cs.length := by omega
        refine Contract.ofA (CallA.inline Try.func7 rfl (by kernel_rfl) (by kernel_rfl) (by kernel_rfl) ?_)
        rw [Try.ntmps7]
        repeat (first
      | (refine hK _ ?_; clear hK; clear K)
      | (refine aSeq fun K hK => ?_)
      | (refine aBlock ?_)
      | (refine aSkip ?_)
      | (refine aExit ?_)
      | (refine aRet ?_)
      | (refine aOps _ rfl (by kernel_rfl) ?_)
      | (refine aRunK _ rfl mixed (by kernel_rfl) (by kernel_rfl) fun KE hE => ?_)
      | (refine hE _ _ (by kernel_rfl) (intsOk_no rfl) ?_; clear hE; clear KE)
      | (refine hE _ _ (by kernel_rfl) (intsOk_yes ?hi ?hj) ?_; (case hi => (repeat (refine intsDead_updB rfl ?_)); exact intsDead_nil); (case hj => simp); clear hE; clear KE)
      | (refine aCondT rfl ?hc ?_; case hc => simp only [go_sem, ↓reduceIte, hres, hf1, hf2, j1, j2, bne_self_eq_false, beq_self_eq_true, hh1, hh2, hd1, hd2, h5, h6, h5n, h6n])
      | (refine aCondF rfl ?hc ?_; case hc => simp only [go_sem, ↓reduceIte, hres, hf1, hf2, j1, j2, bne_self_eq_false, beq_self_eq_true, hh1, hh2, hd1, hd2, h5, h6, h5n, h6n])
      | (refine callT_of (k1) ?_ ?_; rotate_left; (repeat (refine intsDead_updB rfl ?_)); exact intsDead_nil)
      | (refine callT_ofN (k1) ?_)
      | (refine callU_of (k1) rfl ?_)
      | (refine callU_ofN (k1) rfl ?_)
      | (refine callT_of (ki) ?_ ?_; rotate_left; (repeat (refine intsDead_updB rfl ?_)); exact intsDead_nil)
      | (refine callT_ofN (ki) ?_)
      | (refine callU_of (ki) rfl ?_)
      | (refine callU_ofN (ki) rfl ?_)
      | (refine callT_of (kj) ?_ ?_; rotate_left; (repeat (refine intsDead_updB rfl ?_)); exact intsDead_nil)
      | (refine callT_ofN (kj) ?_)
      | (refine callU_of (kj) rfl ?_)
      | (refine callU_ofN (kj) rfl ?_)
      | (refine callT_of (q4) ?_ ?_; rotate_left; (repeat (refine intsDead_updB rfl ?_)); exact intsDead_nil)
      | (refine callT_ofN (q4) ?_)
      | (refine callU_of (q4) rfl ?_)
      | (refine callU_ofN (q4) rfl ?_)
      | (refine callT_of (q5) ?_ ?_; rotate_left; (repeat (refine intsDead_updB rfl ?_)); exact intsDead_nil)
      | (refine callT_ofN (q5) ?_)
      | (refine callU_of (q5) rfl ?_)
      | (refine callU_ofN (q5) rfl ?_)
      | (refine callT_of (kf) ?_ ?_; rotate_left; (repeat (refine intsDead_updB rfl ?_)); exact intsDead_nil)
      | (refine callT_ofN (kf) ?_)
      | (refine callU_of (kf) rfl ?_)
      | (refine callU_ofN (kf) rfl ?_)
      | (refine callT_of (kr) ?_ ?_; rotate_left; (repeat (refine intsDead_updB rfl ?_)); exact intsDead_nil)
      | (refine callT_ofN (kr) ?_)
      | (refine callU_of (kr) rfl ?_)
      | (refine callU_ofN (kr) rfl ?_)
      | (refine callT_of (kg) ?_ ?_; rotate_left; (repeat (refine intsDead_updB rfl ?_)); exact intsDead_nil)
      | (refine callT_ofN (kg) ?_)
      | (refine callU_of (kg) rfl ?_)
      | (refine callU_ofN (kg) rfl ?_)
      | (simp only [go_sem, ↓reduceIte, hres, hf1, hf2, j1, j2, bne_self_eq_false, beq_self_eq_true, hh1, hh2, hd1, hd2, h5, h6, h5n, h6n])
      | (refine And.intro ?ho ?_; (case ho => omega))
      | (clear hK; clear K))
    have how : ownC { c with s := which } which day = true := by simp [ownC, coversC, hr]; omega
    cases hfc : findC cs which day with
    | none =>
      rw [hfc] at kf
      rw [findC_add how (by rw [hfc]; rfl)] at kg
      refine Contract.ofA (CallA.inline Try.func7 rfl (by kernel_rfl) (by kernel_rfl) (by kernel_rfl) ?_)
      rw [Try.ntmps7]
      repeat (first
      | (refine hK _ ?_; clear hK; clear K)
      | (refine aSeq fun K hK => ?_)
      | (refine aBlock ?_)
      | (refine aSkip ?_)
      | (refine aExit ?_)
      | (refine aRet ?_)
      | (refine aOps _ rfl (by kernel_rfl) ?_)
      | (refine aRunK _ rfl mixed (by kernel_rfl) (by kernel_rfl) fun KE hE => ?_)
      | (refine hE _ _ (by kernel_rfl) (intsOk_no rfl) ?_; clear hE; clear KE)
      | (refine hE _ _ (by kernel_rfl) (intsOk_yes ?hi ?hj) ?_; (case hi => (repeat (refine intsDead_updB rfl ?_)); exact intsDead_nil); (case hj => simp); clear hE; clear KE)
      | (refine aCondT rfl ?hc ?_; case hc => simp only [go_sem, ↓reduceIte, hres, hf1, hf2, j1, j2, bne_self_eq_false, beq_self_eq_true, hh1, hh2, hd1, hd2])
      | (refine aCondF rfl ?hc ?_; case hc => simp only [go_sem, ↓reduceIte, hres, hf1, hf2, j1, j2, bne_self_eq_false, beq_self_eq_true, hh1, hh2, hd1, hd2])
      | (refine callT_of (k1) ?_ ?_; rotate_left; (repeat (refine intsDead_updB rfl ?_)); exact intsDead_nil)
      | (refine callT_ofN (k1) ?_)
      | (refine callU_of (k1) rfl ?_)
      | (refine callU_ofN (k1) rfl ?_)
      | (refine callT_of (ki) ?_ ?_; rotate_left; (repeat (refine intsDead_updB rfl ?_)); exact intsDead_nil)
      | (refine callT_ofN (ki) ?_)
      | (refine callU_of (ki) rfl ?_)
      | (refine callU_ofN (ki) rfl ?_)
      | (refine callT_of (kj) ?_ ?_; rotate_left; (repeat (refine intsDead_updB rfl ?_)); exact intsDead_nil)
      | (refine callT_ofN (kj) ?_)
      | (refine callU_of (kj) rfl ?_)
      | (refine callU_ofN (kj) rfl ?_)
      | (refine callT_of (q4) ?_ ?_; rotate_left; (repeat (refine intsDead_updB rfl ?_)); exact intsDead_nil)
      | (refine callT_ofN (q4) ?_)
      | (refine callU_of (q4) rfl ?_)
      | (refine callU_ofN (q4) rfl ?_)
      | (refine callT_of (q5) ?_ ?_; rotate_left; (repeat (refine intsDead_updB rfl ?_)); exact intsDead_nil)
      | (refine callT_ofN (q5) ?_)
      | (refine callU_of (q5) rfl ?_)
      | (refine callU_ofN (q5) rfl ?_)
      | (refine callT_of (kf) ?_ ?_; rotate_left; (repeat (refine intsDead_updB rfl ?_)); exact intsDead_nil)
      | (refine callT_ofN (kf) ?_)
      | (refine callU_of (kf) rfl ?_)
      | (refine callU_ofN (kf) rfl ?_)
      | (refine callT_of (kr) ?_ ?_; rotate_left; (repeat (refine intsDead_updB rfl ?_)); exact intsDead_nil)
      | (refine callT_ofN (kr) ?_)
      | (refine callU_of (kr) rfl ?_)
      | (refine callU_ofN (kr) rfl ?_)
      | (refine callT_of (kg) ?_ ?_; rotate_left; (repeat (refine intsDead_updB rfl ?_)); exact intsDead_nil)
      | (refine callT_ofN (kg) ?_)
      | (refine callU_of (kg) rfl ?_)
      | (refine callU_ofN (kg) rfl ?_)
      | (simp only [go_sem, ↓reduceIte, hres, hf1, hf2, j1, j2, bne_self_eq_false, beq_self_eq_true, hh1, hh2, hd1, hd2])
      | (refine And.intro ?ho ?_; (case ho => omega))
      | (clear hK; clear K))
    | some b =>
      rw [hfc] at kf
      obtain ⟨hb, e, hx, _⟩ := findC_some hfc
      have h5 : (b : Int) ≥ 0 := by omega
      have h6 : (b : Int) < cs.length := by omega
      have h5n : ¬ (b : Int) < 0 := by omega
      have h6n : ¬ (b : Int) ≥ cs.length := by omega
      have h50 : (0 : Int) ≤ b := h5
      by_cases hg : e.f > c.f
      · skip
        refine Contract.ofA (CallA.inline Try.func7 rfl (by kernel_rfl) (by kernel_rfl) (by kernel_rfl) ?_)
        rw [Try.ntmps7]
        repeat (first
      | (refine hK _ ?_; clear hK; clear K)
      | (refine aSeq fun K hK => ?_)
      | (refine aBlock ?_)
      | (refine aSkip ?_)
      | (refine aExit ?_)
      | (refine aRet ?_)
      | (refine aOps _ rfl (by kernel_rfl) ?_)
      | (refine aRunK _ rfl mixed (by kernel_rfl) (by kernel_rfl) fun KE hE => ?_)
      | (refine hE _ _ (by kernel_rfl) (intsOk_no rfl) ?_; clear hE; clear KE)
      | (refine hE _ _ (by kernel_rfl) (intsOk_yes ?hi ?hj) ?_; (case hi => (repeat (refine intsDead_updB rfl ?_)); exact intsDead_nil); (case hj => simp); clear hE; clear KE)
      | (refine aCondT rfl ?hc ?_; case hc => simp only [go_sem, ↓reduceIte, hres, hf1, hf2, j1, j2, bne_self_eq_false, beq_self_eq_true, hh1, hh2, hd1, hd2, h5, h50, h6, h5n, h6n, hx, hg])
      | (refine aCondF rfl ?hc ?_; case hc => simp only [go_sem, ↓reduceIte, hres, hf1, hf2, j1, j2, bne_self_eq_false, beq_self_eq_true, hh1, hh2, hd1, hd2, h5, h50, h6, h5n, h6n, hx, hg])
      | (refine callT_of (k1) ?_ ?_; rotate_left; (repeat (refine intsDead_updB rfl ?_)); exact intsDead_nil)
      | (refine callT_ofN (k1) ?_)
      | (refine callU_of (k1) rfl ?_)
      | (refine callU_ofN (k1) rfl ?_)
      | (refine callT_of (ki) ?_ ?_; rotate_left; (repeat (refine intsDead_updB rfl ?_)); exact intsDead_nil)
      | (refine callT_ofN (ki) ?_)
      | (refine callU_of (ki) rfl ?_)
      | (refine callU_ofN (ki) rfl ?_)
      | (refine callT_of (kj) ?_ ?_; rotate_left; (repeat (refine intsDead_updB rfl ?_)); exact intsDead_nil)
      | (refine callT_ofN (kj) ?_)
      | (refine callU_of (kj) rfl ?_)
      | (refine callU_ofN (kj) rfl ?_)
      | (refine callT_of (q4) ?_ ?_; rotate_left; (repeat (refine intsDead_updB rfl ?_)); exact intsDead_nil)
      | (refine callT_ofN (q4) ?_)
      | (refine callU_of (q4) rfl ?_)
      | (refine callU_ofN (q4) rfl ?_)
      | (refine callT_of (q5) ?_ ?_; rotate_left; (repeat (refine intsDead_updB rfl ?_)); exact intsDead_nil)
      | (refine callT_ofN (q5) ?_)
      | (refine callU_of (q5) rfl ?_)
      | (refine callU_ofN (q5) rfl ?_)
      | (refine callT_of (kf) ?_ ?_; rotate_left; (repeat (refine intsDead_updB rfl ?_)); exact intsDead_nil)
      | (refine callT_ofN (kf) ?_)
      | (refine callU_of (kf) rfl ?_)
      | (refine callU_ofN (kf) rfl ?_)
      | (refine callT_of (kr) ?_ ?_; rotate_left; (repeat (refine intsDead_updB rfl ?_)); exact intsDead_nil)
      | (refine callT_ofN (kr) ?_)
      | (refine callU_of (kr) rfl ?_)
      | (refine callU_ofN (kr) rfl ?_)
      | (refine callT_of (kg) ?_ ?_; rotate_left; (repeat (refine intsDead_updB rfl ?_)); exact intsDead_nil)
      | (refine callT_ofN (kg) ?_)
      | (refine callU_of (kg) rfl ?_)
      | (refine callU_ofN (kg) rfl ?_)
      | (simp only [go_sem, ↓reduceIte, hres, hf1, hf2, j1, j2, bne_self_eq_false, beq_self_eq_true, hh1, hh2, hd1, hd2, h5, h50, h6, h5n, h6n, hx, hg])
      | (refine And.intro ?ho ?_; (case ho => omega))
      | (clear hK; clear K))
      · rw [findC_add how (by rw [hfc]; simp [takesC, hx]; omega)] at kg
        refine Contract.ofA (CallA.inline Try.func7 rfl (by kernel_rfl) (by kernel_rfl) (by kernel_rfl) ?_)
        rw [Try.ntmps7]
        repeat (first
      | (refine hK _ ?_; clear hK; clear K)
      | (refine aSeq fun K hK => ?_)
      | (refine aBlock ?_)
      | (refine aSkip ?_)
      | (refine aExit ?_)
      | (refine aRet ?_)
      | (refine aOps _ rfl (by kernel_rfl) ?_)
      | (refine aRunK _ rfl mixed (by kernel_rfl) (by kernel_rfl) fun KE hE => ?_)
      | (refine hE _ _ (by kernel_rfl) (intsOk_no rfl) ?_; clear hE; clear KE)
      | (refine hE _ _ (by kernel_rfl) (intsOk_yes ?hi ?hj) ?_; (case hi => (repeat (refine intsDead_updB rfl ?_)); exact intsDead_nil); (case hj => simp); clear hE; clear KE)
      | (refine aCondT rfl ?hc ?_; case hc => simp only [go_sem, ↓reduceIte, hres, hf1, hf2, j1, j2, bne_self_eq_false, beq_self_eq_true, hh1, hh2, hd1, hd2, h5, h50, h6, h5n, h6n, hx, hg])
      | (refine aCondF rfl ?hc ?_; case hc => simp only [go_sem, ↓reduceIte, hres, hf1, hf2, j1, j2, bne_self_eq_false, beq_self_eq_true, hh1, hh2, hd1, hd2, h5, h50, h6, h5n, h6n, hx, hg])
      | (refine callT_of (k1) ?_ ?_; rotate_left; (repeat (refine intsDead_updB rfl ?_)); exact intsDead_nil)
      | (refine callT_ofN (k1) ?_)
      | (refine callU_of (k1) rfl ?_)
      | (refine callU_ofN (k1) rfl ?_)
      | (refine callT_of (ki) ?_ ?_; rotate_left; (repeat (refine intsDead_updB rfl ?_)); exact intsDead_nil)
      | (refine callT_ofN (ki) ?_)
      | (refine callU_of (ki) rfl ?_)
      | (refine callU_ofN (ki) rfl ?_)
      | (refine callT_of (kj) ?_ ?_; rotate_left; (repeat (refine intsDead_updB rfl ?_)); exact intsDead_nil)
      | (refine callT_ofN (kj) ?_)
      | (refine callU_of (kj) rfl ?_)
      | (refine callU_ofN (kj) rfl ?_)
      | (refine callT_of (q4) ?_ ?_; rotate_left; (repeat (refine intsDead_updB rfl ?_)); exact intsDead_nil)
      | (refine callT_ofN (q4) ?_)
      | (refine callU_of (q4) rfl ?_)
      | (refine callU_ofN (q4) rfl ?_)
      | (refine callT_of (q5) ?_ ?_; rotate_left; (repeat (refine intsDead_updB rfl ?_)); exact intsDead_nil)
      | (refine callT_ofN (q5) ?_)
      | (refine callU_of (q5) rfl ?_)
      | (refine callU_ofN (q5) rfl ?_)
      | (refine callT_of (kf) ?_ ?_; rotate_left; (repeat (refine intsDead_updB rfl ?_)); exact intsDead_nil)
      | (refine callT_ofN (kf) ?_)
      | (refine callU_of (kf) rfl ?_)
      | (refine callU_ofN (kf) rfl ?_)
      | (refine callT_of (kr) ?_ ?_; rotate_left; (repeat (refine intsDead_updB rfl ?_)); exact intsDead_nil)
      | (refine callT_ofN (kr) ?_)
      | (refine callU_of (kr) rfl ?_)
      | (refine callU_ofN (kr) rfl ?_)
      | (refine callT_of (kg) ?_ ?_; rotate_left; (repeat (refine intsDead_updB rfl ?_)); exact intsDead_nil)
      | (refine callT_ofN (kg) ?_)
      | (refine callU_of (kg) rfl ?_)
      | (refine callU_ofN (kg) rfl ?_)
      | (simp only [go_sem, ↓reduceIte, hres, hf1, hf2, j1, j2, bne_self_eq_false, beq_self_eq_true, hh1, hh2, hd1, hd2, h5, h50, h6, h5n, h6n, hx, hg])
      | (refine And.intro ?ho ?_; (case ho => omega))
      | (clear hK; clear K))
  · rw [intD_same cs rs (rs ++ [x]) which reading day (by rw [recC_add]; simp [hitR, hh2])] at kj
    cases hr : rightC { c with s := which }
    · rw [hr] at kr
      cases hfc : findC cs which day with
      | none =>
        rw [hfc] at kf
        refine Contract.ofA (CallA.inline Try.func7 rfl (by kernel_rfl) (by kernel_rfl) (by kernel_rfl) ?_)
        rw [Try.ntmps7]
        repeat (first
      | (refine hK _ ?_; clear hK; clear K)
      | (refine aSeq fun K hK => ?_)
      | (refine aBlock ?_)
      | (refine aSkip ?_)
      | (refine aExit ?_)
      | (refine aRet ?_)
      | (refine aOps _ rfl (by kernel_rfl) ?_)
      | (refine aRunK _ rfl mixed (by kernel_rfl) (by kernel_rfl) fun KE hE => ?_)
      | (refine hE _ _ (by kernel_rfl) (intsOk_no rfl) ?_; clear hE; clear KE)
      | (refine hE _ _ (by kernel_rfl) (intsOk_yes ?hi ?hj) ?_; (case hi => (repeat (refine intsDead_updB rfl ?_)); exact intsDead_nil); (case hj => simp); clear hE; clear KE)
      | (refine aCondT rfl ?hc ?_; case hc => simp only [go_sem, ↓reduceIte, hres, hf1, hf2, j1, j2, bne_self_eq_false, beq_self_eq_true, hh1, hh2])
      | (refine aCondF rfl ?hc ?_; case hc => simp only [go_sem, ↓reduceIte, hres, hf1, hf2, j1, j2, bne_self_eq_false, beq_self_eq_true, hh1, hh2])
      | (refine callT_of (k1) ?_ ?_; rotate_left; (repeat (refine intsDead_updB rfl ?_)); exact intsDead_nil)
      | (refine callT_ofN (k1) ?_)
      | (refine callU_of (k1) rfl ?_)
      | (refine callU_ofN (k1) rfl ?_)
      | (refine callT_of (ki) ?_ ?_; rotate_left; (repeat (refine intsDead_updB rfl ?_)); exact intsDead_nil)
      | (refine callT_ofN (ki) ?_)
      | (refine callU_of (ki) rfl ?_)
      | (refine callU_ofN (ki) rfl ?_)
      | (refine callT_of (kj) ?_ ?_; rotate_left; (repeat (refine intsDead_updB rfl ?_)); exact intsDead_nil)
      | (refine callT_ofN (kj) ?_)
      | (refine callU_of (kj) rfl ?_)
      | (refine callU_ofN (kj) rfl ?_)
      | (refine callT_of (q4) ?_ ?_; rotate_left; (repeat (refine intsDead_updB rfl ?_)); exact intsDead_nil)
      | (refine callT_ofN (q4) ?_)
      | (refine callU_of (q4) rfl ?_)
      | (refine callU_ofN (q4) rfl ?_)
      | (refine callT_of (q5) ?_ ?_; rotate_left; (repeat (refine intsDead_updB rfl ?_)); exact intsDead_nil)
      | (refine callT_ofN (q5) ?_)
      | (refine callU_of (q5) rfl ?_)
      | (refine callU_ofN (q5) rfl ?_)
      | (refine callT_of (kf) ?_ ?_; rotate_left; (repeat (refine intsDead_updB rfl ?_)); exact intsDead_nil)
      | (refine callT_ofN (kf) ?_)
      | (refine callU_of (kf) rfl ?_)
      | (refine callU_ofN (kf) rfl ?_)
      | (refine callT_of (kr) ?_ ?_; rotate_left; (repeat (refine intsDead_updB rfl ?_)); exact intsDead_nil)
      | (refine callT_ofN (kr) ?_)
      | (refine callU_of (kr) rfl ?_)
      | (refine callU_ofN (kr) rfl ?_)
      | (refine callT_of (kg) ?_ ?_; rotate_left; (repeat (refine intsDead_updB rfl ?_)); exact intsDead_nil)
      | (refine callT_ofN (kg) ?_)
      | (refine callU_of (kg) rfl ?_)
      | (refine callU_ofN (kg) rfl ?_)
      | (simp only [go_sem, ↓reduceIte, hres, hf1, hf2, j1, j2, bne_self_eq_false, beq_self_eq_true, hh1, hh2])
      | (refine And.intro ?ho ?_; (case ho => omega))
      | (clear hK; clear K))
      | some b =>
        rw [hfc] at kf
        obtain ⟨hb, e, hx, _⟩ := findC_some hfc
        have h5 : (b : Int) ≥ 0 := by omega
        have h6 : (b : Int) < cs.length := by omega
        have h5n : ¬ (b : Int) < 0 := by omega
        have h6n : ¬ (b : Int) ≥ cs.length := by omega
        refine Contract.ofA (CallA.inline Try.func7 rfl (by kernel_rfl) (by kernel_rfl) (by kernel_rfl) ?_)
        rw [Try.ntmps7]
        repeat (first
      | (refine hK _ ?_; clear hK; clear K)
      | (refine aSeq fun K hK => ?_)
      | (refine aBlock ?_)
      | (refine aSkip ?_)
      | (refine aExit ?_)
      | (refine aRet ?_)
      | (refine aOps _ rfl (by kernel_rfl) ?_)
      | (refine aRunK _ rfl mixed (by kernel_rfl) (by kernel_rfl) fun KE hE => ?_)
      | (refine hE _ _ (by kernel_rfl) (intsOk_no rfl) ?_; clear hE; clear KE)
      | (refine hE _ _ (by kernel_rfl) (intsOk_yes ?hi ?hj) ?_; (case hi => (repeat (refine intsDead_updB rfl ?_)); exact intsDead_nil); (case hj => simp); clear hE; clear KE)
      | (refine aCondT rfl ?hc ?_; case hc => simp only [go_sem, ↓reduceIte, hres, hf1, hf2, j1, j2, bne_self_eq_false, beq_self_eq_true, hh1, hh2, h5, h6, h5n, h6n])
      | (refine aCondF rfl ?hc ?_; case hc => simp only [go_sem, ↓reduceIte, hres, hf1, hf2, j1, j2, bne_self_eq_false, beq_self_eq_true, hh1, hh2, h5, h6, h5n, h6n])
      | (refine callT_of (k1) ?_ ?_; rotate_left; (repeat (refine intsDead_updB rfl ?_)); exact intsDead_nil)
      | (refine callT_ofN (k1) ?_)
      | (refine callU_of (k1) rfl ?_)
      | (refine callU_ofN (k1) rfl ?_)
      | (refine callT_of (ki) ?_ ?_; rotate_left; (repeat (refine intsDead_updB rfl ?_)); exact intsDead_nil)
      | (refine callT_ofN (ki) ?_)
      | (refine callU_of (ki) rfl ?_)
      | (refine callU_ofN (ki) rfl ?_)
      | (refine callT_of (kj) ?_ ?_; rotate_left; (repeat (refine intsDead_updB rfl ?_)); exact intsDead_nil)
      | (refine callT_ofN (kj) ?_)
      | (refine callU_of (kj) rfl ?_)
      | (refine callU_ofN (kj) rfl ?_)
      | (refine callT_of (q4) ?_ ?_; rotate_left; (repeat (refine intsDead_updB rfl ?_)); exact intsDead_nil)
      | (refine callT_ofN (q4) ?_)
      | (refine callU_of (q4) rfl ?_)
      | (refine callU_ofN (q4) rfl ?_)
      | (refine callT_of (q5) ?_ ?_; rotate_left; (repeat (refine intsDead_updB rfl ?_)); exact intsDead_nil)
      | (refine callT_ofN (q5) ?_)
      | (refine callU_of (q5) rfl ?_)
      | (refine callU_ofN (q5) rfl ?_)
      | (refine callT_of (kf) ?_ ?_; rotate_left; (repeat (refine intsDead_updB rfl ?_)); exact intsDead_nil)
      | (refine callT_ofN (kf) ?_)
      | (refine callU_of (kf) rfl ?_)
      | (refine callU_ofN (kf) rfl ?_)
      | (refine callT_of (kr) ?_ ?_; rotate_left; (repeat (refine intsDead_updB rfl ?_)); exact intsDead_nil)
      | (refine callT_ofN (kr) ?_)
      | (refine callU_of (kr) rfl ?_)
      | (refine callU_ofN (kr) rfl ?_)
      | (refine callT_of (kg) ?_ ?_; rotate_left; (repeat (refine intsDead_updB rfl ?_)); exact intsDead_nil)
      | (refine callT_ofN (kg) ?_)
      | (refine callU_of (kg) rfl ?_)
      | (refine callU_ofN (kg) rfl ?_)
      | (simp only [go_sem, ↓reduceIte, hres, hf1, hf2, j1, j2, bne_self_eq_false, beq_self_eq_true, hh1, hh2, h5, h6, h5n, h6n])
      | (refine And.intro ?ho ?_; (case ho => omega))
      | (clear hK; clear K))
    rw [hr] at kr
    by_cases hd1 : c.f > day
    · cases hfc : findC cs which day with
      | none =>
        rw [hfc] at kf
        refine Contract.ofA (CallA.inline Try.func7 rfl (by kernel_rfl) (by kernel_rfl) (by kernel_rfl) ?_)
        rw [Try.ntmps7]
        repeat (first
      | (refine hK _ ?_; clear hK; clear K)
      | (refine aSeq fun K hK => ?_)
      | (refine aBlock ?_)
      | (refine aSkip ?_)
      | (refine aExit ?_)
      | (refine aRet ?_)
      | (refine aOps _ rfl (by kernel_rfl) ?_)
      | (refine aRunK _ rfl mixed (by kernel_rfl) (by kernel_rfl) fun KE hE => ?_)
      | (refine hE _ _ (by kernel_rfl) (intsOk_no rfl) ?_; clear hE; clear KE)
      | (refine hE _ _ (by kernel_rfl) (intsOk_yes ?hi ?hj) ?_; (case hi => (repeat (refine intsDead_updB rfl ?_)); exact intsDead_nil); (case hj => simp); clear hE; clear KE)
      | (refine aCondT rfl ?hc ?_; case hc => simp only [go_sem, ↓reduceIte, hres, hf1, hf2, j1, j2, bne_self_eq_false, beq_self_eq_true, hh1, hh2, hd1])
      | (refine aCondF rfl ?hc ?_; case hc => simp only [go_sem, ↓reduceIte, hres, hf1, hf2, j1, j2, bne_self_eq_false, beq_self_eq_true, hh1, hh2, hd1])
      | (refine callT_of (k1) ?_ ?_; rotate_left; (repeat (refine intsDead_updB rfl ?_)); exact intsDead_nil)
      | (refine callT_ofN (k1) ?_)
      | (refine callU_of (k1) rfl ?_)
      | (refine callU_ofN (k1) rfl ?_)
      | (refine callT_of (ki) ?_ ?_; rotate_left; (repeat (refine intsDead_updB rfl ?_)); exact intsDead_nil)
      | (refine callT_ofN (ki) ?_)
      | (refine callU_of (ki) rfl ?_)
      | (refine callU_ofN (ki) rfl ?_)
      | (refine callT_of (kj) ?_ ?_; rotate_left; (repeat (refine intsDead_updB rfl ?_)); exact intsDead_nil)
      | (refine callT_ofN (kj) ?_)
      | (refine callU_of (kj) rfl ?_)
      | (refine callU_ofN (kj) rfl ?_)
      | (refine callT_of (q4) ?_ ?_; rotate_left; (repeat (refine intsDead_updB rfl ?_)); exact intsDead_nil)
      | (refine callT_ofN (q4) ?_)
      | (refine callU_of (q4) rfl ?_)
      | (refine callU_ofN (q4) rfl ?_)
      | (refine callT_of (q5) ?_ ?_; rotate_left; (repeat (refine intsDead_updB rfl ?_)); exact intsDead_nil)
      | (refine callT_ofN (q5) ?_)
      | (refine callU_of (q5) rfl ?_)
      | (refine callU_ofN (q5) rfl ?_)
      | (refine callT_of (kf) ?_ ?_; rotate_left; (repeat (refine intsDead_updB rfl ?_)); exact intsDead_nil)
      | (refine callT_ofN (kf) ?_)
      | (refine callU_of (kf) rfl ?_)
      | (refine callU_ofN (kf) rfl ?_)
      | (refine callT_of (kr) ?_ ?_; rotate_left; (repeat (refine intsDead_updB rfl ?_)); exact intsDead_nil)
      | (refine callT_ofN (kr) ?_)
      | (refine callU_of (kr) rfl ?_)
      | (refine callU_ofN (kr) rfl ?_)
      | (refine callT_of (kg) ?_ ?_; rotate_left; (repeat (refine intsDead_updB rfl ?_)); exact intsDead_nil)
      | (refine callT_ofN (kg) ?_)
      | (refine callU_of (kg) rfl ?_)
      | (refine callU_ofN (kg) rfl ?_)
      | (simp only [go_sem, ↓reduceIte, hres, hf1, hf2, j1, j2, bne_self_eq_false, beq_self_eq_true, hh1, hh2, hd1])
      | (refine And.intro ?ho ?_; (case ho => omega))
      | (clear hK; clear K))
      | some b =>
        rw [hfc] at kf
        obtain ⟨hb, e, hx, _⟩ := findC_some hfc
        have h5 : (b : Int) ≥ 0 := by omega
        have h6 : (b : Int) < cs.length := by omega
        have h5n : ¬ (b : Int) < 0 := by omega
        have h6n : ¬ (b : Int) ≥ cs.length := by omega
        refine Contract.ofA (CallA.inline Try.func7 rfl (by kernel_rfl) (by kernel_rfl) (by kernel_rfl) ?_)
        rw [Try.ntmps7]
        repeat (first
      | (refine hK _ ?_; clear hK; clear K)
      | (refine aSeq fun K hK => ?_)
      | (refine aBlock ?_)
      | (refine aSkip ?_)
      | (refine aExit ?_)
      | (refine aRet ?_)
      | (refine aOps _ rfl (by kernel_rfl) ?_)
      | (refine aRunK _ rfl mixed (by kernel_rfl) (by kernel_rfl) fun KE hE => ?_)
      | (refine hE _ _ (by kernel_rfl) (intsOk_no rfl) ?_; clear hE; clear KE)
      | (refine hE _ _ (by kernel_rfl) (intsOk_yes ?hi ?hj) ?_; (case hi => (repeat (refine intsDead_updB rfl ?_)); exact intsDead_nil); (case hj => simp); clear hE; clear KE)
      | (refine aCondT rfl ?hc ?_; case hc => simp only [go_sem, ↓reduceIte, hres, hf1, hf2, j1, j2, bne_self_eq_false, beq_self_eq_true, hh1, hh2, hd1, h5, h6, h5n, h6n])
      | (refine aCondF rfl ?hc ?_; case hc => simp only [go_sem, ↓reduceIte, hres, hf1, hf2, j1, j2, bne_self_eq_false, beq_self_eq_true, hh1, hh2, hd1, h5, h6, h5n, h6n])
      | (refine callT_of (k1) ?_ ?_; rotate_left; (repeat (refine intsDead_updB rfl ?_)); exact intsDead_nil)
      | (refine callT_ofN (k1) ?_)
      | (refine callU_of (k1) rfl ?_)
      | (refine callU_ofN (k1) rfl ?_)
      | (refine callT_of (ki) ?_ ?_; rotate_left; (repeat (refine intsDead_updB rfl ?_)); exact intsDead_nil)
      | (refine callT_ofN (ki) ?_)
      | (refine callU_of (ki) rfl ?_)
      | (refine callU_ofN (ki) rfl ?_)
      | (refine callT_of (kj) ?_ ?_; rotate_left; (repeat (refine intsDead_updB rfl ?_)); exact intsDead_nil)
      | (refine callT_ofN (kj) ?_)
      | (refine callU_of (kj) rfl ?_)
      | (refine callU_ofN (kj) rfl ?_)
      | (refine callT_of (q4) ?_ ?_; rotate_left; (repeat (refine intsDead_updB rfl ?_)); exact intsDead_nil)
      | (refine callT_ofN (q4) ?_)
      | (refine callU_of (q4) rfl ?_)
      | (refine callU_ofN (q4) rfl ?_)
      | (refine callT_of (q5) ?_ ?_; rotate_left; (repeat (refine intsDead_updB rfl ?_)); exact intsDead_nil)
      | (refine callT_ofN (q5) ?_)
      | (refine callU_of (q5) rfl ?_)
      | (refine callU_ofN (q5) rfl ?_)
      | (refine callT_of (kf) ?_ ?_; rotate_left; (repeat (refine intsDead_updB rfl ?_)); exact intsDead_nil)
      | (refine callT_ofN (kf) ?_)
      | (refine callU_of (kf) rfl ?_)
      | (refine callU_ofN (kf) rfl ?_)
      | (refine callT_of (kr) ?_ ?_; rotate_left; (repeat (refine intsDead_updB rfl ?_)); exact intsDead_nil)
      | (refine callT_ofN (kr) ?_)
      | (refine callU_of (kr) rfl ?_)
      | (refine callU_ofN (kr) rfl ?_)
      | (refine callT_of (kg) ?_ ?_; rotate_left; (repeat (refine intsDead_updB rfl ?_)); exact intsDead_nil)
      | (refine callT_ofN (kg) ?_)
      | (refine callU_of (kg) rfl ?_)
      | (refine callU_ofN (kg) rfl ?_)
      | (simp only [go_sem, ↓reduceIte, hres, hf1, hf2, j1, j2, bne_self_eq_false, beq_self_eq_true, hh1, hh2, hd1, h5, h6, h5n, h6n])
      | (refine And.intro ?ho ?_; (case ho => omega))
      | (clear hK; clear K))
    by_cases hd2 : day > c.u
    · cases hfc : findC cs which day with
      | none =>
        rw [hfc] at kf
        refine Contract.ofA (CallA.inline Try.func7 rfl (by kernel_rfl) (by kernel_rfl) (by kernel_rfl) ?_)
        rw [Try.ntmps7]
        repeat (first
      | (refine hK _ ?_; clear hK; clear K)
      | (refine aSeq fun K hK => ?_)
      | (refine aBlock ?_)
      | (refine aSkip ?_)
      | (refine aExit ?_)
      | (refine aRet ?_)
      | (refine aOps _ rfl (by kernel_rfl) ?_)
      | (refine aRunK _ rfl mixed (by kernel_rfl) (by kernel_rfl) fun KE hE => ?_)
      | (refine hE _ _ (by kernel_rfl) (intsOk_no rfl) ?_; clear hE; clear KE)
      | (refine hE _ _ (by kernel_rfl) (intsOk_yes ?hi ?hj) ?_; (case hi => (repeat (refine intsDead_updB rfl ?_)); exact intsDead_nil); (case hj => simp); clear hE; clear KE)
      | (refine aCondT rfl ?hc ?_; case hc => simp only [go_sem, ↓reduceIte, hres, hf1, hf2, j1, j2, bne_self_eq_false, beq_self_eq_true, hh1, hh2, hd1, hd2])
      | (refine aCondF rfl ?hc ?_; case hc => simp only [go_sem, ↓reduceIte, hres, hf1, hf2, j1, j2, bne_self_eq_false, beq_self_eq_true, hh1, hh2, hd1, hd2])
      | (refine callT_of (k1) ?_ ?_; rotate_left; (repeat (refine intsDead_updB rfl ?_)); exact intsDead_nil)
      | (refine callT_ofN (k1) ?_)
      | (refine callU_of (k1) rfl ?_)
      | (refine callU_ofN (k1) rfl ?_)
      | (refine callT_of (ki) ?_ ?_; rotate_left; (repeat (refine intsDead_updB rfl ?_)); exact intsDead_nil)
      | (refine callT_ofN (ki) ?_)
      | (refine callU_of (ki) rfl ?_)
      | (refine callU_ofN (ki) rfl ?_)
      | (refine callT_of (kj) ?_ ?_; rotate_left; (repeat (refine intsDead_updB rfl ?_)); exact intsDead_nil)
      | (refine callT_ofN (kj) ?_)
      | (refine callU_of (kj) rfl ?_)
      | (refine callU_ofN (kj) rfl ?_)
      | (refine callT_of (q4) ?_ ?_; rotate_left; (repeat (refine intsDead_updB rfl ?_)); exact intsDead_nil)
      | (refine callT_ofN (q4) ?_)
      | (refine callU_of (q4) rfl ?_)
      | (refine callU_ofN (q4) rfl ?_)
      | (refine callT_of (q5) ?_ ?_; rotate_left; (repeat (refine intsDead_updB rfl ?_)); exact intsDead_nil)
      | (refine callT_ofN (q5) ?_)
      | (refine callU_of (q5) rfl ?_)
      | (refine callU_ofN (q5) rfl ?_)
      | (refine callT_of (kf) ?_ ?_; rotate_left; (repeat (refine intsDead_updB rfl ?_)); exact intsDead_nil)
      | (refine callT_ofN (kf) ?_)
      | (refine callU_of (kf) rfl ?_)
      | (refine callU_ofN (kf) rfl ?_)
      | (refine callT_of (kr) ?_ ?_; rotate_left; (repeat (refine intsDead_updB rfl ?_)); exact intsDead_nil)
      | (refine callT_ofN (kr) ?_)
      | (refine callU_of (kr) rfl ?_)
      | (refine callU_ofN (kr) rfl ?_)
      | (refine callT_of (kg) ?_ ?_; rotate_left; (repeat (refine intsDead_updB rfl ?_)); exact intsDead_nil)
      | (refine callT_ofN (kg) ?_)
      | (refine callU_of (kg) rfl ?_)
      | (refine callU_ofN (kg) rfl ?_)
      | (simp only [go_sem, ↓reduceIte, hres, hf1, hf2, j1, j2, bne_self_eq_false, beq_self_eq_true, hh1, hh2, hd1, hd2])
      | (refine And.intro ?ho ?_; (case ho => omega))
      | (clear hK; clear K))
      | some b =>
        rw [hfc] at kf
        obtain ⟨hb, e, hx, _⟩ := findC_some hfc
        have h5 : (b : Int) ≥ 0 := by omega
        have h6 : (b : Int) < cs.length := by omega
        have h5n : ¬ (b : Int) < 0 := by omega
        have h6n : ¬ (b : Int) ≥ cs.length := by omega
        refine Contract.ofA (CallA.inline Try.func7 rfl (by kernel_rfl) (by kernel_rfl) (by kernel_rfl) ?_)
        rw [Try.ntmps7]
        repeat (first
      | (refine hK _ ?_; clear hK; clear K)
      | (refine aSeq fun K hK => ?_)
      | (refine aBlock ?_)
      | (refine aSkip ?_)
      | (refine aExit ?_)
      | (refine aRet ?_)
      | (refine aOps _ rfl (by kernel_rfl) ?_)
      | (refine aRunK _ rfl mixed (by kernel_rfl) (by kernel_rfl) fun KE hE => ?_)
      | (refine hE _ _ (by kernel_rfl) (intsOk_no rfl) ?_; clear hE; clear KE)
      | (refine hE _ _ (by kernel_rfl) (intsOk_yes ?hi ?hj) ?_; (case hi => (repeat (refine intsDead_updB rfl ?_)); exact intsDead_nil); (case hj => simp); clear hE; clear KE)
      | (refine aCondT rfl ?hc ?_; case hc => simp only [go_sem, ↓reduceIte, hres, hf1, hf2, j1, j2, bne_self_eq_false, beq_self_eq_true, hh1, hh2, hd1, hd2, h5, h6, h5n, h6n])
      | (refine aCondF rfl ?hc ?_; case hc => simp only [go_sem, ↓reduceIte, hres, hf1, hf2, j1, j2, bne_self_eq_false, beq_self_eq_true, hh1, hh2, hd1, hd2, h5, h6, h5n, h6n])
      | (refine callT_of (k1) ?_ ?_; rotate_left; (repeat (refine intsDead_updB rfl ?_)); exact intsDead_nil)
      | (refine callT_ofN (k1) ?_)
      | (refine callU_of (k1) rfl ?_)
      | (refine callU_ofN (k1) rfl ?_)
      | (refine callT_of (ki) ?_ ?_; rotate_left; (repeat (refine intsDead_updB rfl ?_)); exact intsDead_nil)
      | (refine callT_ofN (ki) ?_)
      | (refine callU_of (ki) rfl ?_)
      | (refine callU_ofN (ki) rfl ?_)
      | (refine callT_of (kj) ?_ ?_; rotate_left; (repeat (refine intsDead_updB rfl ?_)); exact intsDead_nil)
      | (refine callT_ofN (kj) ?_)
      | (refine callU_of (kj) rfl ?_)
      | (refine callU_ofN (kj) rfl ?_)
      | (refine callT_of (q4) ?_ ?_; rotate_left; (repeat (refine intsDead_updB rfl ?_)); exact intsDead_nil)
      | (refine callT_ofN (q4) ?_)
      | (refine callU_of (q4) rfl ?_)
      | (refine callU_ofN (q4) rfl ?_)
      | (refine callT_of (q5) ?_ ?_; rotate_left; (repeat (refine intsDead_updB rfl ?_)); exact intsDead_nil)
      | (refine callT_ofN (q5) ?_)
      | (refine callU_of (q5) rfl ?_)
      | (refine callU_ofN (q5) rfl ?_)
      | (refine callT_of (kf) ?_ ?_; rotate_left; (repeat (refine intsDead_updB rfl ?_)); exact intsDead_nil)
      | (refine callT_ofN (kf) ?_)
      | (refine callU_of (kf) rfl ?_)
      | (refine callU_ofN (kf) rfl ?_)
      | (refine callT_of (kr) ?_ ?_; rotate_left; (repeat (refine intsDead_updB rfl ?_)); exact intsDead_nil)
      | (refine callT_ofN (kr) ?_)
      | (refine callU_of (kr) rfl ?_)
      | (refine callU_ofN (kr) rfl ?_)
      | (refine callT_of (kg) ?_ ?_; rotate_left; (repeat (refine intsDead_updB rfl ?_)); exact intsDead_nil)
      | (refine callT_ofN (kg) ?_)
      | (refine callU_of (kg) rfl ?_)
      | (refine callU_ofN (kg) rfl ?_)
      | (simp only [go_sem, ↓reduceIte, hres, hf1, hf2, j1, j2, bne_self_eq_false, beq_self_eq_true, hh1, hh2, hd1, hd2, h5, h6, h5n, h6n])
      | (refine And.intro ?ho ?_; (case ho => omega))
      | (clear hK; clear K))
    have how : ownC { c with s := which } which day = true := by simp [ownC, coversC, hr]; omega
    cases hfc : findC cs which day with
    | none =>
      rw [hfc] at kf
      rw [findC_add how (by rw [hfc]; rfl)] at kg
      refine Contract.ofA (CallA.inline Try.func7 rfl (by kernel_rfl) (by kernel_rfl) (by kernel_rfl) ?_)
      rw [Try.ntmps7]
      repeat (first
      | (refine hK _ ?_; clear hK; clear K)
      | (refine aSeq fun K hK => ?_)
      | (refine aBlock ?_)
      | (refine aSkip ?_)
      | (refine aExit ?_)
      | (refine aRet ?_)
      | (refine aOps _ rfl (by kernel_rfl) ?_)
      | (refine aRunK _ rfl mixed (by kernel_rfl) (by kernel_rfl) fun KE hE => ?_)
      | (refine hE _ _ (by kernel_rfl) (intsOk_no rfl) ?_; clear hE; clear KE)
      | (refine hE _ _ (by kernel_rfl) (intsOk_yes ?hi ?hj) ?_; (case hi => (repeat (refine intsDead_updB rfl ?_)); exact intsDead_nil); (case hj => simp); clear hE; clear KE)
      | (refine aCondT rfl ?hc ?_; case hc => simp only [go_sem, ↓reduceIte, hres, hf1, hf2, j1, j2, bne_self_eq_false, beq_self_eq_true, hh1, hh2, hd1, hd2])
      | (refine aCondF rfl ?hc ?_; case hc => simp only [go_sem, ↓reduceIte, hres, hf1, hf2, j1, j2, bne_self_eq_false, beq_self_eq_true, hh1, hh2, hd1, hd2])
      | (refine callT_of (k1) ?_ ?_; rotate_left; (repeat (refine intsDead_updB rfl ?_)); exact intsDead_nil)
      | (refine callT_ofN (k1) ?_)
      | (refine callU_of (k1) rfl ?_)
      | (refine callU_ofN (k1) rfl ?_)
      | (refine callT_of (ki) ?_ ?_; rotate_left; (repeat (refine intsDead_updB rfl ?_)); exact intsDead_nil)
      | (refine callT_ofN (ki) ?_)
      | (refine callU_of (ki) rfl ?_)
      | (refine callU_ofN (ki) rfl ?_)
      | (refine callT_of (kj) ?_ ?_; rotate_left; (repeat (refine intsDead_updB rfl ?_)); exact intsDead_nil)
      | (refine callT_ofN (kj) ?_)
      | (refine callU_of (kj) rfl ?_)
      | (refine callU_ofN (kj) rfl ?_)
      | (refine callT_of (q4) ?_ ?_; rotate_left; (repeat (refine intsDead_updB rfl ?_)); exact intsDead_nil)
      | (refine callT_ofN (q4) ?_)
      | (refine callU_of (q4) rfl ?_)
      | (refine callU_ofN (q4) rfl ?_)
      | (refine callT_of (q5) ?_ ?_; rotate_left; (repeat (refine intsDead_updB rfl ?_)); exact intsDead_nil)
      | (refine callT_ofN (q5) ?_)
      | (refine callU_of (q5) rfl ?_)
      | (refine callU_ofN (q5) rfl ?_)
      | (refine callT_of (kf) ?_ ?_; rotate_left; (repeat (refine intsDead_updB rfl ?_)); exact intsDead_nil)
      | (refine callT_ofN (kf) ?_)
      | (refine callU_of (kf) rfl ?_)
      | (refine callU_ofN (kf) rfl ?_)
      | (refine callT_of (kr) ?_ ?_; rotate_left; (repeat (refine intsDead_updB rfl ?_)); exact intsDead_nil)
      | (refine callT_ofN (kr) ?_)
      | (refine callU_of (kr) rfl ?_)
      | (refine callU_ofN (kr) rfl ?_)
      | (refine callT_of (kg) ?_ ?_; rotate_left; (repeat (refine intsDead_updB rfl ?_)); exact intsDead_nil)
      | (refine callT_ofN (kg) ?_)
      | (refine callU_of (kg) rfl ?_)
      | (refine callU_ofN (kg) rfl ?_)
      | (simp only [go_sem, ↓reduceIte, hres, hf1, hf2, j1, j2, bne_self_eq_false, beq_self_eq_true, hh1, hh2, hd1, hd2])
      | (refine And.intro ?ho ?_; (case ho => omega))
      | (clear hK; clear K))
    | some b =>
      rw [hfc] at kf
      obtain ⟨hb, e, hx, _⟩ := findC_some hfc
      have h5 : (b : Int) ≥ 0 := by omega
      have h6 : (b : Int) < cs.length := by omega
      have h5n : ¬ (b : Int) < 0 := by omega
      have h6n : ¬ (b : Int) ≥ cs.length := by omega
      have h50 : (0 : Int) ≤ b := h5
      by_cases hg : e.f > c.f
      · skip
        refine Contract.ofA (CallA.inline Try.func7 rfl (by kernel_rfl) (by kernel_rfl) (by kernel_rfl) ?_)
        rw [Try.ntmps7]
        repeat (first
      | (refine hK _ ?_; clear hK; clear K)
      | (refine aSeq fun K hK => ?_)
      | (refine aBlock ?_)
      | (refine aSkip ?_)
      | (refine aExit ?_)
      | (refine aRet ?_)
      | (refine aOps _ rfl (by kernel_rfl) ?_)
      | (refine aRunK _ rfl mixed (by kernel_rfl) (by kernel_rfl) fun KE hE => ?_)
      | (refine hE _ _ (by kernel_rfl) (intsOk_no rfl) ?_; clear hE; clear KE)
      | (refine hE _ _ (by kernel_rfl) (intsOk_yes ?hi ?hj) ?_; (case hi => (repeat (refine intsDead_updB rfl ?_)); exact intsDead_nil); (case hj => simp); clear hE; clear KE)
      | (refine aCondT rfl ?hc ?_; case hc => simp only [go_sem, ↓reduceIte, hres, hf1, hf2, j1, j2, bne_self_eq_false, beq_self_eq_true, hh1, hh2, hd1, hd2, h5, h50, h6, h5n, h6n, hx, hg])
      | (refine aCondF rfl ?hc ?_; case hc => simp only [go_sem, ↓reduceIte, hres, hf1, hf2, j1, j2, bne_self_eq_false, beq_self_eq_true, hh1, hh2, hd1, hd2, h5, h50, h6, h5n, h6n, hx, hg])
      | (refine callT_of (k1) ?_ ?_; rotate_left; (repeat (refine intsDead_updB rfl ?_)); exact intsDead_nil)
      | (refine callT_ofN (k1) ?_)
      | (refine callU_of (k1) rfl ?_)
      | (refine callU_ofN (k1) rfl ?_)
      | (refine callT_of (ki) ?_ ?_; rotate_left; (repeat (refine intsDead_updB rfl ?_)); exact intsDead_nil)
      | (refine callT_ofN (ki) ?_)
      | (refine callU_of (ki) rfl ?_)
      | (refine callU_ofN (ki) rfl ?_)
      | (refine callT_of (kj) ?_ ?_; rotate_left; (repeat (refine intsDead_updB rfl ?_)); exact intsDead_nil)
      | (refine callT_ofN (kj) ?_)
      | (refine callU_of (kj) rfl ?_)
      | (refine callU_ofN (kj) rfl ?_)
      | (refine callT_of (q4) ?_ ?_; rotate_left; (repeat (refine intsDead_updB rfl ?_)); exact intsDead_nil)
      | (refine callT_ofN (q4) ?_)
      | (refine callU_of (q4) rfl ?_)
      | (refine callU_ofN (q4) rfl ?_)
      | (refine callT_of (q5) ?_ ?_; rotate_left; (repeat (refine intsDead_updB rfl ?_)); exact intsDead_nil)
      | (refine callT_ofN (q5) ?_)
      | (refine callU_of (q5) rfl ?_)
      | (refine callU_ofN (q5) rfl ?_)
      | (refine callT_of (kf) ?_ ?_; rotate_left; (repeat (refine intsDead_updB rfl ?_)); exact intsDead_nil)
      | (refine callT_ofN (kf) ?_)
      | (refine callU_of (kf) rfl ?_)
      | (refine callU_ofN (kf) rfl ?_)
      | (refine callT_of (kr) ?_ ?_; rotate_left; (repeat (refine intsDead_updB rfl ?_)); exact intsDead_nil)
      | (refine callT_ofN (kr) ?_)
      | (refine callU_of (kr) rfl ?_)
      | (refine callU_ofN (kr) rfl ?_)
      | (refine callT_of (kg) ?_ ?_; rotate_left; (repeat (refine intsDead_updB rfl ?_)); exact intsDead_nil)
      | (refine callT_ofN (kg) ?_)
      | (refine callU_of (kg) rfl ?_)
      | (refine callU_ofN (kg) rfl ?_)
      | (simp only [go_sem, ↓reduceIte, hres, hf1, hf2, j1, j2, bne_self_eq_false, beq_self_eq_true, hh1, hh2, hd1, hd2, h5, h50, h6, h5n, h6n, hx, hg])
      | (refine And.intro ?ho ?_; (case ho => omega))
      | (clear hK; clear K))
      · rw [findC_add how (by rw [hfc]; simp [takesC, hx]; omega)] at kg
        refine Contract.ofA (CallA.inline Try.func7 rfl (by kernel_rfl) (by kernel_rfl) (by kernel_rfl) ?_)
        rw [Try.ntmps7]
        repeat (first
      | (refine hK _ ?_; clear hK; clear K)
      | (refine aSeq fun K hK => ?_)
      | (refine aBlock ?_)
      | (refine aSkip ?_)
      | (refine aExit ?_)
      | (refine aRet ?_)
      | (refine aOps _ rfl (by kernel_rfl) ?_)
      | (refine aRunK _ rfl mixed (by kernel_rfl) (by kernel_rfl) fun KE hE => ?_)
      | (refine hE _ _ (by kernel_rfl) (intsOk_no rfl) ?_; clear hE; clear KE)
      | (refine hE _ _ (by kernel_rfl) (intsOk_yes ?hi ?hj) ?_; (case hi => (repeat (refine intsDead_updB rfl ?_)); exact intsDead_nil); (case hj => simp); clear hE; clear KE)
      | (refine aCondT rfl ?hc ?_; case hc => simp only [go_sem, ↓reduceIte, hres, hf1, hf2, j1, j2, bne_self_eq_false, beq_self_eq_true, hh1, hh2, hd1, hd2, h5, h50, h6, h5n, h6n, hx, hg])
      | (refine aCondF rfl ?hc ?_; case hc => simp only [go_sem, ↓reduceIte, hres, hf1, hf2, j1, j2, bne_self_eq_false, beq_self_eq_true, hh1, hh2, hd1, hd2, h5, h50, h6, h5n, h6n, hx, hg])
      | (refine callT_of (k1) ?_ ?_; rotate_left; (repeat (refine intsDead_updB rfl ?_)); exact intsDead_nil)
      | (refine callT_ofN (k1) ?_)
      | (refine callU_of (k1) rfl ?_)
      | (refine callU_ofN (k1) rfl ?_)
      | (refine callT_of (ki) ?_ ?_; rotate_left; (repeat (refine intsDead_updB rfl ?_)); exact intsDead_nil)
      | (refine callT_ofN (ki) ?_)
      | (refine callU_of (ki) rfl ?_)
      | (refine callU_ofN (ki) rfl ?_)
      | (refine callT_of (kj) ?_ ?_; rotate_left; (repeat (refine intsDead_updB rfl ?_)); exact intsDead_nil)
      | (refine callT_ofN (kj) ?_)
      | (refine callU_of (kj) rfl ?_)
      | (refine callU_ofN (kj) rfl ?_)
      | (refine callT_of (q4) ?_ ?_; rotate_left; (repeat (refine intsDead_updB rfl ?_)); exact intsDead_nil)
      | (refine callT_ofN (q4) ?_)
      | (refine callU_of (q4) rfl ?_)
      | (refine callU_ofN (q4) rfl ?_)
      | (refine callT_of (q5) ?_ ?_; rotate_left; (repeat (refine intsDead_updB rfl ?_)); exact intsDead_nil)
      | (refine callT_ofN (q5) ?_)
      | (refine callU_of (q5) rfl ?_)
      | (refine callU_ofN (q5) rfl ?_)
      | (refine callT_of (kf) ?_ ?_; rotate_left; (repeat (refine intsDead_updB rfl ?_)); exact intsDead_nil)
      | (refine callT_ofN (kf) ?_)
      | (refine callU_of (kf) rfl ?_)
      | (refine callU_ofN (kf) rfl ?_)
      | (refine callT_of (kr) ?_ ?_; rotate_left; (repeat (refine intsDead_updB rfl ?_)); exact intsDead_nil)
      | (refine callT_ofN (kr) ?_)
      | (refine callU_of (kr) rfl ?_)
      | (refine callU_ofN (kr) rfl ?_)
      | (refine callT_of (kg) ?_ ?_; rotate_left; (repeat (refine intsDead_updB rfl ?_)); exact intsDead_nil)
      | (refine callT_ofN (kg) ?_)
      | (refine callU_of (kg) rfl ?_)
      | (refine callU_ofN (kg) rfl ?_)
      | (simp only [go_sem, ↓reduceIte, hres, hf1, hf2, j1, j2, bne_self_eq_false, beq_self_eq_true, hh1, hh2, hd1, hd2, h5, h50, h6, h5n, h6n, hx, hg])
      | (refine And.intro ?ho ?_; (case ho => omega))
      | (clear hK; clear K))
end Go.Proofs.Ytenmlcpbjjlokaa

/-
  The statement ScaleRecalls, joined: the frame round the law's contract: the law returns true for every input, and each argument reads behind the call as it read before.
-/
namespace Go.Proofs.Ytenmlcpbjjlokaa.scaleRecallsDone
set_option linter.unusedVariables false
set_option linter.unusedSimpArgs false
open Go.ChangeShapes Go.WideShapes Go.ChangeAt Go.RowKit
set_option linter.unusedVariables false

theorem own : ownKnob Try.prog.godebug = none := by kernel_rfl
theorem laidOut : laidOutB Try.prog = true := by kernel_rfl

set_option maxRecDepth 100000 in
theorem lifted (os : Os) (started : os.Started) (H : Type) (enc : TypeId × Value → H) :
    ReturnsInHanded {} Try.checked os 7 .any (Rows.scaleRecallsSpec.pre6 enc Try.prog Try.f7 Rows.scaleRecallsRow.domain false) (Rows.scaleRecallsSpec.post enc Try.prog Try.f7 false true false false) := by
  refine returnsInHanded_of_change (C := Try.checked) own started (by kernel_rfl) Try.func7
    (ChangeSpec.witness6 (enc := enc) (C := Try.checked) false ⟨#[], #[.slice none 0 0, .slice none 0 0, .int .i64 0, .int .i64 0, .int .i64 0, .agg #[.int .i64 0, .int .i64 0], .agg #[.int .i64 0, .int .i64 0, .int .i64 0, .int .i64 0, .int .i64 0, .int .i64 0]], []⟩ 8 (by kernel_rfl) (by kernel_rfl) (by kernel_rfl) (by kernel_rfl)) ?_
  intro W base args ds gs before hval0 hW hcnd _
  have hval : ∀ (j : Nat) t v, Try.f7.params[j]? = some t → args[j]? = some v → Value.okWide Try.prog W .any base t v := hval0
  have hW' := hW
  obtain ⟨p, q, hA0, hV, rfl, hfz, hnd⟩ := hW
  have hA : DataW.TrodAll enc Try.prog W 0 (fun _ => true) true Try.f7.params.toList args.toList ds p := hA0
  rw [Try.params7] at hA hval
  obtain ⟨v0, vs0, d0, ds0, p0, q0, hargs, rfl, rfl, h0, r0⟩ := trodAll_cons hA
  obtain ⟨v1, vs1, d1, ds1, p1, q1, rfl, rfl, rfl, h1, r1⟩ := trodAll_cons r0
  obtain ⟨v2, vs2, d2, ds2, p2, q2, rfl, rfl, rfl, h2, r2⟩ := trodAll_cons r1
  obtain ⟨v3, vs3, d3, ds3, p3, q3, rfl, rfl, rfl, h3, r3⟩ := trodAll_cons r2
  obtain ⟨v4, vs4, d4, ds4, p4, q4, rfl, rfl, rfl, h4, r4⟩ := trodAll_cons r3
  obtain ⟨v5, vs5, d5, ds5, p5, q5, rfl, rfl, rfl, h5, r5⟩ := trodAll_cons r4
  obtain ⟨v6, vs6, d6, ds6, p6, q6, rfl, rfl, rfl, h6, r6⟩ := trodAll_cons r5
  obtain ⟨rfl, rfl, rfl⟩ := trodAll_nil r6
  obtain rfl : args = #[v0, v1, v2, v3, v4, v5, v6] := by cases args; simp_all
  obtain ⟨rfl, rfl⟩ := trodVars_none hV
  have k0 := h0
  have lt0 : ∀ x ∈ p0, x.block < W.heap.size := by obtain ⟨m, hm⟩ := k0; exact DataW.trod_lt m _ _ _ hm
  obtain ⟨es0, z0, sh0, w0⟩ := repA_slice (n := 4) Try.underlying22 (by kernel_rfl) (hval 0 22 v0 rfl rfl) h0
  obtain ⟨l0, rfl⟩ := map_of_all (f := cC) (fun x hx => cert_of (sh0 x hx))
  have k1 := h1
  have lt1 : ∀ x ∈ p1, x.block < W.heap.size := by obtain ⟨m, hm⟩ := k1; exact DataW.trod_lt m _ _ _ hm
  obtain ⟨es1, z1, sh1, w1⟩ := repA_slice (n := 4) Try.underlying23 (by kernel_rfl) (hval 1 23 v1 rfl rfl) h1
  obtain ⟨l1, rfl⟩ := map_of_all (f := cR) (fun x hx => rec_of (sh1 x hx))
  obtain ⟨a2, rfl, rfl, rfl, w2⟩ := open_int Try.underlying3 (hval 2 3 v2 rfl rfl) h2
  obtain ⟨a3, rfl, rfl, rfl, w3⟩ := open_int Try.underlying3 (hval 3 3 v3 rfl rfl) h3
  obtain ⟨a4, rfl, rfl, rfl, w4⟩ := open_int Try.underlying3 (hval 4 3 v4 rfl rfl) h4
  have k5 := h5
  have lt5 : ∀ x ∈ p5, x.block < W.heap.size := by obtain ⟨m, hm⟩ := k5; exact DataW.trod_lt m _ _ _ hm
  obtain ⟨cs5, sh5, w5⟩ := repA_struct (n := 4) Try.underlying52 (by kernel_rfl) (hval 5 52 v5 rfl rfl) h5
  obtain ⟨c5, rfl⟩ := rec_of sh5
  have k6 := h6
  have lt6 : ∀ x ∈ p6, x.block < W.heap.size := by obtain ⟨m, hm⟩ := k6; exact DataW.trod_lt m _ _ _ hm
  obtain ⟨cs6, sh6, w6⟩ := repA_struct (n := 4) Try.underlying25 (by kernel_rfl) (hval 6 25 v6 rfl rfl) h6
  obtain ⟨c6, rfl⟩ := cert_of sh6
  clear hA0 hval0
  have hc := (recalls13_c l0 l1 a2 a3 a4 c5 c6).2 allS W [v0, v1, .int .i64 a2, .int .i64 a3, .int .i64 a4, v5, v6] (fun _ _ _ => trivial) (fun _ _ _ _ _ => trivial) (Reps.cons (w0) (Reps.cons (w1) (Reps.cons (.v _) (Reps.cons (.v _) (Reps.cons (.v _) (Reps.cons (w5) (Reps.cons (w6) (Reps.nil))))))))
  refine hc.mono fun e W' he => ?_
  obtain ⟨u, rfl, bel, hu⟩ := he
  rw [hu.inv_v]
  exact ⟨_, rfl, _, _, _, [], _, [], hW', trodAll_mk1 (shut_bool Try.underlying4 _), (trodAll_cons_mk (Below.trod laidOut (by kernel_rfl) (of_decide_eq_true (by kernel_rfl)) k0 bel lt0) (trodAll_cons_mk (Below.trod laidOut (by kernel_rfl) (of_decide_eq_true (by kernel_rfl)) k1 bel lt1) (trodAll_cons_mk (shut_int Try.underlying3 w2) (trodAll_cons_mk (shut_int Try.underlying3 w3) (trodAll_cons_mk (shut_int Try.underlying3 w4) (trodAll_cons_mk (Below.trod laidOut (by kernel_rfl) (of_decide_eq_true (by kernel_rfl)) k5 bel lt5) (trodAll_cons_mk (Below.trod laidOut (by kernel_rfl) (of_decide_eq_true (by kernel_rfl)) k6 bel lt6) (trodAll_mk0)))))))), rfl, bel.frame _, fun h => by cases h⟩

theorem over : Rows.scaleRecallsRow.holds Try.pinned (OpenSpec.ofChange Rows.scaleRecallsSpec) :=
  OpenClaim.holds_of_wide 7 Try.f7 rfl rfl rfl rfl rfl rfl rfl ⟨rfl, rfl, rfl, rfl, rfl⟩ rfl rfl rfl rfl rfl (by kernel_rfl) Try.func7 (by kernel_rfl)
    (of_decide_eq_true (by kernel_rfl)) (by unfold Func.isWrapper; first | (rw [if_pos (by decide +kernel)]; kernel_rfl) | (rw [if_neg (by decide +kernel)]; exact ⟨rfl, rfl⟩))
    (fun os started H enc _ => lifted os started H enc)

/-- The statement. -/
theorem proved : Rows.ScaleRecallsSaid := over
end Go.Proofs.Ytenmlcpbjjlokaa.scaleRecallsDone
