/-
  What is small; the examples' helpers: of, term, holds, mixed.
-/
import Derived.Test.YtenmlcpbjjlokaaMLinB

/-
  What is small; the examples' helpers: of, term, holds, mixed.
-/
namespace Go.Proofs.Ytenmlcpbjjlokaa
set_option linter.unusedVariables false
set_option linter.unusedSimpArgs false
open Go Go.RowKit
attribute [local go_sem] opsL_nil opsL_go opsL_guard gSel_tt gSel_ff gSel_tf gSel_ft stepR_some stepR_none callS_some callE_some runL_nil runL_go runL_guard gSelE_tt gSelE_ff gSelE_tf gSelE_ft stepE_some stepE_none opF callD rd constD putT upd_get guardL gOf_bool gOf_undef fieldAddrF fieldF loadF storeF indexAddrF indexF sliceF strSliceF bound buildF fillF buildSliceF elemsF allocF makeSliceF lenF elemsOf appendF minmaxF convertF boxF ldE blkAt spliceE D.cells? D.isCell Res.pure ov TyI.agg binD unD boolD initT thenA inBlockA argD argDs refsD refsL killW datJ datJs endA_ret endA_normal endR_some oneD_one oneD_two oneD_three oneD_four resDs resD fzT Value.oneCell' strip tabT tabM
attribute [local go_sem] List.map Nat.reduceEqDiff Nat.reduceBEq List.getElem?_cons_zero List.getElem?_cons_succ List.getElem?_nil Option.getD_some Option.getD_none true_and and_true true_or or_true false_or or_false and_self Nat.add_zero Nat.zero_add List.length_nil List.length_cons forall_const ite_true ite_false Bool.or_self Bool.false_eq_true Option.map_some Option.map_none beq_self_eq_true Nat.reduceAdd Nat.reduceSub Nat.reduceMul reduceCtorEq List.getElem?_toArray Bool.not_true Bool.not_false decide_eq_true_eq decide_true decide_false Nat.reduceLeDiff Nat.reduceLT Bool.or_false Bool.or_true Bool.and_true Bool.and_false Bool.false_and Bool.true_and Bool.true_beq Bool.false_beq beq_true beq_false Bool.not_eq_true List.drop_succ_cons List.take_succ_cons List.drop_zero List.take_zero List.length_map List.getElem?_map List.length_append List.all_cons List.all_nil List.append_nil List.nil_append List.cons_append List.set_cons_zero List.set_cons_succ Int.toNat_natCast Int.toNat_zero Option.isSome_some Option.isSome_none Array.size_empty ByteArray.size_empty Int.reduceToNat Int.reduceAdd Int.reduceSub Int.reduceLT Int.reduceLE Int.reduceEq Int.reduceNe Int.reduceBEq Int.reduceNeg List.forall_mem_cons List.not_mem_nil false_implies List.forall_mem_map implies_true Nat.reduceBNe Int.cast_ofNat_Int Int.reduceMul Int.reduceGE Int.reduceGT wrap_in ty_2 ty_3 ty_4 ty_5 ty_6 ty_7 ty_8 ty_9 ty_10 ty_11 ty_12 ty_13 ty_14 ty_18 ty_19 ty_21 ty_22 ty_23 ty_24 ty_25 ty_30 ty_31 ty_32 ty_33 ty_34 ty_44 ty_51 ty_52 ty_54 ty_55 ty_56 ty_57 ty_58 ty_74 ty_75 ty_78 ty_93 ty_94 ty_121 ty_122 ty_131 ty_132 ty_133 ty_134 ty_135 ty_137 ty_138 ty_139 ty_142 ty_143 ty_144 ty_145
set_option maxRecDepth 100000
set_option maxHeartbeats 2000000

def fewF (n : Int) (f : FracD) : Bool := decide ((f.p.d.length : Int) ≤ n) && decide ((f.q.d.length : Int) ≤ n)
def fewT (l : List TermD) (most n : Int) : Bool := decide ((l.length : Int) ≤ most) && l.all (fun t => fewF n t.f)
def fewP (x : List FracD) (most n : Int) : Bool := decide ((x.length : Int) ≤ most) && x.all (fewF n)
def fewS (s : SysD) (vars rows n : Int) : Bool := decide (s.n ≤ vars) && decide ((s.r.length : Int) ≤ rows) && s.r.all (fun w => fewT w.t vars n && fewF n w.v)
theorem fewF_sz {n : Int} {f : FracD} (h : fewF n f = true) : (szF f : Int) ≤ n := by
  simp only [fewF, Bool.and_eq_true, decide_eq_true_eq] at h
  unfold szF; omega
theorem fewF_sm {n : Int} (hn : n ≤ 4194304) {f : FracD} (h : fewF n f = true) : smF f := by have := fewF_sz h; unfold smF; omega
theorem fewT_sz {l : List TermD} {most n : Int} (h : fewT l most n = true) : (l.length : Int) ≤ most ∧ ∀ t ∈ l, (szF t.f : Int) ≤ n := by
  simp only [fewT, Bool.and_eq_true, decide_eq_true_eq] at h
  exact ⟨h.1, fun t ht => fewF_sz (List.all_eq_true.1 h.2 t ht)⟩
theorem fewT_sm {l : List TermD} {most n : Int} (hm : most ≤ 4096) (hn : n ≤ 4194304) (h : fewT l most n = true) : smT l := by
  obtain ⟨h1, h2⟩ := fewT_sz h
  exact ⟨by omega, fun t ht => by have := h2 t ht; unfold smF; omega⟩
theorem fewP_sz {x : List FracD} {most n : Int} (h : fewP x most n = true) : (x.length : Int) ≤ most ∧ ∀ f ∈ x, (szF f : Int) ≤ n := by
  simp only [fewP, Bool.and_eq_true, decide_eq_true_eq] at h
  exact ⟨h.1, fun t ht => fewF_sz (List.all_eq_true.1 h.2 t ht)⟩
theorem fewP_sm {x : List FracD} {most n : Int} (hm : most ≤ 4096) (hn : n ≤ 4194304) (h : fewP x most n = true) : smFs x := by
  obtain ⟨h1, h2⟩ := fewP_sz h
  exact ⟨by omega, fun t ht => by have := h2 t ht; unfold smF; omega⟩
theorem fewS_sm {s : SysD} {vars rows n : Int} (hv : vars ≤ 4096) (hr : rows ≤ 4096) (hn : n ≤ 4194304) (h : fewS s vars rows n = true) : smS s := by
  simp only [fewS, Bool.and_eq_true, decide_eq_true_eq] at h
  refine ⟨by omega, fun w hw => ?_⟩
  have := List.all_eq_true.1 h.2 w hw
  simp only [Bool.and_eq_true] at this
  exact ⟨fewT_sm hv hn this.1, fewF_sm hn this.2⟩

theorem fewT_c (l : List TermD) (most n : Int) (hm : 0 ≤ most ∧ most ≤ 4096) : ContractN Try.prog 32 [encTs l, dI most, dI n] (dB (fewT l most n)) := by
  refine Contract.toN ?_ rfl
  refine Contract.ofA (CallA.inline Try.func32 rfl (by kernel_rfl) (by kernel_rfl) (by kernel_rfl) ?_)
  rw [Try.ntmps32]
  have hres := Try.results32
  repeat (first
      | (refine hK _ ?_; clear hK; clear K)
      | (refine aSeq fun K hK => ?_)
      | (refine aBlock ?_)
      | (refine aSkip ?_)
      | (refine aExit ?_)
      | (refine aRet ?_)
      | (refine aOps _ rfl (by kernel_rfl) ?_)
      | (refine aRunK _ rfl mixed (by kernel_rfl) (by kernel_rfl) fun KE hE => ?_)
      | (refine hE _ _ (by kernel_rfl) (intsOk_no rfl) ?_; clear hE; clear KE)
      | (refine hE _ _ (by kernel_rfl) (intsOk_yes ?hi ?hj) ?_; (case hi => (repeat (refine intsDead_updB rfl ?_)); exact intsDead_nil); (case hj => simp); clear hE; clear KE)
      | (refine aCondT rfl ?hc ?_; case hc => simp only [go_sem, ↓reduceIte, hres])
      | (refine aCondF rfl ?hc ?_; case hc => simp only [go_sem, ↓reduceIte, hres])
      | (simp only [go_sem, ↓reduceIte, hres])
      | (refine And.intro ?ho ?_; (case ho => omega))
      | (clear hK; clear K))
  refine aLoopT (fun (k : Nat) => [(0, encTs l), (1, dI most), (2, dI n), (7, dI k)]) (fun _ => []) 0 0 (fun k => k ≤ l.length ∧ (k : Int) ≤ most + 1 ∧ (l.take k).all (fun t => fewF n t.f) = true) (fun k => l.length - k) 0 ⟨by omega, by omega, rfl⟩ ?_ ?_
  · refine le_head _ _ _ ?_ ?_ ?_ ?_ ?_ (.inl rfl) <;> simp [go_sem, okD, okDs, okBlk] <;> (first | (intros; subst_vars; simp [okD, okDs]; done) | (intro _ h; rcases h with ⟨_, _, rfl⟩ | rfl <;> simp [okD, okDs]; done) | (intros; rename_i h; rcases h with ⟨_, _, rfl⟩ | rfl <;> simp [okD, okDs]))
  · rintro k ⟨hk, hk2, hg⟩
    have hw : IntKind.i64.wrap ((k : Int) + 1) = (k : Int) + 1 := wrap_in (by omega) (by omega)
    have h0 : (0 : Int) ≤ k := by omega
    by_cases h1 : (k : Int) < l.length
    · by_cases h2 : (k : Int) ≤ most
      · obtain ⟨t, hx⟩ : ∃ e, l[k]? = some e := ⟨_, List.getElem?_eq_getElem (by omega)⟩
        have hc := (rfew_c t.f n).toN rfl
        have hd : (decide ((t.f.p.d.length : Int) ≤ n) && decide ((t.f.q.d.length : Int) ≤ n)) = fewF n t.f := rfl
        rw [hd] at hc
        cases h3 : fewF n t.f
        · rw [h3] at hc
          repeat (first
      | (refine hK _ ?_; clear hK; clear K)
      | (refine aSeq fun K hK => ?_)
      | (refine aBlock ?_)
      | (refine aSkip ?_)
      | (refine aExit ?_)
      | (refine aRet ?_)
      | (refine aOps _ rfl (by kernel_rfl) ?_)
      | (refine aRunK _ rfl mixed (by kernel_rfl) (by kernel_rfl) fun KE hE => ?_)
      | (refine hE _ _ (by kernel_rfl) (intsOk_no rfl) ?_; clear hE; clear KE)
      | (refine hE _ _ (by kernel_rfl) (intsOk_yes ?hi ?hj) ?_; (case hi => (repeat (refine intsDead_updB rfl ?_)); exact intsDead_nil); (case hj => simp); clear hE; clear KE)
      | (refine aCondT rfl ?hc ?_; case hc => simp only [go_sem, ↓reduceIte, hres, h0, h1, h2, hx, hw])
      | (refine aCondF rfl ?hc ?_; case hc => simp only [go_sem, ↓reduceIte, hres, h0, h1, h2, hx, hw])
      | (refine callT_of (hc) ?_ ?_; rotate_left; (repeat (refine intsDead_updB rfl ?_)); exact intsDead_nil)
      | (refine callT_ofN (hc) ?_)
      | (refine callU_of (hc) rfl ?_)
      | (refine callU_ofN (hc) rfl ?_)
      | (simp only [go_sem, ↓reduceIte, hres, h0, h1, h2, hx, hw])
      | (refine And.intro ?ho ?_; (case ho => omega))
      | (clear hK; clear K))
          exact bool_eq (by simp only [fewT, all_not (p := fun t : TermD => fewF n t.f) hx h3, Bool.and_false])
        · rw [h3] at hc
          repeat (first
      | (refine hK _ ?_; clear hK; clear K)
      | (refine aSeq fun K hK => ?_)
      | (refine aBlock ?_)
      | (refine aSkip ?_)
      | (refine aExit ?_)
      | (refine aRet ?_)
      | (refine aOps _ rfl (by kernel_rfl) ?_)
      | (refine aRunK _ rfl mixed (by kernel_rfl) (by kernel_rfl) fun KE hE => ?_)
      | (refine hE _ _ (by kernel_rfl) (intsOk_no rfl) ?_; clear hE; clear KE)
      | (refine hE _ _ (by kernel_rfl) (intsOk_yes ?hi ?hj) ?_; (case hi => (repeat (refine intsDead_updB rfl ?_)); exact intsDead_nil); (case hj => simp); clear hE; clear KE)
      | (refine aCondT rfl ?hc ?_; case hc => simp only [go_sem, ↓reduceIte, hres, h0, h1, h2, hx, hw])
      | (refine aCondF rfl ?hc ?_; case hc => simp only [go_sem, ↓reduceIte, hres, h0, h1, h2, hx, hw])
      | (refine callT_of (hc) ?_ ?_; rotate_left; (repeat (refine intsDead_updB rfl ?_)); exact intsDead_nil)
      | (refine callT_ofN (hc) ?_)
      | (refine callU_of (hc) rfl ?_)
      | (refine callU_ofN (hc) rfl ?_)
      | (simp only [go_sem, ↓reduceIte, hres, h0, h1, h2, hx, hw])
      | (refine And.intro ?ho ?_; (case ho => omega))
      | (clear hK; clear K))
          exact loop_end (k + 1) ⟨by omega, by omega, all_take_succ hx hg h3⟩ (by omega) (by refine le_head _ _ _ ?_ ?_ ?_ ?_ ?_ (.inl rfl) <;> simp [go_sem, okD, okDs, okBlk] <;> (first | (intros; subst_vars; simp [okD, okDs]; done) | (intro _ h; rcases h with ⟨_, _, rfl⟩ | rfl <;> simp [okD, okDs]; done) | (intros; rename_i h; rcases h with ⟨_, _, rfl⟩ | rfl <;> simp [okD, okDs])))
      · have h3 : ¬ (l.length : Int) ≤ most := by omega
        repeat (first
      | (refine hK _ ?_; clear hK; clear K)
      | (refine aSeq fun K hK => ?_)
      | (refine aBlock ?_)
      | (refine aSkip ?_)
      | (refine aExit ?_)
      | (refine aRet ?_)
      | (refine aOps _ rfl (by kernel_rfl) ?_)
      | (refine aRunK _ rfl mixed (by kernel_rfl) (by kernel_rfl) fun KE hE => ?_)
      | (refine hE _ _ (by kernel_rfl) (intsOk_no rfl) ?_; clear hE; clear KE)
      | (refine hE _ _ (by kernel_rfl) (intsOk_yes ?hi ?hj) ?_; (case hi => (repeat (refine intsDead_updB rfl ?_)); exact intsDead_nil); (case hj => simp); clear hE; clear KE)
      | (refine aCondT rfl ?hc ?_; case hc => simp only [go_sem, ↓reduceIte, hres, h1, h2, h3])
      | (refine aCondF rfl ?hc ?_; case hc => simp only [go_sem, ↓reduceIte, hres, h1, h2, h3])
      | (simp only [go_sem, ↓reduceIte, hres, h1, h2, h3])
      | (refine And.intro ?ho ?_; (case ho => omega))
      | (clear hK; clear K))
        exact bool_eq (by simp [fewT, h3])
    · rw [List.take_of_length_le (by omega)] at hg
      repeat (first
      | (refine hK _ ?_; clear hK; clear K)
      | (refine aSeq fun K hK => ?_)
      | (refine aBlock ?_)
      | (refine aSkip ?_)
      | (refine aExit ?_)
      | (refine aRet ?_)
      | (refine aOps _ rfl (by kernel_rfl) ?_)
      | (refine aRunK _ rfl mixed (by kernel_rfl) (by kernel_rfl) fun KE hE => ?_)
      | (refine hE _ _ (by kernel_rfl) (intsOk_no rfl) ?_; clear hE; clear KE)
      | (refine hE _ _ (by kernel_rfl) (intsOk_yes ?hi ?hj) ?_; (case hi => (repeat (refine intsDead_updB rfl ?_)); exact intsDead_nil); (case hj => simp); clear hE; clear KE)
      | (refine aCondT rfl ?hc ?_; case hc => simp only [go_sem, ↓reduceIte, hres, h1])
      | (refine aCondF rfl ?hc ?_; case hc => simp only [go_sem, ↓reduceIte, hres, h1])
      | (simp only [go_sem, ↓reduceIte, hres, h1])
      | (refine And.intro ?ho ?_; (case ho => omega))
      | (clear hK; clear K))
      exact bool_eq (by simp only [fewT, hg, Bool.and_true])
theorem fewP_c (x : List FracD) (most n : Int) (hm : 0 ≤ most ∧ most ≤ 4096) : ContractN Try.prog 34 [encFs x, dI most, dI n] (dB (fewP x most n)) := by
  refine Contract.toN ?_ rfl
  refine Contract.ofA (CallA.inline Try.func34 rfl (by kernel_rfl) (by kernel_rfl) (by kernel_rfl) ?_)
  rw [Try.ntmps34]
  have hres := Try.results34
  repeat (first
      | (refine hK _ ?_; clear hK; clear K)
      | (refine aSeq fun K hK => ?_)
      | (refine aBlock ?_)
      | (refine aSkip ?_)
      | (refine aExit ?_)
      | (refine aRet ?_)
      | (refine aOps _ rfl (by kernel_rfl) ?_)
      | (refine aRunK _ rfl mixed (by kernel_rfl) (by kernel_rfl) fun KE hE => ?_)
      | (refine hE _ _ (by kernel_rfl) (intsOk_no rfl) ?_; clear hE; clear KE)
      | (refine hE _ _ (by kernel_rfl) (intsOk_yes ?hi ?hj) ?_; (case hi => (repeat (refine intsDead_updB rfl ?_)); exact intsDead_nil); (case hj => simp); clear hE; clear KE)
      | (refine aCondT rfl ?hc ?_; case hc => simp only [go_sem, ↓reduceIte, hres])
      | (refine aCondF rfl ?hc ?_; case hc => simp only [go_sem, ↓reduceIte, hres])
      | (simp only [go_sem, ↓reduceIte, hres])
      | (refine And.intro ?ho ?_; (case ho => omega))
      | (clear hK; clear K))
  refine aLoopT (fun (k : Nat) => [(0, encFs x), (1, dI most), (2, dI n), (7, dI k)]) (fun _ => []) 0 0 (fun k => k ≤ x.length ∧ (k : Int) ≤ most + 1 ∧ (x.take k).all (fewF n) = true) (fun k => x.length - k) 0 ⟨by omega, by omega, rfl⟩ ?_ ?_
  · refine le_head _ _ _ ?_ ?_ ?_ ?_ ?_ (.inl rfl) <;> simp [go_sem, okD, okDs, okBlk] <;> (first | (intros; subst_vars; simp [okD, okDs]; done) | (intro _ h; rcases h with ⟨_, _, rfl⟩ | rfl <;> simp [okD, okDs]; done) | (intros; rename_i h; rcases h with ⟨_, _, rfl⟩ | rfl <;> simp [okD, okDs]))
  · rintro k ⟨hk, hk2, hg⟩
    have hw : IntKind.i64.wrap ((k : Int) + 1) = (k : Int) + 1 := wrap_in (by omega) (by omega)
    have h0 : (0 : Int) ≤ k := by omega
    by_cases h1 : (k : Int) < x.length
    · by_cases h2 : (k : Int) ≤ most
      · obtain ⟨f, hx⟩ : ∃ e, x[k]? = some e := ⟨_, List.getElem?_eq_getElem (by omega)⟩
        have hc := (rfew_c f n).toN rfl
        have hd : (decide ((f.p.d.length : Int) ≤ n) && decide ((f.q.d.length : Int) ≤ n)) = fewF n f := rfl
        rw [hd] at hc
        cases h3 : fewF n f
        · rw [h3] at hc
          repeat (first
      | (refine hK _ ?_; clear hK; clear K)
      | (refine aSeq fun K hK => ?_)
      | (refine aBlock ?_)
      | (refine aSkip ?_)
      | (refine aExit ?_)
      | (refine aRet ?_)
      | (refine aOps _ rfl (by kernel_rfl) ?_)
      | (refine aRunK _ rfl mixed (by kernel_rfl) (by kernel_rfl) fun KE hE => ?_)
      | (refine hE _ _ (by kernel_rfl) (intsOk_no rfl) ?_; clear hE; clear KE)
      | (refine hE _ _ (by kernel_rfl) (intsOk_yes ?hi ?hj) ?_; (case hi => (repeat (refine intsDead_updB rfl ?_)); exact intsDead_nil); (case hj => simp); clear hE; clear KE)
      | (refine aCondT rfl ?hc ?_; case hc => simp only [go_sem, ↓reduceIte, hres, h0, h1, h2, hx, hw])
      | (refine aCondF rfl ?hc ?_; case hc => simp only [go_sem, ↓reduceIte, hres, h0, h1, h2, hx, hw])
      | (refine callT_of (hc) ?_ ?_; rotate_left; (repeat (refine intsDead_updB rfl ?_)); exact intsDead_nil)
      | (refine callT_ofN (hc) ?_)
      | (refine callU_of (hc) rfl ?_)
      | (refine callU_ofN (hc) rfl ?_)
      | (simp only [go_sem, ↓reduceIte, hres, h0, h1, h2, hx, hw])
      | (refine And.intro ?ho ?_; (case ho => omega))
      | (clear hK; clear K))
          exact bool_eq (by simp only [fewP, all_not hx h3, Bool.and_false])
        · rw [h3] at hc
          repeat (first
      | (refine hK _ ?_; clear hK; clear K)
      | (refine aSeq fun K hK => ?_)
      | (refine aBlock ?_)
      | (refine aSkip ?_)
      | (refine aExit ?_)
      | (refine aRet ?_)
      | (refine aOps _ rfl (by kernel_rfl) ?_)
      | (refine aRunK _ rfl mixed (by kernel_rfl) (by kernel_rfl) fun KE hE => ?_)
      | (refine hE _ _ (by kernel_rfl) (intsOk_no rfl) ?_; clear hE; clear KE)
      | (refine hE _ _ (by kernel_rfl) (intsOk_yes ?hi ?hj) ?_; (case hi => (repeat (refine intsDead_updB rfl ?_)); exact intsDead_nil); (case hj => simp); clear hE; clear KE)
      | (refine aCondT rfl ?hc ?_; case hc => simp only [go_sem, ↓reduceIte, hres, h0, h1, h2, hx, hw])
      | (refine aCondF rfl ?hc ?_; case hc => simp only [go_sem, ↓reduceIte, hres, h0, h1, h2, hx, hw])
      | (refine callT_of (hc) ?_ ?_; rotate_left; (repeat (refine intsDead_updB rfl ?_)); exact intsDead_nil)
      | (refine callT_ofN (hc) ?_)
      | (refine callU_of (hc) rfl ?_)
      | (refine callU_ofN (hc) rfl ?_)
      | (simp only [go_sem, ↓reduceIte, hres, h0, h1, h2, hx, hw])
      | (refine And.intro ?ho ?_; (case ho => omega))
      | (clear hK; clear K))
          exact loop_end (k + 1) ⟨by omega, by omega, all_take_succ hx hg h3⟩ (by omega) (by refine le_head _ _ _ ?_ ?_ ?_ ?_ ?_ (.inl rfl) <;> simp [go_sem, okD, okDs, okBlk] <;> (first | (intros; subst_vars; simp [okD, okDs]; done) | (intro _ h; rcases h with ⟨_, _, rfl⟩ | rfl <;> simp [okD, okDs]; done) | (intros; rename_i h; rcases h with ⟨_, _, rfl⟩ | rfl <;> simp [okD, okDs])))
      · have h3 : ¬ (x.length : Int) ≤ most := by omega
        repeat (first
      | (refine hK _ ?_; clear hK; clear K)
      | (refine aSeq fun K hK => ?_)
      | (refine aBlock ?_)
      | (refine aSkip ?_)
      | (refine aExit ?_)
      | (refine aRet ?_)
      | (refine aOps _ rfl (by kernel_rfl) ?_)
      | (refine aRunK _ rfl mixed (by kernel_rfl) (by kernel_rfl) fun KE hE => ?_)
      | (refine hE _ _ (by kernel_rfl) (intsOk_no rfl) ?_; clear hE; clear KE)
      | (refine hE _ _ (by kernel_rfl) (intsOk_yes ?hi ?hj) ?_; (case hi => (repeat (refine intsDead_updB rfl ?_)); exact intsDead_nil); (case hj => simp); clear hE; clear KE)
      | (refine aCondT rfl ?hc ?_; case hc => simp only [go_sem, ↓reduceIte, hres, h1, h2, h3])
      | (refine aCondF rfl ?hc ?_; case hc => simp only [go_sem, ↓reduceIte, hres, h1, h2, h3])
      | (simp only [go_sem, ↓reduceIte, hres, h1, h2, h3])
      | (refine And.intro ?ho ?_; (case ho => omega))
      | (clear hK; clear K))
        exact bool_eq (by simp [fewP, h3])
    · rw [List.take_of_length_le (by omega)] at hg
      repeat (first
      | (refine hK _ ?_; clear hK; clear K)
      | (refine aSeq fun K hK => ?_)
      | (refine aBlock ?_)
      | (refine aSkip ?_)
      | (refine aExit ?_)
      | (refine aRet ?_)
      | (refine aOps _ rfl (by kernel_rfl) ?_)
      | (refine aRunK _ rfl mixed (by kernel_rfl) (by kernel_rfl) fun KE hE => ?_)
      | (refine hE _ _ (by kernel_rfl) (intsOk_no rfl) ?_; clear hE; clear KE)
      | (refine hE _ _ (by kernel_rfl) (intsOk_yes ?hi ?hj) ?_; (case hi => (repeat (refine intsDead_updB rfl ?_)); exact intsDead_nil); (case hj => simp); clear hE; clear KE)
      | (refine aCondT rfl ?hc ?_; case hc => simp only [go_sem, ↓reduceIte, hres, h1])
      | (refine aCondF rfl ?hc ?_; case hc => simp only [go_sem, ↓reduceIte, hres, h1])
      | (simp only [go_sem, ↓reduceIte, hres, h1])
      | (refine And.intro ?ho ?_; (case ho => omega))
      | (clear hK; clear K))
      exact bool_eq (by simp only [fewP, hg, Bool.and_true])
theorem fewS_c (s : SysD) (vars rows n : Int) (hm : 0 ≤ vars ∧ vars ≤ 4096) (hr : 0 ≤ rows ∧ rows ≤ 4096) : ContractN Try.prog 35 [encS s, dI vars, dI rows, dI n] (dB (fewS s vars rows n)) := by
  refine Contract.toN ?_ rfl
  refine Contract.ofA (CallA.inline Try.func35 rfl (by kernel_rfl) (by kernel_rfl) (by kernel_rfl) ?_)
  rw [Try.ntmps35]
  have hres := Try.results35
  repeat (first
      | (refine hK _ ?_; clear hK; clear K)
      | (refine aSeq fun K hK => ?_)
      | (refine aBlock ?_)
      | (refine aSkip ?_)
      | (refine aExit ?_)
      | (refine aRet ?_)
      | (refine aOps _ rfl (by kernel_rfl) ?_)
      | (refine aRunK _ rfl mixed (by kernel_rfl) (by kernel_rfl) fun KE hE => ?_)
      | (refine hE _ _ (by kernel_rfl) (intsOk_no rfl) ?_; clear hE; clear KE)
      | (refine hE _ _ (by kernel_rfl) (intsOk_yes ?hi ?hj) ?_; (case hi => (repeat (refine intsDead_updB rfl ?_)); exact intsDead_nil); (case hj => simp); clear hE; clear KE)
      | (refine aCondT rfl ?hc ?_; case hc => simp only [go_sem, ↓reduceIte, hres])
      | (refine aCondF rfl ?hc ?_; case hc => simp only [go_sem, ↓reduceIte, hres])
      | (simp only [go_sem, ↓reduceIte, hres])
      | (refine And.intro ?ho ?_; (case ho => omega))
      | (clear hK; clear K))
  refine aLoopT (fun (k : Nat) => [(1, dI vars), (2, dI rows), (3, dI n), (4, .lp 0 0 0 0), (9, dI k)]) (fun _ => [(0, ⟨58, 0, 2, [cS s], 0, false⟩)]) 1 0 (fun k => k ≤ s.r.length ∧ (k : Int) ≤ rows + 1 ∧ (s.r.take k).all (fun w => fewT w.t vars n && fewF n w.v) = true) (fun k => s.r.length - k) 0 ⟨by omega, by omega, rfl⟩ ?_ ?_
  · refine le_head _ _ _ ?_ ?_ ?_ ?_ ?_ (.inl rfl) <;> simp [go_sem, okD, okDs, okBlk] <;> (first | (intros; subst_vars; simp [okD, okDs]; done) | (intro _ h; rcases h with ⟨_, _, rfl⟩ | rfl <;> simp [okD, okDs]; done) | (intros; rename_i h; rcases h with ⟨_, _, rfl⟩ | rfl <;> simp [okD, okDs]))
  · rintro k ⟨hk, hk2, hg⟩
    have hw : IntKind.i64.wrap ((k : Int) + 1) = (k : Int) + 1 := wrap_in (by omega) (by omega)
    have h0 : (0 : Int) ≤ k := by omega
    by_cases h1 : (k : Int) < s.r.length
    · by_cases h2 : (k : Int) ≤ rows
      · obtain ⟨w, hx⟩ : ∃ e, s.r[k]? = some e := ⟨_, List.getElem?_eq_getElem (by omega)⟩
        have k1 := fewT_c w.t vars n hm
        have k2 := (rfew_c w.v n).toN rfl
        have hd : (decide ((w.v.p.d.length : Int) ≤ n) && decide ((w.v.q.d.length : Int) ≤ n)) = fewF n w.v := rfl
        rw [hd] at k2
        have bad : (fewT w.t vars n && fewF n w.v) = false → D.v (.bool false) = dB (fewS s vars rows n) := fun h => bool_eq (by simp only [fewS, all_not (p := fun w : RowD => fewT w.t vars n && fewF n w.v) hx h, Bool.and_false])
        cases h3 : fewT w.t vars n
        · rw [h3] at k1
          repeat (first
      | (refine hK _ ?_; clear hK; clear K)
      | (refine aSeq fun K hK => ?_)
      | (refine aBlock ?_)
      | (refine aSkip ?_)
      | (refine aExit ?_)
      | (refine aRet ?_)
      | (refine aOps _ rfl (by kernel_rfl) ?_)
      | (refine aRunK _ rfl mixed (by kernel_rfl) (by kernel_rfl) fun KE hE => ?_)
      | (refine hE _ _ (by kernel_rfl) (intsOk_no rfl) ?_; clear hE; clear KE)
      | (refine hE _ _ (by kernel_rfl) (intsOk_yes ?hi ?hj) ?_; (case hi => (repeat (refine intsDead_updB rfl ?_)); exact intsDead_nil); (case hj => simp); clear hE; clear KE)
      | (refine aCondT rfl ?hc ?_; case hc => simp only [go_sem, ↓reduceIte, hres, h0, h1, h2, hx, hw])
      | (refine aCondF rfl ?hc ?_; case hc => simp only [go_sem, ↓reduceIte, hres, h0, h1, h2, hx, hw])
      | (refine callT_of (k1) ?_ ?_; rotate_left; (repeat (refine intsDead_updB rfl ?_)); exact intsDead_nil)
      | (refine callT_ofN (k1) ?_)
      | (refine callU_of (k1) rfl ?_)
      | (refine callU_ofN (k1) rfl ?_)
      | (refine callT_of (k2) ?_ ?_; rotate_left; (repeat (refine intsDead_updB rfl ?_)); exact intsDead_nil)
      | (refine callT_ofN (k2) ?_)
      | (refine callU_of (k2) rfl ?_)
      | (refine callU_ofN (k2) rfl ?_)
      | (simp only [go_sem, ↓reduceIte, hres, h0, h1, h2, hx, hw])
      | (refine And.intro ?ho ?_; (case ho => omega))
      | (clear hK; clear K))
          exact bad (by rw [h3]; rfl)
        rw [h3] at k1
        cases h4 : fewF n w.v
        · rw [h4] at k2
          repeat (first
      | (refine hK _ ?_; clear hK; clear K)
      | (refine aSeq fun K hK => ?_)
      | (refine aBlock ?_)
      | (refine aSkip ?_)
      | (refine aExit ?_)
      | (refine aRet ?_)
      | (refine aOps _ rfl (by kernel_rfl) ?_)
      | (refine aRunK _ rfl mixed (by kernel_rfl) (by kernel_rfl) fun KE hE => ?_)
      | (refine hE _ _ (by kernel_rfl) (intsOk_no rfl) ?_; clear hE; clear KE)
      | (refine hE _ _ (by kernel_rfl) (intsOk_yes ?hi ?hj) ?_; (case hi => (repeat (refine intsDead_updB rfl ?_)); exact intsDead_nil); (case hj => simp); clear hE; clear KE)
      | (refine aCondT rfl ?hc ?_; case hc => simp only [go_sem, ↓reduceIte, hres, h0, h1, h2, hx, hw])
      | (refine aCondF rfl ?hc ?_; case hc => simp only [go_sem, ↓reduceIte, hres, h0, h1, h2, hx, hw])
      | (refine callT_of (k1) ?_ ?_; rotate_left; (repeat (refine intsDead_updB rfl ?_)); exact intsDead_nil)
      | (refine callT_ofN (k1) ?_)
      | (refine callU_of (k1) rfl ?_)
      | (refine callU_ofN (k1) rfl ?_)
      | (refine callT_of (k2) ?_ ?_; rotate_left; (repeat (refine intsDead_updB rfl ?_)); exact intsDead_nil)
      | (refine callT_ofN (k2) ?_)
      | (refine callU_of (k2) rfl ?_)
      | (refine callU_ofN (k2) rfl ?_)
      | (simp only [go_sem, ↓reduceIte, hres, h0, h1, h2, hx, hw])
      | (refine And.intro ?ho ?_; (case ho => omega))
      | (clear hK; clear K))
          exact bad (by rw [h4, Bool.and_false])
        · rw [h4] at k2
          repeat (first
      | (refine hK _ ?_; clear hK; clear K)
      | (refine aSeq fun K hK => ?_)
      | (refine aBlock ?_)
      | (refine aSkip ?_)
      | (refine aExit ?_)
      | (refine aRet ?_)
      | (refine aOps _ rfl (by kernel_rfl) ?_)
      | (refine aRunK _ rfl mixed (by kernel_rfl) (by kernel_rfl) fun KE hE => ?_)
      | (refine hE _ _ (by kernel_rfl) (intsOk_no rfl) ?_; clear hE; clear KE)
      | (refine hE _ _ (by kernel_rfl) (intsOk_yes ?hi ?hj) ?_; (case hi => (repeat (refine intsDead_updB rfl ?_)); exact intsDead_nil); (case hj => simp); clear hE; clear KE)
      | (refine aCondT rfl ?hc ?_; case hc => simp only [go_sem, ↓reduceIte, hres, h0, h1, h2, hx, hw])
      | (refine aCondF rfl ?hc ?_; case hc => simp only [go_sem, ↓reduceIte, hres, h0, h1, h2, hx, hw])
      | (refine callT_of (k1) ?_ ?_; rotate_left; (repeat (refine intsDead_updB rfl ?_)); exact intsDead_nil)
      | (refine callT_ofN (k1) ?_)
      | (refine callU_of (k1) rfl ?_)
      | (refine callU_ofN (k1) rfl ?_)
      | (refine callT_of (k2) ?_ ?_; rotate_left; (repeat (refine intsDead_updB rfl ?_)); exact intsDead_nil)
      | (refine callT_ofN (k2) ?_)
      | (refine callU_of (k2) rfl ?_)
      | (refine callU_ofN (k2) rfl ?_)
      | (simp only [go_sem, ↓reduceIte, hres, h0, h1, h2, hx, hw])
      | (refine And.intro ?ho ?_; (case ho => omega))
      | (clear hK; clear K))
          exact loop_end (k + 1) ⟨by omega, by omega, all_take_succ hx hg (by rw [h3, h4]; rfl)⟩ (by omega) (by refine le_head _ _ _ ?_ ?_ ?_ ?_ ?_ (.inl rfl) <;> simp [go_sem, okD, okDs, okBlk] <;> (first | (intros; subst_vars; simp [okD, okDs]; done) | (intro _ h; rcases h with ⟨_, _, rfl⟩ | rfl <;> simp [okD, okDs]; done) | (intros; rename_i h; rcases h with ⟨_, _, rfl⟩ | rfl <;> simp [okD, okDs])))
      · have h3 : ¬ (s.r.length : Int) ≤ rows := by omega
        by_cases h4 : s.n ≤ vars
        · repeat (first
      | (refine hK _ ?_; clear hK; clear K)
      | (refine aSeq fun K hK => ?_)
      | (refine aBlock ?_)
      | (refine aSkip ?_)
      | (refine aExit ?_)
      | (refine aRet ?_)
      | (refine aOps _ rfl (by kernel_rfl) ?_)
      | (refine aRunK _ rfl mixed (by kernel_rfl) (by kernel_rfl) fun KE hE => ?_)
      | (refine hE _ _ (by kernel_rfl) (intsOk_no rfl) ?_; clear hE; clear KE)
      | (refine hE _ _ (by kernel_rfl) (intsOk_yes ?hi ?hj) ?_; (case hi => (repeat (refine intsDead_updB rfl ?_)); exact intsDead_nil); (case hj => simp); clear hE; clear KE)
      | (refine aCondT rfl ?hc ?_; case hc => simp only [go_sem, ↓reduceIte, hres, h1, h2, h3, h4])
      | (refine aCondF rfl ?hc ?_; case hc => simp only [go_sem, ↓reduceIte, hres, h1, h2, h3, h4])
      | (simp only [go_sem, ↓reduceIte, hres, h1, h2, h3, h4])
      | (refine And.intro ?ho ?_; (case ho => omega))
      | (clear hK; clear K))
          exact bool_eq (by simp [fewS, h3])
        · repeat (first
      | (refine hK _ ?_; clear hK; clear K)
      | (refine aSeq fun K hK => ?_)
      | (refine aBlock ?_)
      | (refine aSkip ?_)
      | (refine aExit ?_)
      | (refine aRet ?_)
      | (refine aOps _ rfl (by kernel_rfl) ?_)
      | (refine aRunK _ rfl mixed (by kernel_rfl) (by kernel_rfl) fun KE hE => ?_)
      | (refine hE _ _ (by kernel_rfl) (intsOk_no rfl) ?_; clear hE; clear KE)
      | (refine hE _ _ (by kernel_rfl) (intsOk_yes ?hi ?hj) ?_; (case hi => (repeat (refine intsDead_updB rfl ?_)); exact intsDead_nil); (case hj => simp); clear hE; clear KE)
      | (refine aCondT rfl ?hc ?_; case hc => simp only [go_sem, ↓reduceIte, hres, h1, h2, h3, h4])
      | (refine aCondF rfl ?hc ?_; case hc => simp only [go_sem, ↓reduceIte, hres, h1, h2, h3, h4])
      | (simp only [go_sem, ↓reduceIte, hres, h1, h2, h3, h4])
      | (refine And.intro ?ho ?_; (case ho => omega))
      | (clear hK; clear K))
          exact bool_eq (by simp [fewS, h4])
    · rw [List.take_of_length_le (by omega)] at hg
      by_cases h4 : s.n ≤ vars
      · repeat (first
      | (refine hK _ ?_; clear hK; clear K)
      | (refine aSeq fun K hK => ?_)
      | (refine aBlock ?_)
      | (refine aSkip ?_)
      | (refine aExit ?_)
      | (refine aRet ?_)
      | (refine aOps _ rfl (by kernel_rfl) ?_)
      | (refine aRunK _ rfl mixed (by kernel_rfl) (by kernel_rfl) fun KE hE => ?_)
      | (refine hE _ _ (by kernel_rfl) (intsOk_no rfl) ?_; clear hE; clear KE)
      | (refine hE _ _ (by kernel_rfl) (intsOk_yes ?hi ?hj) ?_; (case hi => (repeat (refine intsDead_updB rfl ?_)); exact intsDead_nil); (case hj => simp); clear hE; clear KE)
      | (refine aCondT rfl ?hc ?_; case hc => simp only [go_sem, ↓reduceIte, hres, h1, h4])
      | (refine aCondF rfl ?hc ?_; case hc => simp only [go_sem, ↓reduceIte, hres, h1, h4])
      | (simp only [go_sem, ↓reduceIte, hres, h1, h4])
      | (refine And.intro ?ho ?_; (case ho => omega))
      | (clear hK; clear K))
        exact bool_eq (by simp only [fewS, hg, h4, decide_true, Bool.and_true, Bool.true_and])
      · repeat (first
      | (refine hK _ ?_; clear hK; clear K)
      | (refine aSeq fun K hK => ?_)
      | (refine aBlock ?_)
      | (refine aSkip ?_)
      | (refine aExit ?_)
      | (refine aRet ?_)
      | (refine aOps _ rfl (by kernel_rfl) ?_)
      | (refine aRunK _ rfl mixed (by kernel_rfl) (by kernel_rfl) fun KE hE => ?_)
      | (refine hE _ _ (by kernel_rfl) (intsOk_no rfl) ?_; clear hE; clear KE)
      | (refine hE _ _ (by kernel_rfl) (intsOk_yes ?hi ?hj) ?_; (case hi => (repeat (refine intsDead_updB rfl ?_)); exact intsDead_nil); (case hj => simp); clear hE; clear KE)
      | (refine aCondT rfl ?hc ?_; case hc => simp only [go_sem, ↓reduceIte, hres, h1, h4])
      | (refine aCondF rfl ?hc ?_; case hc => simp only [go_sem, ↓reduceIte, hres, h1, h4])
      | (simp only [go_sem, ↓reduceIte, hres, h1, h4])
      | (refine And.intro ?ho ?_; (case ho => omega))
      | (clear hK; clear K))
        exact bool_eq (by simp [fewS, h4])

theorem szQ_frac (p q : Int) (hq : q ≠ 0) (p1 : -9223372036854775808 ≤ p) (p2 : p ≤ 9223372036854775807) (q1 : -9223372036854775808 ≤ q) (q2 : q ≤ 9223372036854775807) : szQ (Rat.divInt p q) ≤ 4 := by
  have h1 := szQ_divInt p q hq
  have h2 := szZ_i64 p p1 (by omega)
  have h3 := szZ_i64 q q1 (by omega)
  omega
theorem lof_c (p q : Int) (hq : q ≠ 0) (p1 : -9223372036854775808 ≤ p) (p2 : p ≤ 9223372036854775807) (q1 : -9223372036854775808 ≤ q) (q2 : q ≤ 9223372036854775807) : Contract Try.prog 58 [dI p, dI q] (encF (ofQ (Rat.divInt p q))) := by
  have hres := Try.results58
  have k1 := fof_c p q hq p1 p2 q1 q2
  refine Contract.ofA (CallA.inline Try.func58 rfl (by kernel_rfl) (by kernel_rfl) (by kernel_rfl) ?_)
  rw [Try.ntmps58]
  repeat (first
      | (refine hK _ ?_; clear hK; clear K)
      | (refine aSeq fun K hK => ?_)
      | (refine aBlock ?_)
      | (refine aSkip ?_)
      | (refine aExit ?_)
      | (refine aRet ?_)
      | (refine aOps _ rfl (by kernel_rfl) ?_)
      | (refine aRunK _ rfl mixed (by kernel_rfl) (by kernel_rfl) fun KE hE => ?_)
      | (refine hE _ _ (by kernel_rfl) (intsOk_no rfl) ?_; clear hE; clear KE)
      | (refine hE _ _ (by kernel_rfl) (intsOk_yes ?hi ?hj) ?_; (case hi => (repeat (refine intsDead_updB rfl ?_)); exact intsDead_nil); (case hj => simp); clear hE; clear KE)
      | (refine aCondT rfl ?hc ?_; case hc => simp only [go_sem, ↓reduceIte, hres])
      | (refine aCondF rfl ?hc ?_; case hc => simp only [go_sem, ↓reduceIte, hres])
      | (refine callT_of (k1) ?_ ?_; rotate_left; (repeat (refine intsDead_updB rfl ?_)); exact intsDead_nil)
      | (refine callT_ofN (k1) ?_)
      | (refine callU_of (k1) rfl ?_)
      | (refine callU_ofN (k1) rfl ?_)
      | (simp only [go_sem, ↓reduceIte, hres])
      | (refine And.intro ?ho ?_; (case ho => omega))
      | (clear hK; clear K))
abbrev q1 (n : Int) : Rat := Rat.divInt n 1
theorem lterm_c (v n : Int) (p1 : -9223372036854775808 ≤ n) (p2 : n ≤ 9223372036854775807) : Contract Try.prog 75 [dI v, dI n] (encT ⟨v, ofQ (q1 n)⟩) := by
  have hres := Try.results75
  have k1 := lof_c n 1 (by decide) p1 p2 (by decide) (by decide)
  refine Contract.ofA (CallA.inline Try.func75 rfl (by kernel_rfl) (by kernel_rfl) (by kernel_rfl) ?_)
  rw [Try.ntmps75]
  repeat (first
      | (refine hK _ ?_; clear hK; clear K)
      | (refine aSeq fun K hK => ?_)
      | (refine aBlock ?_)
      | (refine aSkip ?_)
      | (refine aExit ?_)
      | (refine aRet ?_)
      | (refine aOps _ rfl (by kernel_rfl) ?_)
      | (refine aRunK _ rfl mixed (by kernel_rfl) (by kernel_rfl) fun KE hE => ?_)
      | (refine hE _ _ (by kernel_rfl) (intsOk_no rfl) ?_; clear hE; clear KE)
      | (refine hE _ _ (by kernel_rfl) (intsOk_yes ?hi ?hj) ?_; (case hi => (repeat (refine intsDead_updB rfl ?_)); exact intsDead_nil); (case hj => simp); clear hE; clear KE)
      | (refine aCondT rfl ?hc ?_; case hc => simp only [go_sem, ↓reduceIte, hres])
      | (refine aCondF rfl ?hc ?_; case hc => simp only [go_sem, ↓reduceIte, hres])
      | (refine callT_of (k1) ?_ ?_; rotate_left; (repeat (refine intsDead_updB rfl ?_)); exact intsDead_nil)
      | (refine callT_ofN (k1) ?_)
      | (refine callU_of (k1) rfl ?_)
      | (refine callU_ofN (k1) rfl ?_)
      | (simp only [go_sem, ↓reduceIte, hres])
      | (refine And.intro ?ho ?_; (case ho => omega))
      | (clear hK; clear K))
theorem lholds1_c (w : RowD) (x : List FracD) (hs : smW w) (hxs : smFs x) : Contract Try.prog 56 [encW w, encFs x] (dB (holdsS ⟨x.length, [w]⟩ x)) := by
  have hres := Try.results56
  have k1 := lholds_c ⟨x.length, [w]⟩ x ⟨by simp, fun u hu => by simp at hu; subst hu; exact hs⟩ hxs
  refine Contract.ofA (CallA.inline Try.func56 rfl (by kernel_rfl) (by kernel_rfl) (by kernel_rfl) ?_)
  rw [Try.ntmps56]
  repeat (first
      | (refine hK _ ?_; clear hK; clear K)
      | (refine aSeq fun K hK => ?_)
      | (refine aBlock ?_)
      | (refine aSkip ?_)
      | (refine aExit ?_)
      | (refine aRet ?_)
      | (refine aOps _ rfl (by kernel_rfl) ?_)
      | (refine aRunK _ rfl mixed (by kernel_rfl) (by kernel_rfl) fun KE hE => ?_)
      | (refine hE _ _ (by kernel_rfl) (intsOk_no rfl) ?_; clear hE; clear KE)
      | (refine hE _ _ (by kernel_rfl) (intsOk_yes ?hi ?hj) ?_; (case hi => (repeat (refine intsDead_updB rfl ?_)); exact intsDead_nil); (case hj => simp); clear hE; clear KE)
      | (refine aCondT rfl ?hc ?_; case hc => simp only [go_sem, ↓reduceIte, hres])
      | (refine aCondF rfl ?hc ?_; case hc => simp only [go_sem, ↓reduceIte, hres])
      | (refine callT_of (k1) ?_ ?_; rotate_left; (repeat (refine intsDead_updB rfl ?_)); exact intsDead_nil)
      | (refine callT_ofN (k1) ?_)
      | (refine callU_of (k1) rfl ?_)
      | (refine callU_ofN (k1) rfl ?_)
      | (simp only [go_sem, ↓reduceIte, hres])
      | (refine And.intro ?ho ?_; (case ho => omega))
      | (clear hK; clear K))
end Go.Proofs.Ytenmlcpbjjlokaa

/-
  The examples of layer 8.
-/
namespace Go.Proofs.Ytenmlcpbjjlokaa
set_option linter.unusedVariables false
set_option linter.unusedSimpArgs false
open Go Go.RowKit
attribute [local go_sem] opsL_nil opsL_go opsL_guard gSel_tt gSel_ff gSel_tf gSel_ft stepR_some stepR_none callS_some callE_some runL_nil runL_go runL_guard gSelE_tt gSelE_ff gSelE_tf gSelE_ft stepE_some stepE_none opF callD rd constD putT upd_get guardL gOf_bool gOf_undef fieldAddrF fieldF loadF storeF indexAddrF indexF sliceF strSliceF bound buildF fillF buildSliceF elemsF allocF makeSliceF lenF elemsOf appendF minmaxF convertF boxF ldE blkAt spliceE D.cells? D.isCell Res.pure ov TyI.agg binD unD boolD initT thenA inBlockA argD argDs refsD refsL killW datJ datJs endA_ret endA_normal endR_some oneD_one oneD_two oneD_three oneD_four resDs resD fzT Value.oneCell' strip tabT tabM
attribute [local go_sem] List.map Nat.reduceEqDiff Nat.reduceBEq List.getElem?_cons_zero List.getElem?_cons_succ List.getElem?_nil Option.getD_some Option.getD_none true_and and_true true_or or_true false_or or_false and_self Nat.add_zero Nat.zero_add List.length_nil List.length_cons forall_const ite_true ite_false Bool.or_self Bool.false_eq_true Option.map_some Option.map_none beq_self_eq_true Nat.reduceAdd Nat.reduceSub Nat.reduceMul reduceCtorEq List.getElem?_toArray Bool.not_true Bool.not_false decide_eq_true_eq decide_true decide_false Nat.reduceLeDiff Nat.reduceLT Bool.or_false Bool.or_true Bool.and_true Bool.and_false Bool.false_and Bool.true_and Bool.true_beq Bool.false_beq beq_true beq_false Bool.not_eq_true List.drop_succ_cons List.take_succ_cons List.drop_zero List.take_zero List.length_map List.getElem?_map List.length_append List.all_cons List.all_nil List.append_nil List.nil_append List.cons_append List.set_cons_zero List.set_cons_succ Int.toNat_natCast Int.toNat_zero Option.isSome_some Option.isSome_none Array.size_empty ByteArray.size_empty Int.reduceToNat Int.reduceAdd Int.reduceSub Int.reduceLT Int.reduceLE Int.reduceEq Int.reduceNe Int.reduceBEq Int.reduceNeg List.forall_mem_cons List.not_mem_nil false_implies List.forall_mem_map implies_true Nat.reduceBNe Int.cast_ofNat_Int Int.reduceMul Int.reduceGE Int.reduceGT wrap_in ty_2 ty_3 ty_4 ty_5 ty_6 ty_7 ty_8 ty_9 ty_10 ty_11 ty_12 ty_13 ty_14 ty_18 ty_19 ty_21 ty_22 ty_23 ty_24 ty_25 ty_30 ty_31 ty_32 ty_33 ty_34 ty_44 ty_51 ty_52 ty_54 ty_55 ty_56 ty_57 ty_58 ty_74 ty_75 ty_78 ty_93 ty_94 ty_121 ty_122 ty_131 ty_132 ty_133 ty_134 ty_135 ty_137 ty_138 ty_139 ty_142 ty_143 ty_144 ty_145
set_option maxRecDepth 100000
set_option maxHeartbeats 4000000

abbrev tq (v n : Int) : TermD := ⟨v, ofQ (q1 n)⟩
abbrev fq (n : Int) : FracD := ofQ (q1 n)
theorem smF_frac (p q : Int) (hq : q ≠ 0) (p1 : -9223372036854775808 ≤ p) (p2 : p ≤ 9223372036854775807) (g1 : -9223372036854775808 ≤ q) (g2 : q ≤ 9223372036854775807) : smF (ofQ (Rat.divInt p q)) := by
  have := szQ_frac p q hq p1 p2 g1 g2
  unfold smF; rw [szQ_ofQ]; omega
theorem smF_fq (n : Int) (p1 : -9223372036854775808 ≤ n) (p2 : n ≤ 9223372036854775807) : smF (fq n) := smF_frac n 1 (by decide) p1 p2 (by decide) (by decide)
theorem sgQ_q1 (n : Int) : sgQ (q1 n) = n.sign := sgQ_divInt (by decide)
theorem rightT_cons (n last v : Int) (q : Rat) (l : List TermD) : goR n last (⟨v, ofQ q⟩ :: l) = (decide (last < v) && decide (v < n) && (sgQ q != 0) && goR n v l) := by simp only [goR, sgnD_ofQ]
def l80 : List TermD := [tq 0 2, tq 2 (-1)]
def s80 : SysD := ⟨3, [⟨l80, 0, fq 1⟩, ⟨[tq 1 1], 2, fq 3⟩]⟩
theorem sm_l80 : smT l80 := ⟨by decide, fun t ht => by
  simp only [l80, List.mem_cons, List.not_mem_nil, or_false] at ht
  rcases ht with rfl | rfl <;> exact smF_fq _ (by decide) (by decide)⟩
theorem sm_s80 : smS s80 := ⟨by decide, fun w hw => by
  simp only [s80, List.mem_cons, List.not_mem_nil, or_false] at hw
  rcases hw with rfl | rfl
  · exact ⟨sm_l80, smF_fq _ (by decide) (by decide)⟩
  · refine ⟨⟨by decide, fun t ht => ?_⟩, smF_fq _ (by decide) (by decide)⟩
    simp only [List.mem_cons, List.not_mem_nil, or_false] at ht
    subst ht; exact smF_fq _ (by decide) (by decide)⟩
theorem right3 : rightT l80 3 = true := by simp only [rightT, l80, rightT_cons, sgnD_ofQ, sgQ_q1, goR]; decide
theorem right2 : rightT l80 2 = false := by simp only [rightT, l80, rightT_cons, sgnD_ofQ, sgQ_q1, goR]; decide
theorem right1500 : rightT l80 1500 = true := by simp only [rightT, l80, rightT_cons, sgnD_ofQ, sgQ_q1, goR]; decide
theorem rightS80 : rightS s80 = true := by
  have h : rightT [tq 1 1] 3 = true := by simp only [rightT, rightT_cons, sgnD_ofQ, sgQ_q1, goR]; decide
  simp only [rightS, rightW, s80, List.all_cons, List.all_nil, right3, h, okF_ofQ]
  decide
theorem value80 : valueD l80 [fq 1, fq 0, ofQ (Rat.divInt 1 2)] = (ofQ (Rat.divInt 3 2), true) := by
  have h1 : rightT l80 ((([fq 1, fq 0, ofQ (Rat.divInt 1 2)] : List FracD).length : Nat) : Int) = true := right3
  have h2 : okP [fq 1, fq 0, ofQ (Rat.divInt 1 2)] = true := by simp [okP, okF_ofQ]
  have h3 : dotD l80 [fq 1, fq 0, ofQ (Rat.divInt 1 2)] = Rat.divInt 3 2 := by
    have : dotD l80 [fq 1, fq 0, ofQ (Rat.divInt 1 2)] = 0 + q1 2 * q1 1 + q1 (-1) * Rat.divInt 1 2 := by simp [dotD, l80, atP, qOf_ofQ]
    rw [this]; decide +kernel
  rw [valueD, h1, h2, h3]; rfl
theorem value80_no : valueD l80 [fq 1, fq 0] = (zF, false) := by
  have h1 : rightT l80 ((([fq 1, fq 0] : List FracD).length : Nat) : Int) = false := right2
  rw [valueD, h1]; rfl
theorem holds80 (a b c : Int) (r : Bool) (hr : (decide (0 ≤ a) && decide (0 ≤ b) && decide (0 ≤ c) && (fitsK 0 (sgQ (0 + q1 2 * q1 a + q1 (-1) * q1 c - q1 1)) && fitsK 2 (sgQ (0 + q1 1 * q1 b - q1 3)))) = r) : holdsS s80 [fq a, fq b, fq c] = r := by
  have h2 : okP [fq a, fq b, fq c] = true := by simp [okP, okF_ofQ]
  have sg : ∀ n : Int, decide (0 ≤ n.sign) = decide (0 ≤ n) := fun n => decide_eq_decide.2 Int.sign_nonneg_iff
  have h3 : nonneg [fq a, fq b, fq c] = (decide (0 ≤ a) && decide (0 ≤ b) && decide (0 ≤ c)) := by
    simp only [nonneg, List.all_cons, List.all_nil, sgnD_ofQ, sgQ_q1, sg, Bool.and_true, Bool.and_assoc]
  have h4 : s80.r.all (fun w => holdsW w [fq a, fq b, fq c]) = (fitsK 0 (sgQ (0 + q1 2 * q1 a + q1 (-1) * q1 c - q1 1)) && fitsK 2 (sgQ (0 + q1 1 * q1 b - q1 3))) := by
    simp [s80, holdsW, l80, dotD, atP, qOf_ofQ]
  rw [holdsS, rightS80, h2, h3, h4, ← hr]
  rfl
theorem plus80 : plusD l80 [tq 2 1, tq 5 1] = [tq 0 2, tq 5 1] := by
  have h : rightT [tq 2 1, tq 5 1] 1500 = true := by simp only [rightT, rightT_cons, sgnD_ofQ, sgQ_q1, goR]; decide
  rw [plusD_yes right1500 h]
  have h0 : q1 (-1) + q1 1 = 0 := by decide +kernel
  rw [l80, sumT_lt _ _ (by decide), sumT_zero _ _ (by decide) (by decide) (by rw [qOf_ofQ, qOf_ofQ]; exact h0), sumT_right, sumT_nil]
theorem times80_no : timesD l80 (fq 0) = [] := by
  unfold timesD
  rw [sgnD_ofQ, sgQ_q1, right1500]; rfl
theorem times80 : timesD l80 (fq (-1)) = [tq 0 (-2), tq 2 1] := by
  rw [timesD_yes right1500 (by simp [sgnD_ofQ, sgQ_q1])]
  have h1 : q1 2 * q1 (-1) = q1 (-2) := by decide +kernel
  have h2 : q1 (-1) * q1 (-1) = q1 1 := by decide +kernel
  simp [l80, mulT, qOf_ofQ, h1, h2]
theorem smT2 (a b c d : Int) (h : (-1000 ≤ b ∧ b ≤ 1000) ∧ (-1000 ≤ d ∧ d ≤ 1000)) : smT [tq a b, tq c d] := ⟨by simp, fun t ht => by
  simp only [List.mem_cons, List.not_mem_nil, or_false] at ht
  rcases ht with rfl | rfl <;> exact smF_fq _ (by omega) (by omega)⟩
theorem smFs3 (a b c : FracD) (h : smF a ∧ smF b ∧ smF c) : smFs [a, b, c] := ⟨by simp, fun t ht => by
  simp only [List.mem_cons, List.not_mem_nil, or_false] at ht
  rcases ht with rfl | rfl | rfl
  · exact h.1
  · exact h.2.1
  · exact h.2.2⟩
theorem smFs2 (a b : FracD) (h : smF a ∧ smF b) : smFs [a, b] := ⟨by simp, fun t ht => by
  simp only [List.mem_cons, List.not_mem_nil, or_false] at ht
  rcases ht with rfl | rfl
  · exact h.1
  · exact h.2⟩
theorem small8_c : Contract Try.prog 31 [] (dB true) := by
  have hres := Try.results31
  have t1 := lterm_c 0 2 (by decide) (by decide)
  have t2 := lterm_c 2 (-1) (by decide) (by decide)
  have t3 := lterm_c 1 1 (by decide) (by decide)
  have t4 := lterm_c 2 1 (by decide) (by decide)
  have t5 := lterm_c 5 1 (by decide) (by decide)
  have t6 := lterm_c 0 (-2) (by decide) (by decide)
  have f1 := lof_c 1 1 (by decide) (by decide) (by decide) (by decide) (by decide)
  have f2 := lof_c 3 1 (by decide) (by decide) (by decide) (by decide) (by decide)
  have f3 := lof_c 0 1 (by decide) (by decide) (by decide) (by decide) (by decide)
  have f4 := lof_c 1 2 (by decide) (by decide) (by decide) (by decide) (by decide)
  have f5 := lof_c 3 2 (by decide) (by decide) (by decide) (by decide) (by decide)
  have f6 := lof_c 2 1 (by decide) (by decide) (by decide) (by decide) (by decide)
  have f7 := lof_c (-1) 1 (by decide) (by decide) (by decide) (by decide) (by decide)
  have s0 := smF_fq 0 (by decide) (by decide)
  have s1 := smF_fq 1 (by decide) (by decide)
  have s2 := smF_fq 2 (by decide) (by decide)
  have s3 := smF_fq 3 (by decide) (by decide)
  have sn := smF_fq (-1) (by decide) (by decide)
  have sh := smF_frac 1 2 (by decide) (by decide) (by decide) (by decide) (by decide)
  have v1 := lValue_c l80 [fq 1, fq 0, ofQ (Rat.divInt 1 2)] sm_l80 (smFs3 _ _ _ ⟨s1, s0, sh⟩)
  rw [value80] at v1
  have v2 := lValue_c l80 [fq 1, fq 0] sm_l80 (smFs2 _ _ ⟨s1, s0⟩)
  rw [value80_no] at v2
  have r1 := lright_c l80 3 sm_l80
  rw [right3] at r1
  have r2 := lright_c l80 2 sm_l80
  rw [right2] at r2
  have r3 := lrightS_c s80 sm_s80
  rw [rightS80] at r3
  have e1 := fsame_c (ofQ (Rat.divInt 3 2)) (ofQ (Rat.divInt 3 2))
  rw [show sameF (ofQ (Rat.divInt 3 2)) (ofQ (Rat.divInt 3 2)) = true by simp [sameF, sameB_iff]] at e1
  have o1 := lholds_c s80 [fq 1, fq 3, fq 1] sm_s80 (smFs3 _ _ _ ⟨s1, s3, s1⟩)
  rw [holds80 1 3 1 true (by decide +kernel)] at o1
  have o2 := lholds_c s80 [fq 1, fq 3, fq 2] sm_s80 (smFs3 _ _ _ ⟨s1, s3, s2⟩)
  rw [holds80 1 3 2 false (by decide +kernel)] at o2
  have o3 := lholds_c s80 [fq 0, fq 3, fq (-1)] sm_s80 (smFs3 _ _ _ ⟨s0, s3, sn⟩)
  rw [holds80 0 3 (-1) false (by decide +kernel)] at o3
  have p1 := lplus_c l80 [tq 2 1, tq 5 1] sm_l80 (smT2 _ _ _ _ (by decide))
  rw [plus80] at p1
  have q1 := lsame_c [tq 0 2, tq 5 1] [tq 0 2, tq 5 1] (by decide)
  rw [sameTs_iff.2 rfl] at q1
  have m1 := ltimes_c l80 (fq 0) sm_l80 s0
  rw [times80_no] at m1
  have m2 := ltimes_c l80 (fq (-1)) sm_l80 sn
  rw [times80] at m2
  have q2 := lsame_c [tq 0 (-2), tq 2 1] [tq 0 (-2), tq 2 1] (by decide)
  rw [sameTs_iff.2 rfl] at q2
  refine Contract.ofA (CallA.inline Try.func31 rfl (by kernel_rfl) (by kernel_rfl) (by kernel_rfl) ?_)
  rw [Try.ntmps31]
  repeat ((fail_if_success (with_reducible refine at_region 3 ?_)); first
      | (refine hK _ ?_; clear hK; clear K)
      | (refine aSeq fun K hK => ?_)
      | (refine aBlock ?_)
      | (refine aSkip ?_)
      | (refine aExit ?_)
      | (refine aRet ?_)
      | (refine aOps _ rfl (by kernel_rfl) ?_)
      | (refine aRunK _ rfl mixed (by kernel_rfl) (by kernel_rfl) fun KE hE => ?_)
      | (refine hE _ _ (by kernel_rfl) (intsOk_no rfl) ?_; clear hE; clear KE)
      | (refine hE _ _ (by kernel_rfl) (intsOk_yes ?hi ?hj) ?_; (case hi => (repeat (refine intsDead_updB rfl ?_)); exact intsDead_nil); (case hj => simp); clear hE; clear KE)
      | (refine aCondT rfl ?hc ?_; case hc => simp only [go_sem, ↓reduceIte, hres])
      | (refine aCondF rfl ?hc ?_; case hc => simp only [go_sem, ↓reduceIte, hres])
      | (refine callT_of (t1) ?_ ?_; rotate_left; (repeat (refine intsDead_updB rfl ?_)); exact intsDead_nil)
      | (refine callT_ofN (t1) ?_)
      | (refine callU_of (t1) rfl ?_)
      | (refine callU_ofN (t1) rfl ?_)
      | (refine callT_of (t2) ?_ ?_; rotate_left; (repeat (refine intsDead_updB rfl ?_)); exact intsDead_nil)
      | (refine callT_ofN (t2) ?_)
      | (refine callU_of (t2) rfl ?_)
      | (refine callU_ofN (t2) rfl ?_)
      | (refine callT_of (t3) ?_ ?_; rotate_left; (repeat (refine intsDead_updB rfl ?_)); exact intsDead_nil)
      | (refine callT_ofN (t3) ?_)
      | (refine callU_of (t3) rfl ?_)
      | (refine callU_ofN (t3) rfl ?_)
      | (refine callT_of (f1) ?_ ?_; rotate_left; (repeat (refine intsDead_updB rfl ?_)); exact intsDead_nil)
      | (refine callT_ofN (f1) ?_)
      | (refine callU_of (f1) rfl ?_)
      | (refine callU_ofN (f1) rfl ?_)
      | (refine callT_of (f2) ?_ ?_; rotate_left; (repeat (refine intsDead_updB rfl ?_)); exact intsDead_nil)
      | (refine callT_ofN (f2) ?_)
      | (refine callU_of (f2) rfl ?_)
      | (refine callU_ofN (f2) rfl ?_)
      | (simp only [go_sem, ↓reduceIte, hres])
      | (refine And.intro ?ho ?_; (case ho => omega))
      | (clear hK; clear K))
  refine aLe (le_kill 0 rfl) (aLe (le_kill 1 rfl) (aLe (le_kill 2 rfl) (aLe (le_cells 2 4 rfl) (aLe (le_cells 3 4 rfl) ?_))))
  simp only [go_sem, fzT]
  repeat (first
      | (refine hK _ ?_; clear hK; clear K)
      | (refine aSeq fun K hK => ?_)
      | (refine aBlock ?_)
      | (refine aSkip ?_)
      | (refine aExit ?_)
      | (refine aRet ?_)
      | (refine aOps _ rfl (by kernel_rfl) ?_)
      | (refine aRunK _ rfl mixed (by kernel_rfl) (by kernel_rfl) fun KE hE => ?_)
      | (refine hE _ _ (by kernel_rfl) (intsOk_no rfl) ?_; clear hE; clear KE)
      | (refine hE _ _ (by kernel_rfl) (intsOk_yes ?hi ?hj) ?_; (case hi => (repeat (refine intsDead_updB rfl ?_)); exact intsDead_nil); (case hj => simp); clear hE; clear KE)
      | (refine aCondT rfl ?hc ?_; case hc => simp only [go_sem, ↓reduceIte, hres])
      | (refine aCondF rfl ?hc ?_; case hc => simp only [go_sem, ↓reduceIte, hres])
      | (refine callT_of (t1) ?_ ?_; rotate_left; (repeat (refine intsDead_updB rfl ?_)); exact intsDead_nil)
      | (refine callT_ofN (t1) ?_)
      | (refine callU_of (t1) rfl ?_)
      | (refine callU_ofN (t1) rfl ?_)
      | (refine callT_of (t2) ?_ ?_; rotate_left; (repeat (refine intsDead_updB rfl ?_)); exact intsDead_nil)
      | (refine callT_ofN (t2) ?_)
      | (refine callU_of (t2) rfl ?_)
      | (refine callU_ofN (t2) rfl ?_)
      | (refine callT_of (t3) ?_ ?_; rotate_left; (repeat (refine intsDead_updB rfl ?_)); exact intsDead_nil)
      | (refine callT_ofN (t3) ?_)
      | (refine callU_of (t3) rfl ?_)
      | (refine callU_ofN (t3) rfl ?_)
      | (refine callT_of (t4) ?_ ?_; rotate_left; (repeat (refine intsDead_updB rfl ?_)); exact intsDead_nil)
      | (refine callT_ofN (t4) ?_)
      | (refine callU_of (t4) rfl ?_)
      | (refine callU_ofN (t4) rfl ?_)
      | (refine callT_of (t5) ?_ ?_; rotate_left; (repeat (refine intsDead_updB rfl ?_)); exact intsDead_nil)
      | (refine callT_ofN (t5) ?_)
      | (refine callU_of (t5) rfl ?_)
      | (refine callU_ofN (t5) rfl ?_)
      | (refine callT_of (t6) ?_ ?_; rotate_left; (repeat (refine intsDead_updB rfl ?_)); exact intsDead_nil)
      | (refine callT_ofN (t6) ?_)
      | (refine callU_of (t6) rfl ?_)
      | (refine callU_ofN (t6) rfl ?_)
      | (refine callT_of (f1) ?_ ?_; rotate_left; (repeat (refine intsDead_updB rfl ?_)); exact intsDead_nil)
      | (refine callT_ofN (f1) ?_)
      | (refine callU_of (f1) rfl ?_)
      | (refine callU_ofN (f1) rfl ?_)
      | (refine callT_of (f2) ?_ ?_; rotate_left; (repeat (refine intsDead_updB rfl ?_)); exact intsDead_nil)
      | (refine callT_ofN (f2) ?_)
      | (refine callU_of (f2) rfl ?_)
      | (refine callU_ofN (f2) rfl ?_)
      | (refine callT_of (f3) ?_ ?_; rotate_left; (repeat (refine intsDead_updB rfl ?_)); exact intsDead_nil)
      | (refine callT_ofN (f3) ?_)
      | (refine callU_of (f3) rfl ?_)
      | (refine callU_ofN (f3) rfl ?_)
      | (refine callT_of (f4) ?_ ?_; rotate_left; (repeat (refine intsDead_updB rfl ?_)); exact intsDead_nil)
      | (refine callT_ofN (f4) ?_)
      | (refine callU_of (f4) rfl ?_)
      | (refine callU_ofN (f4) rfl ?_)
      | (refine callT_of (f5) ?_ ?_; rotate_left; (repeat (refine intsDead_updB rfl ?_)); exact intsDead_nil)
      | (refine callT_ofN (f5) ?_)
      | (refine callU_of (f5) rfl ?_)
      | (refine callU_ofN (f5) rfl ?_)
      | (refine callT_of (f6) ?_ ?_; rotate_left; (repeat (refine intsDead_updB rfl ?_)); exact intsDead_nil)
      | (refine callT_ofN (f6) ?_)
      | (refine callU_of (f6) rfl ?_)
      | (refine callU_ofN (f6) rfl ?_)
      | (refine callT_of (f7) ?_ ?_; rotate_left; (repeat (refine intsDead_updB rfl ?_)); exact intsDead_nil)
      | (refine callT_ofN (f7) ?_)
      | (refine callU_of (f7) rfl ?_)
      | (refine callU_ofN (f7) rfl ?_)
      | (refine callT_of (v1) ?_ ?_; rotate_left; (repeat (refine intsDead_updB rfl ?_)); exact intsDead_nil)
      | (refine callT_ofN (v1) ?_)
      | (refine callU_of (v1) rfl ?_)
      | (refine callU_ofN (v1) rfl ?_)
      | (refine callT_of (v2) ?_ ?_; rotate_left; (repeat (refine intsDead_updB rfl ?_)); exact intsDead_nil)
      | (refine callT_ofN (v2) ?_)
      | (refine callU_of (v2) rfl ?_)
      | (refine callU_ofN (v2) rfl ?_)
      | (refine callT_of (r1) ?_ ?_; rotate_left; (repeat (refine intsDead_updB rfl ?_)); exact intsDead_nil)
      | (refine callT_ofN (r1) ?_)
      | (refine callU_of (r1) rfl ?_)
      | (refine callU_ofN (r1) rfl ?_)
      | (refine callT_of (r2) ?_ ?_; rotate_left; (repeat (refine intsDead_updB rfl ?_)); exact intsDead_nil)
      | (refine callT_ofN (r2) ?_)
      | (refine callU_of (r2) rfl ?_)
      | (refine callU_ofN (r2) rfl ?_)
      | (refine callT_of (r3) ?_ ?_; rotate_left; (repeat (refine intsDead_updB rfl ?_)); exact intsDead_nil)
      | (refine callT_ofN (r3) ?_)
      | (refine callU_of (r3) rfl ?_)
      | (refine callU_ofN (r3) rfl ?_)
      | (refine callT_of (e1) ?_ ?_; rotate_left; (repeat (refine intsDead_updB rfl ?_)); exact intsDead_nil)
      | (refine callT_ofN (e1) ?_)
      | (refine callU_of (e1) rfl ?_)
      | (refine callU_ofN (e1) rfl ?_)
      | (refine callT_of (o1) ?_ ?_; rotate_left; (repeat (refine intsDead_updB rfl ?_)); exact intsDead_nil)
      | (refine callT_ofN (o1) ?_)
      | (refine callU_of (o1) rfl ?_)
      | (refine callU_ofN (o1) rfl ?_)
      | (refine callT_of (o2) ?_ ?_; rotate_left; (repeat (refine intsDead_updB rfl ?_)); exact intsDead_nil)
      | (refine callT_ofN (o2) ?_)
      | (refine callU_of (o2) rfl ?_)
      | (refine callU_ofN (o2) rfl ?_)
      | (refine callT_of (o3) ?_ ?_; rotate_left; (repeat (refine intsDead_updB rfl ?_)); exact intsDead_nil)
      | (refine callT_ofN (o3) ?_)
      | (refine callU_of (o3) rfl ?_)
      | (refine callU_ofN (o3) rfl ?_)
      | (refine callT_of (p1) ?_ ?_; rotate_left; (repeat (refine intsDead_updB rfl ?_)); exact intsDead_nil)
      | (refine callT_ofN (p1) ?_)
      | (refine callU_of (p1) rfl ?_)
      | (refine callU_ofN (p1) rfl ?_)
      | (refine callT_of (q1) ?_ ?_; rotate_left; (repeat (refine intsDead_updB rfl ?_)); exact intsDead_nil)
      | (refine callT_ofN (q1) ?_)
      | (refine callU_of (q1) rfl ?_)
      | (refine callU_ofN (q1) rfl ?_)
      | (refine callT_of (q2) ?_ ?_; rotate_left; (repeat (refine intsDead_updB rfl ?_)); exact intsDead_nil)
      | (refine callT_ofN (q2) ?_)
      | (refine callU_of (q2) rfl ?_)
      | (refine callU_ofN (q2) rfl ?_)
      | (refine callT_of (m1) ?_ ?_; rotate_left; (repeat (refine intsDead_updB rfl ?_)); exact intsDead_nil)
      | (refine callT_ofN (m1) ?_)
      | (refine callU_of (m1) rfl ?_)
      | (refine callU_ofN (m1) rfl ?_)
      | (refine callT_of (m2) ?_ ?_; rotate_left; (repeat (refine intsDead_updB rfl ?_)); exact intsDead_nil)
      | (refine callT_ofN (m2) ?_)
      | (refine callU_of (m2) rfl ?_)
      | (refine callU_ofN (m2) rfl ?_)
      | (simp only [go_sem, ↓reduceIte, hres])
      | (refine And.intro ?ho ?_; (case ho => omega))
      | (clear hK; clear K))
end Go.Proofs.Ytenmlcpbjjlokaa
