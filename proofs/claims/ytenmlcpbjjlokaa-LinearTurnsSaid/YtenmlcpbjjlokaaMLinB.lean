/-
  Times of linear and of the reference.
-/
import Derived.Test.YtenmlcpbjjlokaaMLinA

/-
  Times of linear and of the reference.
-/
namespace Go.Proofs.Ytenmlcpbjjlokaa
set_option linter.unusedVariables false
set_option linter.unusedSimpArgs false
open Go Go.RowKit
attribute [local go_sem] opsL_nil opsL_go opsL_guard gSel_tt gSel_ff gSel_tf gSel_ft stepR_some stepR_none callS_some callE_some runL_nil runL_go runL_guard gSelE_tt gSelE_ff gSelE_tf gSelE_ft stepE_some stepE_none opF callD rd constD putT upd_get guardL gOf_bool gOf_undef fieldAddrF fieldF loadF storeF indexAddrF indexF sliceF strSliceF bound buildF fillF buildSliceF elemsF allocF makeSliceF lenF elemsOf appendF minmaxF convertF boxF ldE blkAt spliceE D.cells? D.isCell Res.pure ov TyI.agg binD unD boolD initT thenA inBlockA argD argDs refsD refsL killW datJ datJs endA_ret endA_normal endR_some oneD_one oneD_two oneD_three oneD_four resDs resD fzT Value.oneCell' strip tabT tabM
attribute [local go_sem] List.map Nat.reduceEqDiff Nat.reduceBEq List.getElem?_cons_zero List.getElem?_cons_succ List.getElem?_nil Option.getD_some Option.getD_none true_and and_true true_or or_true false_or or_false and_self Nat.add_zero Nat.zero_add List.length_nil List.length_cons forall_const ite_true ite_false Bool.or_self Bool.false_eq_true Option.map_some Option.map_none beq_self_eq_true Nat.reduceAdd Nat.reduceSub Nat.reduceMul reduceCtorEq List.getElem?_toArray Bool.not_true Bool.not_false decide_eq_true_eq decide_true decide_false Nat.reduceLeDiff Nat.reduceLT Bool.or_false Bool.or_true Bool.and_true Bool.and_false Bool.false_and Bool.true_and Bool.true_beq Bool.false_beq beq_true beq_false Bool.not_eq_true List.drop_succ_cons List.take_succ_cons List.drop_zero List.take_zero List.length_map List.getElem?_map List.length_append List.all_cons List.all_nil List.append_nil List.nil_append List.cons_append List.set_cons_zero List.set_cons_succ Int.toNat_natCast Int.toNat_zero Option.isSome_some Option.isSome_none Array.size_empty ByteArray.size_empty Int.reduceToNat Int.reduceAdd Int.reduceSub Int.reduceLT Int.reduceLE Int.reduceEq Int.reduceNe Int.reduceBEq Int.reduceNeg List.forall_mem_cons List.not_mem_nil false_implies List.forall_mem_map implies_true Nat.reduceBNe Int.cast_ofNat_Int Int.reduceMul Int.reduceGE Int.reduceGT wrap_in ty_2 ty_3 ty_4 ty_5 ty_6 ty_7 ty_8 ty_9 ty_10 ty_11 ty_12 ty_13 ty_14 ty_18 ty_19 ty_21 ty_22 ty_23 ty_24 ty_25 ty_30 ty_31 ty_32 ty_33 ty_34 ty_44 ty_51 ty_52 ty_54 ty_55 ty_56 ty_57 ty_58 ty_74 ty_75 ty_78 ty_93 ty_94 ty_121 ty_122 ty_131 ty_132 ty_133 ty_134 ty_135 ty_137 ty_138 ty_139 ty_142 ty_143 ty_144 ty_145
set_option maxRecDepth 100000
set_option maxHeartbeats 2000000

def mulT (f : FracD) (t : TermD) : TermD := ⟨t.v, ofQ (qOf t.f * qOf f)⟩
def timesD (l : List TermD) (f : FracD) : List TermD := if rightT l 1500 && sgnD f != 0 then l.map (mulT f) else []
theorem timesD_no {l : List TermD} {f : FracD} (h : (rightT l 1500 && sgnD f != 0) = false) : D.sl [] = encTs (timesD l f) := by unfold timesD; rw [h]; rfl
theorem timesD_yes {l : List TermD} {f : FracD} (h1 : rightT l 1500 = true) (h2 : (sgnD f != 0) = true) : timesD l f = l.map (mulT f) := by unfold timesD; rw [h1, h2]; rfl
theorem map_take_succ {α β : Type} (g : α → β) {l : List α} {k : Nat} {x : α} (hx : l[k]? = some x) : (l.take (k + 1)).map g = (l.take k).map g ++ [g x] := by
  rw [List.take_add_one, hx]; simp

/-- The first k products. -/
def outT (l : List TermD) (f : FracD) (k : Nat) : List TermD := (l.take k).map (mulT f)
theorem outT_succ {l : List TermD} (f : FracD) {k : Nat} {t : TermD} (ht : l[k]? = some t) : outT l f (k + 1) = outT l f k ++ [⟨t.v, ofQ (qOf t.f * qOf f)⟩] := map_take_succ _ ht
theorem outT_len (l : List TermD) (f : FracD) (k : Nat) : (outT l f k).length ≤ l.length := by
  unfold outT; rw [List.length_map]; exact List.length_take_le' k l
theorem outT_zero (l : List TermD) (f : FracD) : outT l f 0 = [] := rfl
theorem outT_all {l : List TermD} {f : FracD} (h1 : rightT l 1500 = true) (h2 : (sgnD f != 0) = true) : outT l f l.length = timesD l f := by
  unfold outT; rw [List.take_length, timesD_yes h1 h2]
theorem map_map_id {α : Type} {f : α → List D} {g : D → D} (h : ∀ a, List.map g (f a) = f a) (l : List α) : List.map (List.map g) (List.map f l) = List.map f l := by
  rw [List.map_map]
  exact List.map_congr_left fun a _ => h a
theorem fz_terms (m : Mem) (n : Nat) (l : List TermD) : D.sl (List.map (List.map (fzT true m (n + 1))) (List.map cT l)) = encTs l := by rw [map_map_id (fun _ => rfl)]

theorem ltimes_c (l : List TermD) (f : FracD) (hs : smT l) (hf : smF f) : Contract Try.prog 47 [encTs l, encF f] (encTs (timesD l f)) := by
  have hres := Try.results47
  have hl := smT_len hs
  have k1 := lright_c l 1500 hs
  have k2 := fsign_c f (smF_i hf)
  cases h1 : rightT l 1500
  · rw [h1] at k1
    refine Contract.ofA (CallA.inline Try.func47 rfl (by kernel_rfl) (by kernel_rfl) (by kernel_rfl) ?_)
    rw [Try.ntmps47]
    repeat (first
      | (refine hK _ ?_; clear hK; clear K)
      | (refine aSeq fun K hK => ?_)
      | (refine aBlock ?_)
      | (refine aSkip ?_)
      | (refine aExit ?_)
      | (refine aRet ?_)
      | (refine aOps _ rfl (by kernel_rfl) ?_)
      | (refine aRunK _ rfl mixed (by kernel_rfl) (by kernel_rfl) fun KE hE => ?_)
      | (refine hE _ _ (by kernel_rfl) (intsOk_no rfl) ?_; clear hE; clear KE)
      | (refine hE _ _ (by kernel_rfl) (intsOk_yes ?hi ?hj) ?_; (case hi => (repeat (refine intsDead_updB rfl ?_)); exact intsDead_nil); (case hj => simp); clear hE; clear KE)
      | (refine aCondT rfl ?hc ?_; case hc => simp only [go_sem, ↓reduceIte, hres])
      | (refine aCondF rfl ?hc ?_; case hc => simp only [go_sem, ↓reduceIte, hres])
      | (refine callT_of (k1) ?_ ?_; rotate_left; (repeat (refine intsDead_updB rfl ?_)); exact intsDead_nil)
      | (refine callT_ofN (k1) ?_)
      | (refine callU_of (k1) rfl ?_)
      | (refine callU_ofN (k1) rfl ?_)
      | (refine callT_of (k2) ?_ ?_; rotate_left; (repeat (refine intsDead_updB rfl ?_)); exact intsDead_nil)
      | (refine callT_ofN (k2) ?_)
      | (refine callU_of (k2) rfl ?_)
      | (refine callU_ofN (k2) rfl ?_)
      | (simp only [go_sem, ↓reduceIte, hres])
      | (refine And.intro ?ho ?_; (case ho => omega))
      | (clear hK; clear K))
    exact timesD_no (by rw [h1]; rfl)
  rw [h1] at k1
  cases h2 : sgnD f == 0
  rotate_left
  · refine Contract.ofA (CallA.inline Try.func47 rfl (by kernel_rfl) (by kernel_rfl) (by kernel_rfl) ?_)
    rw [Try.ntmps47]
    repeat (first
      | (refine hK _ ?_; clear hK; clear K)
      | (refine aSeq fun K hK => ?_)
      | (refine aBlock ?_)
      | (refine aSkip ?_)
      | (refine aExit ?_)
      | (refine aRet ?_)
      | (refine aOps _ rfl (by kernel_rfl) ?_)
      | (refine aRunK _ rfl mixed (by kernel_rfl) (by kernel_rfl) fun KE hE => ?_)
      | (refine hE _ _ (by kernel_rfl) (intsOk_no rfl) ?_; clear hE; clear KE)
      | (refine hE _ _ (by kernel_rfl) (intsOk_yes ?hi ?hj) ?_; (case hi => (repeat (refine intsDead_updB rfl ?_)); exact intsDead_nil); (case hj => simp); clear hE; clear KE)
      | (refine aCondT rfl ?hc ?_; case hc => simp only [go_sem, ↓reduceIte, hres, h2])
      | (refine aCondF rfl ?hc ?_; case hc => simp only [go_sem, ↓reduceIte, hres, h2])
      | (refine callT_of (k1) ?_ ?_; rotate_left; (repeat (refine intsDead_updB rfl ?_)); exact intsDead_nil)
      | (refine callT_ofN (k1) ?_)
      | (refine callU_of (k1) rfl ?_)
      | (refine callU_ofN (k1) rfl ?_)
      | (refine callT_of (k2) ?_ ?_; rotate_left; (repeat (refine intsDead_updB rfl ?_)); exact intsDead_nil)
      | (refine callT_ofN (k2) ?_)
      | (refine callU_of (k2) rfl ?_)
      | (refine callU_ofN (k2) rfl ?_)
      | (simp only [go_sem, ↓reduceIte, hres, h2])
      | (refine And.intro ?ho ?_; (case ho => omega))
      | (clear hK; clear K))
    exact timesD_no (by simp at h2; simp [h2])
  have h2' : (sgnD f != 0) = true := by simp at h2; simp [h2]
  have hok : okF f = true := by
    cases ho : okF f
    · rw [sgnD_no ho] at h2'; cases h2'
    · rfl
  refine Contract.ofA (CallA.inline Try.func47 rfl (by kernel_rfl) (by kernel_rfl) (by kernel_rfl) ?_)
  rw [Try.ntmps47]
  repeat (first
      | (refine hK _ ?_; clear hK; clear K)
      | (refine aSeq fun K hK => ?_)
      | (refine aBlock ?_)
      | (refine aSkip ?_)
      | (refine aExit ?_)
      | (refine aRet ?_)
      | (refine aOps _ rfl (by kernel_rfl) ?_)
      | (refine aRunK _ rfl mixed (by kernel_rfl) (by kernel_rfl) fun KE hE => ?_)
      | (refine hE _ _ (by kernel_rfl) (intsOk_no rfl) ?_; clear hE; clear KE)
      | (refine hE _ _ (by kernel_rfl) (intsOk_yes ?hi ?hj) ?_; (case hi => (repeat (refine intsDead_updB rfl ?_)); exact intsDead_nil); (case hj => simp); clear hE; clear KE)
      | (refine aCondT rfl ?hc ?_; case hc => simp only [go_sem, ↓reduceIte, hres, h2])
      | (refine aCondF rfl ?hc ?_; case hc => simp only [go_sem, ↓reduceIte, hres, h2])
      | (refine callT_of (k1) ?_ ?_; rotate_left; (repeat (refine intsDead_updB rfl ?_)); exact intsDead_nil)
      | (refine callT_ofN (k1) ?_)
      | (refine callU_of (k1) rfl ?_)
      | (refine callU_ofN (k1) rfl ?_)
      | (refine callT_of (k2) ?_ ?_; rotate_left; (repeat (refine intsDead_updB rfl ?_)); exact intsDead_nil)
      | (refine callT_ofN (k2) ?_)
      | (refine callU_of (k2) rfl ?_)
      | (refine callU_ofN (k2) rfl ?_)
      | (simp only [go_sem, ↓reduceIte, hres, h2])
      | (refine And.intro ?ho ?_; (case ho => omega))
      | (clear hK; clear K))
  refine aLe (le_row 5 94 5 rfl) ?_
  refine aLoopT (fun (k : Nat) => [(3, .lp 0 0 0 0), (5, .ls 1 k), (18, encTs l), (19, dI l.length), (20, dI k)]) (fun k => [(0, ⟨34, 0, 4, [cF f], 0, false⟩), (1, ⟨94, k, 5, (outT l f k).map cT, 0, false⟩)]) 2 0 (fun k => k ≤ l.length) (fun k => l.length - k) 0 (by omega) ?_ ?_
  · refine le_head _ _ _ ?_ ?_ ?_ ?_ ?_ (.inl rfl) <;> simp [go_sem, okD, okDs, okBlk, outT_zero] <;> (first | (intros; subst_vars; simp [okD, okDs]; done) | (intro _ h; rcases h with ⟨_, _, rfl⟩ | rfl <;> simp [okD, okDs]; done) | (intros; rename_i h; rcases h with ⟨_, _, rfl⟩ | rfl <;> simp [okD, okDs]))
  · rintro k hk
    have hw : IntKind.i64.wrap ((k : Int) + 1) = (k : Int) + 1 := wrap_in (by omega) (by omega)
    have h0 : (0 : Int) ≤ k := by omega
    by_cases h3 : (k : Int) < l.length
    · obtain ⟨t, ht⟩ : ∃ e, l[k]? = some e := ⟨_, List.getElem?_eq_getElem (by omega)⟩
      obtain ⟨_, _, h4, _⟩ := rightT_mem h1 (mem_at ht)
      have k3 := fmul_c t.f f (smF_i (hs.2 t (mem_at ht))) (smF_i hf)
      rw [show mulD t.f f = (ofQ (qOf t.f * qOf f), 0) by simp [mulD, h4, hok]] at k3
      have hn := outT_succ f ht
      have hlen : (outT l f k).length ≤ 4096 := by have := outT_len l f k; omega
      repeat (first
      | (refine hK _ ?_; clear hK; clear K)
      | (refine aSeq fun K hK => ?_)
      | (refine aBlock ?_)
      | (refine aSkip ?_)
      | (refine aExit ?_)
      | (refine aRet ?_)
      | (refine aOps _ rfl (by kernel_rfl) ?_)
      | (refine aRunK _ rfl mixed (by kernel_rfl) (by kernel_rfl) fun KE hE => ?_)
      | (refine hE _ _ (by kernel_rfl) (intsOk_no rfl) ?_; clear hE; clear KE)
      | (refine hE _ _ (by kernel_rfl) (intsOk_yes ?hi ?hj) ?_; (case hi => (repeat (refine intsDead_updB rfl ?_)); exact intsDead_nil); (case hj => simp); clear hE; clear KE)
      | (refine aCondT rfl ?hc ?_; case hc => simp only [go_sem, ↓reduceIte, hres, h0, h3, ht, hw])
      | (refine aCondF rfl ?hc ?_; case hc => simp only [go_sem, ↓reduceIte, hres, h0, h3, ht, hw])
      | (refine callT_of (k3) ?_ ?_; rotate_left; (repeat (refine intsDead_updB rfl ?_)); exact intsDead_nil)
      | (refine callT_ofN (k3) ?_)
      | (refine callU_of (k3) rfl ?_)
      | (refine callU_ofN (k3) rfl ?_)
      | (simp only [go_sem, ↓reduceIte, hres, h0, h3, ht, hw])
      | (refine And.intro ?ho ?_; (case ho => omega))
      | (clear hK; clear K))
      exact loop_end (k + 1) (by omega) (by omega) (by refine le_head _ _ _ ?_ ?_ ?_ ?_ ?_ (.inl rfl) <;> simp [go_sem, okD, okDs, okBlk, hn] <;> (first | (intros; subst_vars; simp [okD, okDs]; done) | (intro _ h; rcases h with ⟨_, _, rfl⟩ | rfl <;> simp [okD, okDs]; done) | (intros; rename_i h; rcases h with ⟨_, _, rfl⟩ | rfl <;> simp [okD, okDs])))
    · have e : k = l.length := by omega
      subst e
      rw [outT_all h1 h2']
      repeat (first
      | (refine hK _ ?_; clear hK; clear K)
      | (refine aSeq fun K hK => ?_)
      | (refine aBlock ?_)
      | (refine aSkip ?_)
      | (refine aExit ?_)
      | (refine aRet ?_)
      | (refine aOps _ rfl (by kernel_rfl) ?_)
      | (refine aRunK _ rfl mixed (by kernel_rfl) (by kernel_rfl) fun KE hE => ?_)
      | (refine hE _ _ (by kernel_rfl) (intsOk_no rfl) ?_; clear hE; clear KE)
      | (refine hE _ _ (by kernel_rfl) (intsOk_yes ?hi ?hj) ?_; (case hi => (repeat (refine intsDead_updB rfl ?_)); exact intsDead_nil); (case hj => simp); clear hE; clear KE)
      | (refine aCondT rfl ?hc ?_; case hc => simp only [go_sem, ↓reduceIte, hres, h3])
      | (refine aCondF rfl ?hc ?_; case hc => simp only [go_sem, ↓reduceIte, hres, h3])
      | (simp only [go_sem, ↓reduceIte, hres, h3])
      | (refine And.intro ?ho ?_; (case ho => omega))
      | (clear hK; clear K))
      exact fz_terms _ _ _

theorem sgnD_ok {f : FracD} (h : (sgnD f != 0) = true) : okF f = true := by
  cases ho : okF f
  · rw [sgnD_no ho] at h; cases h
  · rfl
theorem rtimesT_c (l : List TermD) (f : FracD) (hs : smT l) (hf : smF f) : Contract Try.prog 48 [encTs l, encF f] (encTs (timesD l f)) := by
  have hres := Try.results48
  have hl := smT_len hs
  have k1 := rrightT_c l 1500 hs
  have k2 := (rrightF_c f (smF_i hf)).toN rfl
  cases h1 : rightT l 1500
  · rw [h1] at k1
    refine Contract.ofA (CallA.inline Try.func48 rfl (by kernel_rfl) (by kernel_rfl) (by kernel_rfl) ?_)
    rw [Try.ntmps48]
    repeat (first
      | (refine hK _ ?_; clear hK; clear K)
      | (refine aSeq fun K hK => ?_)
      | (refine aBlock ?_)
      | (refine aSkip ?_)
      | (refine aExit ?_)
      | (refine aRet ?_)
      | (refine aOps _ rfl (by kernel_rfl) ?_)
      | (refine aRunK _ rfl mixed (by kernel_rfl) (by kernel_rfl) fun KE hE => ?_)
      | (refine hE _ _ (by kernel_rfl) (intsOk_no rfl) ?_; clear hE; clear KE)
      | (refine hE _ _ (by kernel_rfl) (intsOk_yes ?hi ?hj) ?_; (case hi => (repeat (refine intsDead_updB rfl ?_)); exact intsDead_nil); (case hj => simp); clear hE; clear KE)
      | (refine aCondT rfl ?hc ?_; case hc => simp only [go_sem, ↓reduceIte, hres])
      | (refine aCondF rfl ?hc ?_; case hc => simp only [go_sem, ↓reduceIte, hres])
      | (refine callT_of (k1) ?_ ?_; rotate_left; (repeat (refine intsDead_updB rfl ?_)); exact intsDead_nil)
      | (refine callT_ofN (k1) ?_)
      | (refine callU_of (k1) rfl ?_)
      | (refine callU_ofN (k1) rfl ?_)
      | (refine callT_of (k2) ?_ ?_; rotate_left; (repeat (refine intsDead_updB rfl ?_)); exact intsDead_nil)
      | (refine callT_ofN (k2) ?_)
      | (refine callU_of (k2) rfl ?_)
      | (refine callU_ofN (k2) rfl ?_)
      | (simp only [go_sem, ↓reduceIte, hres])
      | (refine And.intro ?ho ?_; (case ho => omega))
      | (clear hK; clear K))
    exact timesD_no (by rw [h1]; rfl)
  rw [h1] at k1
  cases hok : okF f
  · rw [hok] at k2
    refine Contract.ofA (CallA.inline Try.func48 rfl (by kernel_rfl) (by kernel_rfl) (by kernel_rfl) ?_)
    rw [Try.ntmps48]
    repeat (first
      | (refine hK _ ?_; clear hK; clear K)
      | (refine aSeq fun K hK => ?_)
      | (refine aBlock ?_)
      | (refine aSkip ?_)
      | (refine aExit ?_)
      | (refine aRet ?_)
      | (refine aOps _ rfl (by kernel_rfl) ?_)
      | (refine aRunK _ rfl mixed (by kernel_rfl) (by kernel_rfl) fun KE hE => ?_)
      | (refine hE _ _ (by kernel_rfl) (intsOk_no rfl) ?_; clear hE; clear KE)
      | (refine hE _ _ (by kernel_rfl) (intsOk_yes ?hi ?hj) ?_; (case hi => (repeat (refine intsDead_updB rfl ?_)); exact intsDead_nil); (case hj => simp); clear hE; clear KE)
      | (refine aCondT rfl ?hc ?_; case hc => simp only [go_sem, ↓reduceIte, hres])
      | (refine aCondF rfl ?hc ?_; case hc => simp only [go_sem, ↓reduceIte, hres])
      | (refine callT_of (k1) ?_ ?_; rotate_left; (repeat (refine intsDead_updB rfl ?_)); exact intsDead_nil)
      | (refine callT_ofN (k1) ?_)
      | (refine callU_of (k1) rfl ?_)
      | (refine callU_ofN (k1) rfl ?_)
      | (refine callT_of (k2) ?_ ?_; rotate_left; (repeat (refine intsDead_updB rfl ?_)); exact intsDead_nil)
      | (refine callT_ofN (k2) ?_)
      | (refine callU_of (k2) rfl ?_)
      | (refine callU_ofN (k2) rfl ?_)
      | (simp only [go_sem, ↓reduceIte, hres])
      | (refine And.intro ?ho ?_; (case ho => omega))
      | (clear hK; clear K))
    exact timesD_no (by simp [sgnD_no hok])
  rw [hok] at k2
  have hps := sgnD_ps hok
  cases h2 : f.p.s == 0
  rotate_left
  · refine Contract.ofA (CallA.inline Try.func48 rfl (by kernel_rfl) (by kernel_rfl) (by kernel_rfl) ?_)
    rw [Try.ntmps48]
    repeat (first
      | (refine hK _ ?_; clear hK; clear K)
      | (refine aSeq fun K hK => ?_)
      | (refine aBlock ?_)
      | (refine aSkip ?_)
      | (refine aExit ?_)
      | (refine aRet ?_)
      | (refine aOps _ rfl (by kernel_rfl) ?_)
      | (refine aRunK _ rfl mixed (by kernel_rfl) (by kernel_rfl) fun KE hE => ?_)
      | (refine hE _ _ (by kernel_rfl) (intsOk_no rfl) ?_; clear hE; clear KE)
      | (refine hE _ _ (by kernel_rfl) (intsOk_yes ?hi ?hj) ?_; (case hi => (repeat (refine intsDead_updB rfl ?_)); exact intsDead_nil); (case hj => simp); clear hE; clear KE)
      | (refine aCondT rfl ?hc ?_; case hc => simp only [go_sem, ↓reduceIte, hres, h2])
      | (refine aCondF rfl ?hc ?_; case hc => simp only [go_sem, ↓reduceIte, hres, h2])
      | (refine callT_of (k1) ?_ ?_; rotate_left; (repeat (refine intsDead_updB rfl ?_)); exact intsDead_nil)
      | (refine callT_ofN (k1) ?_)
      | (refine callU_of (k1) rfl ?_)
      | (refine callU_ofN (k1) rfl ?_)
      | (refine callT_of (k2) ?_ ?_; rotate_left; (repeat (refine intsDead_updB rfl ?_)); exact intsDead_nil)
      | (refine callT_ofN (k2) ?_)
      | (refine callU_of (k2) rfl ?_)
      | (refine callU_ofN (k2) rfl ?_)
      | (simp only [go_sem, ↓reduceIte, hres, h2])
      | (refine And.intro ?ho ?_; (case ho => omega))
      | (clear hK; clear K))
    exact timesD_no (by rw [hps]; simp at h2; simp [h2])
  have h2' : (sgnD f != 0) = true := by rw [hps]; simp at h2; simp [h2]
  refine Contract.ofA (CallA.inline Try.func48 rfl (by kernel_rfl) (by kernel_rfl) (by kernel_rfl) ?_)
  rw [Try.ntmps48]
  repeat (first
      | (refine hK _ ?_; clear hK; clear K)
      | (refine aSeq fun K hK => ?_)
      | (refine aBlock ?_)
      | (refine aSkip ?_)
      | (refine aExit ?_)
      | (refine aRet ?_)
      | (refine aOps _ rfl (by kernel_rfl) ?_)
      | (refine aRunK _ rfl mixed (by kernel_rfl) (by kernel_rfl) fun KE hE => ?_)
      | (refine hE _ _ (by kernel_rfl) (intsOk_no rfl) ?_; clear hE; clear KE)
      | (refine hE _ _ (by kernel_rfl) (intsOk_yes ?hi ?hj) ?_; (case hi => (repeat (refine intsDead_updB rfl ?_)); exact intsDead_nil); (case hj => simp); clear hE; clear KE)
      | (refine aCondT rfl ?hc ?_; case hc => simp only [go_sem, ↓reduceIte, hres, h2])
      | (refine aCondF rfl ?hc ?_; case hc => simp only [go_sem, ↓reduceIte, hres, h2])
      | (refine callT_of (k1) ?_ ?_; rotate_left; (repeat (refine intsDead_updB rfl ?_)); exact intsDead_nil)
      | (refine callT_ofN (k1) ?_)
      | (refine callU_of (k1) rfl ?_)
      | (refine callU_ofN (k1) rfl ?_)
      | (refine callT_of (k2) ?_ ?_; rotate_left; (repeat (refine intsDead_updB rfl ?_)); exact intsDead_nil)
      | (refine callT_ofN (k2) ?_)
      | (refine callU_of (k2) rfl ?_)
      | (refine callU_ofN (k2) rfl ?_)
      | (simp only [go_sem, ↓reduceIte, hres, h2])
      | (refine And.intro ?ho ?_; (case ho => omega))
      | (clear hK; clear K))
  refine aLe (le_row 5 94 5 rfl) ?_
  refine aLoopT (fun (k : Nat) => [(0, encTs l), (3, .lp 0 0 0 0), (5, .ls 1 k), (6, dI k)]) (fun k => [(0, ⟨34, 0, 4, [cF f], 0, false⟩), (1, ⟨94, k, 5, (outT l f k).map cT, 0, false⟩)]) 2 0 (fun k => k ≤ l.length) (fun k => l.length - k) 0 (by omega) ?_ ?_
  · refine le_head _ _ _ ?_ ?_ ?_ ?_ ?_ (.inl rfl) <;> simp [go_sem, okD, okDs, okBlk, outT_zero] <;> (first | (intros; subst_vars; simp [okD, okDs]; done) | (intro _ h; rcases h with ⟨_, _, rfl⟩ | rfl <;> simp [okD, okDs]; done) | (intros; rename_i h; rcases h with ⟨_, _, rfl⟩ | rfl <;> simp [okD, okDs]))
  · rintro k hk
    have hw : IntKind.i64.wrap ((k : Int) + 1) = (k : Int) + 1 := wrap_in (by omega) (by omega)
    have h0 : (0 : Int) ≤ k := by omega
    by_cases h3 : (k : Int) < l.length
    · obtain ⟨t, ht⟩ : ∃ e, l[k]? = some e := ⟨_, List.getElem?_eq_getElem (by omega)⟩
      obtain ⟨_, _, h4, _⟩ := rightT_mem h1 (mem_at ht)
      have k3 := rmulF_c t.f f (smF_j (hs.2 t (mem_at ht))) (smF_j hf)
      rw [show mulD t.f f = (ofQ (qOf t.f * qOf f), 0) by simp [mulD, h4, hok]] at k3
      have hn := outT_succ f ht
      have hlen : (outT l f k).length ≤ 4096 := by have := outT_len l f k; omega
      repeat (first
      | (refine hK _ ?_; clear hK; clear K)
      | (refine aSeq fun K hK => ?_)
      | (refine aBlock ?_)
      | (refine aSkip ?_)
      | (refine aExit ?_)
      | (refine aRet ?_)
      | (refine aOps _ rfl (by kernel_rfl) ?_)
      | (refine aRunK _ rfl mixed (by kernel_rfl) (by kernel_rfl) fun KE hE => ?_)
      | (refine hE _ _ (by kernel_rfl) (intsOk_no rfl) ?_; clear hE; clear KE)
      | (refine hE _ _ (by kernel_rfl) (intsOk_yes ?hi ?hj) ?_; (case hi => (repeat (refine intsDead_updB rfl ?_)); exact intsDead_nil); (case hj => simp); clear hE; clear KE)
      | (refine aCondT rfl ?hc ?_; case hc => simp only [go_sem, ↓reduceIte, hres, h0, h3, ht, hw])
      | (refine aCondF rfl ?hc ?_; case hc => simp only [go_sem, ↓reduceIte, hres, h0, h3, ht, hw])
      | (refine callT_of (k3) ?_ ?_; rotate_left; (repeat (refine intsDead_updB rfl ?_)); exact intsDead_nil)
      | (refine callT_ofN (k3) ?_)
      | (refine callU_of (k3) rfl ?_)
      | (refine callU_ofN (k3) rfl ?_)
      | (simp only [go_sem, ↓reduceIte, hres, h0, h3, ht, hw])
      | (refine And.intro ?ho ?_; (case ho => omega))
      | (clear hK; clear K))
      exact loop_end (k + 1) (by omega) (by omega) (by refine le_head _ _ _ ?_ ?_ ?_ ?_ ?_ (.inl rfl) <;> simp [go_sem, okD, okDs, okBlk, hn] <;> (first | (intros; subst_vars; simp [okD, okDs]; done) | (intro _ h; rcases h with ⟨_, _, rfl⟩ | rfl <;> simp [okD, okDs]; done) | (intros; rename_i h; rcases h with ⟨_, _, rfl⟩ | rfl <;> simp [okD, okDs])))
    · have e : k = l.length := by omega
      subst e
      rw [outT_all h1 h2']
      repeat (first
      | (refine hK _ ?_; clear hK; clear K)
      | (refine aSeq fun K hK => ?_)
      | (refine aBlock ?_)
      | (refine aSkip ?_)
      | (refine aExit ?_)
      | (refine aRet ?_)
      | (refine aOps _ rfl (by kernel_rfl) ?_)
      | (refine aRunK _ rfl mixed (by kernel_rfl) (by kernel_rfl) fun KE hE => ?_)
      | (refine hE _ _ (by kernel_rfl) (intsOk_no rfl) ?_; clear hE; clear KE)
      | (refine hE _ _ (by kernel_rfl) (intsOk_yes ?hi ?hj) ?_; (case hi => (repeat (refine intsDead_updB rfl ?_)); exact intsDead_nil); (case hj => simp); clear hE; clear KE)
      | (refine aCondT rfl ?hc ?_; case hc => simp only [go_sem, ↓reduceIte, hres, h3])
      | (refine aCondF rfl ?hc ?_; case hc => simp only [go_sem, ↓reduceIte, hres, h3])
      | (simp only [go_sem, ↓reduceIte, hres, h3])
      | (refine And.intro ?ho ?_; (case ho => omega))
      | (clear hK; clear K))
      exact fz_terms _ _ _
end Go.Proofs.Ytenmlcpbjjlokaa

/-
  Plus of linear.
-/
namespace Go.Proofs.Ytenmlcpbjjlokaa
set_option linter.unusedVariables false
set_option linter.unusedSimpArgs false
open Go Go.RowKit
attribute [local go_sem] opsL_nil opsL_go opsL_guard gSel_tt gSel_ff gSel_tf gSel_ft stepR_some stepR_none callS_some callE_some runL_nil runL_go runL_guard gSelE_tt gSelE_ff gSelE_tf gSelE_ft stepE_some stepE_none opF callD rd constD putT upd_get guardL gOf_bool gOf_undef fieldAddrF fieldF loadF storeF indexAddrF indexF sliceF strSliceF bound buildF fillF buildSliceF elemsF allocF makeSliceF lenF elemsOf appendF minmaxF convertF boxF ldE blkAt spliceE D.cells? D.isCell Res.pure ov TyI.agg binD unD boolD initT thenA inBlockA argD argDs refsD refsL killW datJ datJs endA_ret endA_normal endR_some oneD_one oneD_two oneD_three oneD_four resDs resD fzT Value.oneCell' strip tabT tabM
attribute [local go_sem] List.map Nat.reduceEqDiff Nat.reduceBEq List.getElem?_cons_zero List.getElem?_cons_succ List.getElem?_nil Option.getD_some Option.getD_none true_and and_true true_or or_true false_or or_false and_self Nat.add_zero Nat.zero_add List.length_nil List.length_cons forall_const ite_true ite_false Bool.or_self Bool.false_eq_true Option.map_some Option.map_none beq_self_eq_true Nat.reduceAdd Nat.reduceSub Nat.reduceMul reduceCtorEq List.getElem?_toArray Bool.not_true Bool.not_false decide_eq_true_eq decide_true decide_false Nat.reduceLeDiff Nat.reduceLT Bool.or_false Bool.or_true Bool.and_true Bool.and_false Bool.false_and Bool.true_and Bool.true_beq Bool.false_beq beq_true beq_false Bool.not_eq_true List.drop_succ_cons List.take_succ_cons List.drop_zero List.take_zero List.length_map List.getElem?_map List.length_append List.all_cons List.all_nil List.append_nil List.nil_append List.cons_append List.set_cons_zero List.set_cons_succ Int.toNat_natCast Int.toNat_zero Option.isSome_some Option.isSome_none Array.size_empty ByteArray.size_empty Int.reduceToNat Int.reduceAdd Int.reduceSub Int.reduceLT Int.reduceLE Int.reduceEq Int.reduceNe Int.reduceBEq Int.reduceNeg List.forall_mem_cons List.not_mem_nil false_implies List.forall_mem_map implies_true Nat.reduceBNe Int.cast_ofNat_Int Int.reduceMul Int.reduceGE Int.reduceGT wrap_in ty_2 ty_3 ty_4 ty_5 ty_6 ty_7 ty_8 ty_9 ty_10 ty_11 ty_12 ty_13 ty_14 ty_18 ty_19 ty_21 ty_22 ty_23 ty_24 ty_25 ty_30 ty_31 ty_32 ty_33 ty_34 ty_44 ty_51 ty_52 ty_54 ty_55 ty_56 ty_57 ty_58 ty_74 ty_75 ty_78 ty_93 ty_94 ty_121 ty_122 ty_131 ty_132 ty_133 ty_134 ty_135 ty_137 ty_138 ty_139 ty_142 ty_143 ty_144 ty_145
set_option maxRecDepth 100000
set_option maxHeartbeats 2000000

/-- The sum of two lists of terms. -/
def plusF : Nat → List TermD → List TermD → List TermD
  | 0, _, _ => []
  | _ + 1, [], [] => []
  | n + 1, x :: a, [] => x :: plusF n a []
  | n + 1, [], y :: b => y :: plusF n [] b
  | n + 1, x :: a, y :: b =>
    if x.v < y.v then x :: plusF n a (y :: b)
    else if y.v < x.v then y :: plusF n (x :: a) b
    else if qOf x.f + qOf y.f = 0 then plusF n a b
    else ⟨x.v, ofQ (qOf x.f + qOf y.f)⟩ :: plusF n a b
def sumT (a b : List TermD) : List TermD := plusF (a.length + b.length) a b
def plusD (a b : List TermD) : List TermD := if rightT a 1500 && rightT b 1500 then sumT a b else []
theorem sumT_nil : sumT [] [] = [] := rfl
theorem sumT_left (x : TermD) (a : List TermD) : sumT (x :: a) [] = x :: sumT a [] := rfl
theorem sumT_right (y : TermD) (b : List TermD) : sumT [] (y :: b) = y :: sumT [] b := by
  unfold sumT
  rw [show ([] : List TermD).length + (y :: b).length = (([] : List TermD).length + b.length) + 1 by simp]
  rfl
theorem sumT_lt {x y : TermD} (a b : List TermD) (h : x.v < y.v) : sumT (x :: a) (y :: b) = x :: sumT a (y :: b) := by
  unfold sumT
  rw [show (x :: a).length + (y :: b).length = (a.length + (y :: b).length) + 1 by simp; omega]
  simp only [plusF]
  rw [if_pos h]
theorem sumT_gt {x y : TermD} (a b : List TermD) (h : y.v < x.v) : sumT (x :: a) (y :: b) = y :: sumT (x :: a) b := by
  unfold sumT
  rw [show (x :: a).length + (y :: b).length = ((x :: a).length + b.length) + 1 by simp; omega]
  simp only [plusF]
  rw [if_neg (by omega), if_pos h]
theorem plusF_more : ∀ (n m : Nat) (a b : List TermD), a.length + b.length ≤ n → a.length + b.length ≤ m → plusF n a b = plusF m a b := by
  intro n
  induction n with
  | zero =>
    intro m a b h _
    obtain rfl : a = [] := List.eq_nil_of_length_eq_zero (by omega)
    obtain rfl : b = [] := List.eq_nil_of_length_eq_zero (by have : ([] : List TermD).length = 0 := rfl; omega)
    cases m <;> rfl
  | succ n ih =>
    intro m a b h k
    cases m with
    | zero =>
      obtain rfl : a = [] := List.eq_nil_of_length_eq_zero (by omega)
      obtain rfl : b = [] := List.eq_nil_of_length_eq_zero (by have : ([] : List TermD).length = 0 := rfl; omega)
      rfl
    | succ m =>
      match a, b with
      | [], [] => rfl
      | x :: a, [] => simp only [plusF]; rw [ih m a [] (by simp at h ⊢; omega) (by simp at k ⊢; omega)]
      | [], y :: b => simp only [plusF]; rw [ih m [] b (by simp at h ⊢; omega) (by simp at k ⊢; omega)]
      | x :: a, y :: b =>
        simp only [List.length_cons] at h k
        simp only [plusF]
        rw [ih m a (y :: b) (by simp; omega) (by simp; omega), ih m (x :: a) b (by simp; omega) (by simp; omega), ih m a b (by omega) (by omega)]
theorem sumT_zero {x y : TermD} (a b : List TermD) (h1 : ¬ x.v < y.v) (h2 : ¬ y.v < x.v) (h : qOf x.f + qOf y.f = 0) : sumT (x :: a) (y :: b) = sumT a b := by
  have e : sumT (x :: a) (y :: b) = plusF (a.length + b.length + 1) a b := by
    unfold sumT
    rw [show (x :: a).length + (y :: b).length = (a.length + b.length + 1) + 1 by simp; omega]
    simp only [plusF]
    rw [if_neg h1, if_neg h2, if_pos h]
  rw [e]
  exact plusF_more _ _ a b (by omega) (by omega)
theorem sumT_eq {x y : TermD} (a b : List TermD) (h1 : ¬ x.v < y.v) (h2 : ¬ y.v < x.v) (h : qOf x.f + qOf y.f ≠ 0) : sumT (x :: a) (y :: b) = ⟨x.v, ofQ (qOf x.f + qOf y.f)⟩ :: sumT a b := by
  have e : sumT (x :: a) (y :: b) = ⟨x.v, ofQ (qOf x.f + qOf y.f)⟩ :: plusF (a.length + b.length + 1) a b := by
    unfold sumT
    rw [show (x :: a).length + (y :: b).length = (a.length + b.length + 1) + 1 by simp; omega]
    simp only [plusF]
    rw [if_neg h1, if_neg h2, if_neg h]
  rw [e, plusF_more _ _ a b (by omega) (Nat.le_refl _)]
  rfl
theorem plusD_no {a b : List TermD} (h : (rightT a 1500 && rightT b 1500) = false) : D.sl [] = encTs (plusD a b) := by unfold plusD; rw [h]; rfl
theorem plusD_yes {a b : List TermD} (h1 : rightT a 1500 = true) (h2 : rightT b 1500 = true) : plusD a b = sumT a b := by unfold plusD; rw [h1, h2]; rfl

/-- What is left of a list: right fractions. -/
def okT (l : List TermD) : Prop := ∀ t ∈ l, smF t.f ∧ okF t.f = true
theorem okT_of {l : List TermD} {n : Int} (hs : smT l) (h : rightT l n = true) : okT l := fun t ht => ⟨hs.2 t ht, (rightT_mem h ht).2.2.1⟩
theorem okT_tl {x : TermD} {l : List TermD} (h : okT (x :: l)) : okT l := fun t ht => h t (List.mem_cons_of_mem _ ht)
theorem okT_hd {x : TermD} {l : List TermD} (h : okT (x :: l)) : smF x.f ∧ okF x.f = true := h x List.mem_cons_self
theorem fresh_c (f : FracD) (hs : smF f) (h : okF f = true) : Contract Try.prog 83 [encF f] (encF f) := by
  have hres := Try.results83
  have k1 := fneg_c f (smF_i hs)
  have e : szF (negD f) = szF f := by
    rw [show negD f = ofQ (- qOf f) by simp [negD, h], szQ_ofQ, szQ_neg, szF_ok h]
  have k2 := fneg_c (negD f) (by rw [e]; exact smF_i hs)
  rw [show negD (negD f) = f by
    rw [show negD f = ofQ (- qOf f) by simp [negD, h], negD_ofQ, show - - qOf f = qOf f by grind]
    exact (okF_eq h).symm] at k2
  refine Contract.ofA (CallA.inline Try.func83 rfl (by kernel_rfl) (by kernel_rfl) (by kernel_rfl) ?_)
  rw [Try.ntmps83]
  repeat (first
      | (refine hK _ ?_; clear hK; clear K)
      | (refine aSeq fun K hK => ?_)
      | (refine aBlock ?_)
      | (refine aSkip ?_)
      | (refine aExit ?_)
      | (refine aRet ?_)
      | (refine aOps _ rfl (by kernel_rfl) ?_)
      | (refine aRunK _ rfl mixed (by kernel_rfl) (by kernel_rfl) fun KE hE => ?_)
      | (refine hE _ _ (by kernel_rfl) (intsOk_no rfl) ?_; clear hE; clear KE)
      | (refine hE _ _ (by kernel_rfl) (intsOk_yes ?hi ?hj) ?_; (case hi => (repeat (refine intsDead_updB rfl ?_)); exact intsDead_nil); (case hj => simp); clear hE; clear KE)
      | (refine aCondT rfl ?hc ?_; case hc => simp only [go_sem, ↓reduceIte, hres])
      | (refine aCondF rfl ?hc ?_; case hc => simp only [go_sem, ↓reduceIte, hres])
      | (refine callT_of (k1) ?_ ?_; rotate_left; (repeat (refine intsDead_updB rfl ?_)); exact intsDead_nil)
      | (refine callT_ofN (k1) ?_)
      | (refine callU_of (k1) rfl ?_)
      | (refine callU_ofN (k1) rfl ?_)
      | (refine callT_of (k2) ?_ ?_; rotate_left; (repeat (refine intsDead_updB rfl ?_)); exact intsDead_nil)
      | (refine callT_ofN (k2) ?_)
      | (refine callU_of (k2) rfl ?_)
      | (refine callU_ofN (k2) rfl ?_)
      | (simp only [go_sem, ↓reduceIte, hres])
      | (refine And.intro ?ho ?_; (case ho => omega))
      | (clear hK; clear K))

theorem take_cT (l : List TermD) : List.take l.length (List.map cT l) = List.map cT l := List.take_of_length_le (by simp)
structure PlusX where
  a : List TermD
  b : List TermD
  o : List TermD
theorem lplus_c (a b : List TermD) (hs : smT a) (hs2 : smT b) : Contract Try.prog 45 [encTs a, encTs b] (encTs (plusD a b)) := by
  have hres := Try.results45
  have hla := smT_len hs
  have hlb := smT_len hs2
  have k1 := lright_c a 1500 hs
  have k2 := lright_c b 1500 hs2
  cases h1 : rightT a 1500
  · rw [h1] at k1
    refine Contract.ofA (CallA.inline Try.func45 rfl (by kernel_rfl) (by kernel_rfl) (by kernel_rfl) ?_)
    rw [Try.ntmps45]
    repeat (first
      | (refine hK _ ?_; clear hK; clear K)
      | (refine aSeq fun K hK => ?_)
      | (refine aBlock ?_)
      | (refine aSkip ?_)
      | (refine aExit ?_)
      | (refine aRet ?_)
      | (refine aOps _ rfl (by kernel_rfl) ?_)
      | (refine aRunK _ rfl mixed (by kernel_rfl) (by kernel_rfl) fun KE hE => ?_)
      | (refine hE _ _ (by kernel_rfl) (intsOk_no rfl) ?_; clear hE; clear KE)
      | (refine hE _ _ (by kernel_rfl) (intsOk_yes ?hi ?hj) ?_; (case hi => (repeat (refine intsDead_updB rfl ?_)); exact intsDead_nil); (case hj => simp); clear hE; clear KE)
      | (refine aCondT rfl ?hc ?_; case hc => simp only [go_sem, ↓reduceIte, hres])
      | (refine aCondF rfl ?hc ?_; case hc => simp only [go_sem, ↓reduceIte, hres])
      | (refine callT_of (k1) ?_ ?_; rotate_left; (repeat (refine intsDead_updB rfl ?_)); exact intsDead_nil)
      | (refine callT_ofN (k1) ?_)
      | (refine callU_of (k1) rfl ?_)
      | (refine callU_ofN (k1) rfl ?_)
      | (refine callT_of (k2) ?_ ?_; rotate_left; (repeat (refine intsDead_updB rfl ?_)); exact intsDead_nil)
      | (refine callT_ofN (k2) ?_)
      | (refine callU_of (k2) rfl ?_)
      | (refine callU_ofN (k2) rfl ?_)
      | (simp only [go_sem, ↓reduceIte, hres])
      | (refine And.intro ?ho ?_; (case ho => omega))
      | (clear hK; clear K))
    exact plusD_no (by rw [h1]; rfl)
  rw [h1] at k1
  cases h2 : rightT b 1500
  · rw [h2] at k2
    refine Contract.ofA (CallA.inline Try.func45 rfl (by kernel_rfl) (by kernel_rfl) (by kernel_rfl) ?_)
    rw [Try.ntmps45]
    repeat (first
      | (refine hK _ ?_; clear hK; clear K)
      | (refine aSeq fun K hK => ?_)
      | (refine aBlock ?_)
      | (refine aSkip ?_)
      | (refine aExit ?_)
      | (refine aRet ?_)
      | (refine aOps _ rfl (by kernel_rfl) ?_)
      | (refine aRunK _ rfl mixed (by kernel_rfl) (by kernel_rfl) fun KE hE => ?_)
      | (refine hE _ _ (by kernel_rfl) (intsOk_no rfl) ?_; clear hE; clear KE)
      | (refine hE _ _ (by kernel_rfl) (intsOk_yes ?hi ?hj) ?_; (case hi => (repeat (refine intsDead_updB rfl ?_)); exact intsDead_nil); (case hj => simp); clear hE; clear KE)
      | (refine aCondT rfl ?hc ?_; case hc => simp only [go_sem, ↓reduceIte, hres])
      | (refine aCondF rfl ?hc ?_; case hc => simp only [go_sem, ↓reduceIte, hres])
      | (refine callT_of (k1) ?_ ?_; rotate_left; (repeat (refine intsDead_updB rfl ?_)); exact intsDead_nil)
      | (refine callT_ofN (k1) ?_)
      | (refine callU_of (k1) rfl ?_)
      | (refine callU_ofN (k1) rfl ?_)
      | (refine callT_of (k2) ?_ ?_; rotate_left; (repeat (refine intsDead_updB rfl ?_)); exact intsDead_nil)
      | (refine callT_ofN (k2) ?_)
      | (refine callU_of (k2) rfl ?_)
      | (refine callU_ofN (k2) rfl ?_)
      | (simp only [go_sem, ↓reduceIte, hres])
      | (refine And.intro ?ho ?_; (case ho => omega))
      | (clear hK; clear K))
    exact plusD_no (by rw [h2, Bool.and_false])
  rw [h2] at k2
  refine Contract.ofA (CallA.inline Try.func45 rfl (by kernel_rfl) (by kernel_rfl) (by kernel_rfl) ?_)
  rw [Try.ntmps45]
  repeat (first
      | (refine hK _ ?_; clear hK; clear K)
      | (refine aSeq fun K hK => ?_)
      | (refine aBlock ?_)
      | (refine aSkip ?_)
      | (refine aExit ?_)
      | (refine aRet ?_)
      | (refine aOps _ rfl (by kernel_rfl) ?_)
      | (refine aRunK _ rfl mixed (by kernel_rfl) (by kernel_rfl) fun KE hE => ?_)
      | (refine hE _ _ (by kernel_rfl) (intsOk_no rfl) ?_; clear hE; clear KE)
      | (refine hE _ _ (by kernel_rfl) (intsOk_yes ?hi ?hj) ?_; (case hi => (repeat (refine intsDead_updB rfl ?_)); exact intsDead_nil); (case hj => simp); clear hE; clear KE)
      | (refine aCondT rfl ?hc ?_; case hc => simp only [go_sem, ↓reduceIte, hres])
      | (refine aCondF rfl ?hc ?_; case hc => simp only [go_sem, ↓reduceIte, hres])
      | (refine callT_of (k1) ?_ ?_; rotate_left; (repeat (refine intsDead_updB rfl ?_)); exact intsDead_nil)
      | (refine callT_ofN (k1) ?_)
      | (refine callU_of (k1) rfl ?_)
      | (refine callU_ofN (k1) rfl ?_)
      | (refine callT_of (k2) ?_ ?_; rotate_left; (repeat (refine intsDead_updB rfl ?_)); exact intsDead_nil)
      | (refine callT_ofN (k2) ?_)
      | (refine callU_of (k2) rfl ?_)
      | (refine callU_ofN (k2) rfl ?_)
      | (simp only [go_sem, ↓reduceIte, hres])
      | (refine And.intro ?ho ?_; (case ho => omega))
      | (clear hK; clear K))
  refine aLe (le_row 5 94 5 rfl) ?_
  refine aLoopT (fun (x : PlusX) => [(0, encTs x.a), (1, encTs x.b), (5, .ls 0 x.o.length)]) (fun x => [(0, ⟨94, x.o.length, 5, x.o.map cT, 0, false⟩)]) 1 0 (fun x => okT x.a ∧ okT x.b ∧ x.o ++ sumT x.a x.b = sumT a b ∧ x.o.length + x.a.length + x.b.length ≤ 8192) (fun x => x.a.length + x.b.length) ⟨a, b, []⟩ ⟨okT_of hs h1, okT_of hs2 h2, rfl, by simp; omega⟩ ?_ ?_
  · refine le_head _ _ _ ?_ ?_ ?_ ?_ ?_ (.inl rfl) <;> simp [go_sem, okD, okDs, okBlk] <;> (first | (intros; subst_vars; simp [okD, okDs]; done) | (intro _ h; rcases h with ⟨_, _, rfl⟩ | rfl <;> simp [okD, okDs]; done) | (intros; rename_i h; rcases h with ⟨_, _, rfl⟩ | rfl <;> simp [okD, okDs]))
  · rintro ⟨a', b', o⟩ ⟨ha, hb, ho, hlen⟩
    dsimp only at ha hb ho hlen ⊢
    match a', b', ha, hb, ho, hlen with
    | [], [], ha, hb, ho, hlen =>
      rw [sumT_nil, List.append_nil] at ho
      subst ho
      repeat (first
      | (refine hK _ ?_; clear hK; clear K)
      | (refine aSeq fun K hK => ?_)
      | (refine aBlock ?_)
      | (refine aSkip ?_)
      | (refine aExit ?_)
      | (refine aRet ?_)
      | (refine aOps _ rfl (by kernel_rfl) ?_)
      | (refine aRunK _ rfl mixed (by kernel_rfl) (by kernel_rfl) fun KE hE => ?_)
      | (refine hE _ _ (by kernel_rfl) (intsOk_no rfl) ?_; clear hE; clear KE)
      | (refine hE _ _ (by kernel_rfl) (intsOk_yes ?hi ?hj) ?_; (case hi => (repeat (refine intsDead_updB rfl ?_)); exact intsDead_nil); (case hj => simp); clear hE; clear KE)
      | (refine aCondT rfl ?hc ?_; case hc => simp only [go_sem, ↓reduceIte, hres])
      | (refine aCondF rfl ?hc ?_; case hc => simp only [go_sem, ↓reduceIte, hres])
      | (simp only [go_sem, ↓reduceIte, hres])
      | (refine And.intro ?ho ?_; (case ho => omega))
      | (clear hK; clear K))
      rw [plusD_yes h1 h2]
      exact fz_terms _ _ _
    | x :: a', [], ha, hb, ho, hlen =>
      simp only [List.length_cons, List.length_nil] at hlen
      have p1 : ((a'.length + 1 : Nat) : Int) > 0 := by omega
      have p2 : (1 : Int) ≤ ((a'.length + 1 : Nat) : Int) := by omega
      have kf := fresh_c x.f (okT_hd ha).1 (okT_hd ha).2
      repeat (first
      | (refine hK _ ?_; clear hK; clear K)
      | (refine aSeq fun K hK => ?_)
      | (refine aBlock ?_)
      | (refine aSkip ?_)
      | (refine aExit ?_)
      | (refine aRet ?_)
      | (refine aOps _ rfl (by kernel_rfl) ?_)
      | (refine aRunK _ rfl mixed (by kernel_rfl) (by kernel_rfl) fun KE hE => ?_)
      | (refine hE _ _ (by kernel_rfl) (intsOk_no rfl) ?_; clear hE; clear KE)
      | (refine hE _ _ (by kernel_rfl) (intsOk_yes ?hi ?hj) ?_; (case hi => (repeat (refine intsDead_updB rfl ?_)); exact intsDead_nil); (case hj => simp); clear hE; clear KE)
      | (refine aCondT rfl ?hc ?_; case hc => simp only [go_sem, ↓reduceIte, hres, take_cT, p1, p2])
      | (refine aCondF rfl ?hc ?_; case hc => simp only [go_sem, ↓reduceIte, hres, take_cT, p1, p2])
      | (refine callT_of (kf) ?_ ?_; rotate_left; (repeat (refine intsDead_updB rfl ?_)); exact intsDead_nil)
      | (refine callT_ofN (kf) ?_)
      | (refine callU_of (kf) rfl ?_)
      | (refine callU_ofN (kf) rfl ?_)
      | (simp only [go_sem, ↓reduceIte, hres, take_cT, p1, p2])
      | (refine And.intro ?ho ?_; (case ho => omega))
      | (clear hK; clear K))
      exact loop_end ⟨a', [], o ++ [x]⟩ ⟨okT_tl ha, hb, by rw [← ho, sumT_left]; simp, by simp; omega⟩ (by simp) (by refine le_head _ _ _ ?_ ?_ ?_ ?_ ?_ (.inl rfl) <;> simp [go_sem, okD, okDs, okBlk, take_cT] <;> (first | (intros; subst_vars; simp [okD, okDs]; done) | (intro _ h; rcases h with ⟨_, _, rfl⟩ | rfl <;> simp [okD, okDs]; done) | (intros; rename_i h; rcases h with ⟨_, _, rfl⟩ | rfl <;> simp [okD, okDs])))
    | [], y :: b', ha, hb, ho, hlen =>
      simp only [List.length_cons, List.length_nil] at hlen
      have p1 : ((b'.length + 1 : Nat) : Int) > 0 := by omega
      have p2 : (1 : Int) ≤ ((b'.length + 1 : Nat) : Int) := by omega
      have p3 : (((b'.length + 1 : Nat) : Int) == 0) = false := by simp; omega
      have kf := fresh_c y.f (okT_hd hb).1 (okT_hd hb).2
      repeat (first
      | (refine hK _ ?_; clear hK; clear K)
      | (refine aSeq fun K hK => ?_)
      | (refine aBlock ?_)
      | (refine aSkip ?_)
      | (refine aExit ?_)
      | (refine aRet ?_)
      | (refine aOps _ rfl (by kernel_rfl) ?_)
      | (refine aRunK _ rfl mixed (by kernel_rfl) (by kernel_rfl) fun KE hE => ?_)
      | (refine hE _ _ (by kernel_rfl) (intsOk_no rfl) ?_; clear hE; clear KE)
      | (refine hE _ _ (by kernel_rfl) (intsOk_yes ?hi ?hj) ?_; (case hi => (repeat (refine intsDead_updB rfl ?_)); exact intsDead_nil); (case hj => simp); clear hE; clear KE)
      | (refine aCondT rfl ?hc ?_; case hc => simp only [go_sem, ↓reduceIte, hres, take_cT, p1, p2, p3])
      | (refine aCondF rfl ?hc ?_; case hc => simp only [go_sem, ↓reduceIte, hres, take_cT, p1, p2, p3])
      | (refine callT_of (kf) ?_ ?_; rotate_left; (repeat (refine intsDead_updB rfl ?_)); exact intsDead_nil)
      | (refine callT_ofN (kf) ?_)
      | (refine callU_of (kf) rfl ?_)
      | (refine callU_ofN (kf) rfl ?_)
      | (simp only [go_sem, ↓reduceIte, hres, take_cT, p1, p2, p3])
      | (refine And.intro ?ho ?_; (case ho => omega))
      | (clear hK; clear K))
      exact loop_end ⟨[], b', o ++ [y]⟩ ⟨ha, okT_tl hb, by rw [← ho, sumT_right]; simp, by simp; omega⟩ (by simp) (by refine le_head _ _ _ ?_ ?_ ?_ ?_ ?_ (.inl rfl) <;> simp [go_sem, okD, okDs, okBlk, take_cT] <;> (first | (intros; subst_vars; simp [okD, okDs]; done) | (intro _ h; rcases h with ⟨_, _, rfl⟩ | rfl <;> simp [okD, okDs]; done) | (intros; rename_i h; rcases h with ⟨_, _, rfl⟩ | rfl <;> simp [okD, okDs])))
    | x :: a', y :: b', ha, hb, ho, hlen =>
      simp only [List.length_cons] at hlen
      have p1 : ((a'.length + 1 : Nat) : Int) > 0 := by omega
      have p2 : (1 : Int) ≤ ((a'.length + 1 : Nat) : Int) := by omega
      have p3 : (((a'.length + 1 : Nat) : Int) == 0) = false := by simp; omega
      have q1 : ((b'.length + 1 : Nat) : Int) > 0 := by omega
      have q2 : (1 : Int) ≤ ((b'.length + 1 : Nat) : Int) := by omega
      have q3 : (((b'.length + 1 : Nat) : Int) == 0) = false := by simp; omega
      by_cases h3 : x.v < y.v
      · have kf := fresh_c x.f (okT_hd ha).1 (okT_hd ha).2
        repeat (first
      | (refine hK _ ?_; clear hK; clear K)
      | (refine aSeq fun K hK => ?_)
      | (refine aBlock ?_)
      | (refine aSkip ?_)
      | (refine aExit ?_)
      | (refine aRet ?_)
      | (refine aOps _ rfl (by kernel_rfl) ?_)
      | (refine aRunK _ rfl mixed (by kernel_rfl) (by kernel_rfl) fun KE hE => ?_)
      | (refine hE _ _ (by kernel_rfl) (intsOk_no rfl) ?_; clear hE; clear KE)
      | (refine hE _ _ (by kernel_rfl) (intsOk_yes ?hi ?hj) ?_; (case hi => (repeat (refine intsDead_updB rfl ?_)); exact intsDead_nil); (case hj => simp); clear hE; clear KE)
      | (refine aCondT rfl ?hc ?_; case hc => simp only [go_sem, ↓reduceIte, hres, take_cT, p1, p2, p3, q1, q2, q3, h3])
      | (refine aCondF rfl ?hc ?_; case hc => simp only [go_sem, ↓reduceIte, hres, take_cT, p1, p2, p3, q1, q2, q3, h3])
      | (refine callT_of (kf) ?_ ?_; rotate_left; (repeat (refine intsDead_updB rfl ?_)); exact intsDead_nil)
      | (refine callT_ofN (kf) ?_)
      | (refine callU_of (kf) rfl ?_)
      | (refine callU_ofN (kf) rfl ?_)
      | (simp only [go_sem, ↓reduceIte, hres, take_cT, p1, p2, p3, q1, q2, q3, h3])
      | (refine And.intro ?ho ?_; (case ho => omega))
      | (clear hK; clear K))
        exact loop_end ⟨a', y :: b', o ++ [x]⟩ ⟨okT_tl ha, hb, by rw [← ho, sumT_lt _ _ h3]; simp, by simp; omega⟩ (by simp) (by refine le_head _ _ _ ?_ ?_ ?_ ?_ ?_ (.inl rfl) <;> simp [go_sem, okD, okDs, okBlk, take_cT] <;> (first | (intros; subst_vars; simp [okD, okDs]; done) | (intro _ h; rcases h with ⟨_, _, rfl⟩ | rfl <;> simp [okD, okDs]; done) | (intros; rename_i h; rcases h with ⟨_, _, rfl⟩ | rfl <;> simp [okD, okDs])))
      by_cases h4 : y.v < x.v
      · have kf := fresh_c y.f (okT_hd hb).1 (okT_hd hb).2
        repeat (first
      | (refine hK _ ?_; clear hK; clear K)
      | (refine aSeq fun K hK => ?_)
      | (refine aBlock ?_)
      | (refine aSkip ?_)
      | (refine aExit ?_)
      | (refine aRet ?_)
      | (refine aOps _ rfl (by kernel_rfl) ?_)
      | (refine aRunK _ rfl mixed (by kernel_rfl) (by kernel_rfl) fun KE hE => ?_)
      | (refine hE _ _ (by kernel_rfl) (intsOk_no rfl) ?_; clear hE; clear KE)
      | (refine hE _ _ (by kernel_rfl) (intsOk_yes ?hi ?hj) ?_; (case hi => (repeat (refine intsDead_updB rfl ?_)); exact intsDead_nil); (case hj => simp); clear hE; clear KE)
      | (refine aCondT rfl ?hc ?_; case hc => simp only [go_sem, ↓reduceIte, hres, take_cT, p1, p2, p3, q1, q2, q3, h3, h4])
      | (refine aCondF rfl ?hc ?_; case hc => simp only [go_sem, ↓reduceIte, hres, take_cT, p1, p2, p3, q1, q2, q3, h3, h4])
      | (refine callT_of (kf) ?_ ?_; rotate_left; (repeat (refine intsDead_updB rfl ?_)); exact intsDead_nil)
      | (refine callT_ofN (kf) ?_)
      | (refine callU_of (kf) rfl ?_)
      | (refine callU_ofN (kf) rfl ?_)
      | (simp only [go_sem, ↓reduceIte, hres, take_cT, p1, p2, p3, q1, q2, q3, h3, h4])
      | (refine And.intro ?ho ?_; (case ho => omega))
      | (clear hK; clear K))
        exact loop_end ⟨x :: a', b', o ++ [y]⟩ ⟨ha, okT_tl hb, by rw [← ho, sumT_gt _ _ h4]; simp, by simp; omega⟩ (by simp) (by refine le_head _ _ _ ?_ ?_ ?_ ?_ ?_ (.inl rfl) <;> simp [go_sem, okD, okDs, okBlk, take_cT] <;> (first | (intros; subst_vars; simp [okD, okDs]; done) | (intro _ h; rcases h with ⟨_, _, rfl⟩ | rfl <;> simp [okD, okDs]; done) | (intros; rename_i h; rcases h with ⟨_, _, rfl⟩ | rfl <;> simp [okD, okDs])))
      have ka := fadd_c x.f y.f (smF_i (okT_hd ha).1) (smF_i (okT_hd hb).1)
      rw [show addD x.f y.f = (ofQ (qOf x.f + qOf y.f), 0) by simp [addD, (okT_hd ha).2, (okT_hd hb).2]] at ka
      have zz := szQ_add (qOf x.f) (qOf y.f)
      rw [szF_ok (okT_hd ha).2, szF_ok (okT_hd hb).2] at zz
      have z1 : (szF x.f : Int) ≤ 4194304 := (okT_hd ha).1
      have z2 : (szF y.f : Int) ≤ 4194304 := (okT_hd hb).1
      have ks := fsign_c (ofQ (qOf x.f + qOf y.f)) (by rw [szQ_ofQ]; omega)
      rw [sgnD_ofQ] at ks
      by_cases h5 : qOf x.f + qOf y.f = 0
      · have h6 : (sgQ (qOf x.f + qOf y.f) != 0) = false := by simp [sgQ_zero.2 h5]
        repeat (first
      | (refine hK _ ?_; clear hK; clear K)
      | (refine aSeq fun K hK => ?_)
      | (refine aBlock ?_)
      | (refine aSkip ?_)
      | (refine aExit ?_)
      | (refine aRet ?_)
      | (refine aOps _ rfl (by kernel_rfl) ?_)
      | (refine aRunK _ rfl mixed (by kernel_rfl) (by kernel_rfl) fun KE hE => ?_)
      | (refine hE _ _ (by kernel_rfl) (intsOk_no rfl) ?_; clear hE; clear KE)
      | (refine hE _ _ (by kernel_rfl) (intsOk_yes ?hi ?hj) ?_; (case hi => (repeat (refine intsDead_updB rfl ?_)); exact intsDead_nil); (case hj => simp); clear hE; clear KE)
      | (refine aCondT rfl ?hc ?_; case hc => simp only [go_sem, ↓reduceIte, hres, take_cT, p1, p2, p3, q1, q2, q3, h3, h4, h6])
      | (refine aCondF rfl ?hc ?_; case hc => simp only [go_sem, ↓reduceIte, hres, take_cT, p1, p2, p3, q1, q2, q3, h3, h4, h6])
      | (refine callT_of (ka) ?_ ?_; rotate_left; (repeat (refine intsDead_updB rfl ?_)); exact intsDead_nil)
      | (refine callT_ofN (ka) ?_)
      | (refine callU_of (ka) rfl ?_)
      | (refine callU_ofN (ka) rfl ?_)
      | (refine callT_of (ks) ?_ ?_; rotate_left; (repeat (refine intsDead_updB rfl ?_)); exact intsDead_nil)
      | (refine callT_ofN (ks) ?_)
      | (refine callU_of (ks) rfl ?_)
      | (refine callU_ofN (ks) rfl ?_)
      | (simp only [go_sem, ↓reduceIte, hres, take_cT, p1, p2, p3, q1, q2, q3, h3, h4, h6])
      | (refine And.intro ?ho ?_; (case ho => omega))
      | (clear hK; clear K))
        exact loop_end ⟨a', b', o⟩ ⟨okT_tl ha, okT_tl hb, by rw [← ho, sumT_zero _ _ h3 h4 h5], by dsimp only; omega⟩ (by simp; omega) (by refine le_head _ _ _ ?_ ?_ ?_ ?_ ?_ (.inl rfl) <;> simp [go_sem, okD, okDs, okBlk, take_cT] <;> (first | (intros; subst_vars; simp [okD, okDs]; done) | (intro _ h; rcases h with ⟨_, _, rfl⟩ | rfl <;> simp [okD, okDs]; done) | (intros; rename_i h; rcases h with ⟨_, _, rfl⟩ | rfl <;> simp [okD, okDs])))
      · have h6 : (sgQ (qOf x.f + qOf y.f) != 0) = true := by simp [sgQ_zero, h5]
        repeat (first
      | (refine hK _ ?_; clear hK; clear K)
      | (refine aSeq fun K hK => ?_)
      | (refine aBlock ?_)
      | (refine aSkip ?_)
      | (refine aExit ?_)
      | (refine aRet ?_)
      | (refine aOps _ rfl (by kernel_rfl) ?_)
      | (refine aRunK _ rfl mixed (by kernel_rfl) (by kernel_rfl) fun KE hE => ?_)
      | (refine hE _ _ (by kernel_rfl) (intsOk_no rfl) ?_; clear hE; clear KE)
      | (refine hE _ _ (by kernel_rfl) (intsOk_yes ?hi ?hj) ?_; (case hi => (repeat (refine intsDead_updB rfl ?_)); exact intsDead_nil); (case hj => simp); clear hE; clear KE)
      | (refine aCondT rfl ?hc ?_; case hc => simp only [go_sem, ↓reduceIte, hres, take_cT, p1, p2, p3, q1, q2, q3, h3, h4, h6])
      | (refine aCondF rfl ?hc ?_; case hc => simp only [go_sem, ↓reduceIte, hres, take_cT, p1, p2, p3, q1, q2, q3, h3, h4, h6])
      | (refine callT_of (ka) ?_ ?_; rotate_left; (repeat (refine intsDead_updB rfl ?_)); exact intsDead_nil)
      | (refine callT_ofN (ka) ?_)
      | (refine callU_of (ka) rfl ?_)
      | (refine callU_ofN (ka) rfl ?_)
      | (refine callT_of (ks) ?_ ?_; rotate_left; (repeat (refine intsDead_updB rfl ?_)); exact intsDead_nil)
      | (refine callT_ofN (ks) ?_)
      | (refine callU_of (ks) rfl ?_)
      | (refine callU_ofN (ks) rfl ?_)
      | (simp only [go_sem, ↓reduceIte, hres, take_cT, p1, p2, p3, q1, q2, q3, h3, h4, h6])
      | (refine And.intro ?ho ?_; (case ho => omega))
      | (clear hK; clear K))
        exact loop_end ⟨a', b', o ++ [⟨x.v, ofQ (qOf x.f + qOf y.f)⟩]⟩ ⟨okT_tl ha, okT_tl hb, by rw [← ho, sumT_eq _ _ h3 h4 h5]; simp, by simp; omega⟩ (by simp; omega) (by refine le_head _ _ _ ?_ ?_ ?_ ?_ ?_ (.inl rfl) <;> simp [go_sem, okD, okDs, okBlk, take_cT] <;> (first | (intros; subst_vars; simp [okD, okDs]; done) | (intro _ h; rcases h with ⟨_, _, rfl⟩ | rfl <;> simp [okD, okDs]; done) | (intros; rename_i h; rcases h with ⟨_, _, rfl⟩ | rfl <;> simp [okD, okDs])))
end Go.Proofs.Ytenmlcpbjjlokaa

/-
  Plus of the reference; Same of linear and of the reference.
-/
namespace Go.Proofs.Ytenmlcpbjjlokaa
set_option linter.unusedVariables false
set_option linter.unusedSimpArgs false
open Go Go.RowKit
attribute [local go_sem] opsL_nil opsL_go opsL_guard gSel_tt gSel_ff gSel_tf gSel_ft stepR_some stepR_none callS_some callE_some runL_nil runL_go runL_guard gSelE_tt gSelE_ff gSelE_tf gSelE_ft stepE_some stepE_none opF callD rd constD putT upd_get guardL gOf_bool gOf_undef fieldAddrF fieldF loadF storeF indexAddrF indexF sliceF strSliceF bound buildF fillF buildSliceF elemsF allocF makeSliceF lenF elemsOf appendF minmaxF convertF boxF ldE blkAt spliceE D.cells? D.isCell Res.pure ov TyI.agg binD unD boolD initT thenA inBlockA argD argDs refsD refsL killW datJ datJs endA_ret endA_normal endR_some oneD_one oneD_two oneD_three oneD_four resDs resD fzT Value.oneCell' strip tabT tabM
attribute [local go_sem] List.map Nat.reduceEqDiff Nat.reduceBEq List.getElem?_cons_zero List.getElem?_cons_succ List.getElem?_nil Option.getD_some Option.getD_none true_and and_true true_or or_true false_or or_false and_self Nat.add_zero Nat.zero_add List.length_nil List.length_cons forall_const ite_true ite_false Bool.or_self Bool.false_eq_true Option.map_some Option.map_none beq_self_eq_true Nat.reduceAdd Nat.reduceSub Nat.reduceMul reduceCtorEq List.getElem?_toArray Bool.not_true Bool.not_false decide_eq_true_eq decide_true decide_false Nat.reduceLeDiff Nat.reduceLT Bool.or_false Bool.or_true Bool.and_true Bool.and_false Bool.false_and Bool.true_and Bool.true_beq Bool.false_beq beq_true beq_false Bool.not_eq_true List.drop_succ_cons List.take_succ_cons List.drop_zero List.take_zero List.length_map List.getElem?_map List.length_append List.all_cons List.all_nil List.append_nil List.nil_append List.cons_append List.set_cons_zero List.set_cons_succ Int.toNat_natCast Int.toNat_zero Option.isSome_some Option.isSome_none Array.size_empty ByteArray.size_empty Int.reduceToNat Int.reduceAdd Int.reduceSub Int.reduceLT Int.reduceLE Int.reduceEq Int.reduceNe Int.reduceBEq Int.reduceNeg List.forall_mem_cons List.not_mem_nil false_implies List.forall_mem_map implies_true Nat.reduceBNe Int.cast_ofNat_Int Int.reduceMul Int.reduceGE Int.reduceGT wrap_in ty_2 ty_3 ty_4 ty_5 ty_6 ty_7 ty_8 ty_9 ty_10 ty_11 ty_12 ty_13 ty_14 ty_18 ty_19 ty_21 ty_22 ty_23 ty_24 ty_25 ty_30 ty_31 ty_32 ty_33 ty_34 ty_44 ty_51 ty_52 ty_54 ty_55 ty_56 ty_57 ty_58 ty_74 ty_75 ty_78 ty_93 ty_94 ty_121 ty_122 ty_131 ty_132 ty_133 ty_134 ty_135 ty_137 ty_138 ty_139 ty_142 ty_143 ty_144 ty_145
set_option maxRecDepth 100000
set_option maxHeartbeats 4000000

structure PlusI where
  i : Nat
  k : Nat
  o : List TermD
theorem drop_at {α : Type} {l : List α} {k : Nat} {x : α} (h : l[k]? = some x) : l.drop k = x :: l.drop (k + 1) := by
  obtain ⟨hk, rfl⟩ := List.getElem?_eq_some_iff.1 h
  exact List.drop_eq_getElem_cons hk
theorem rplusT_c (a b : List TermD) (hs : smT a) (hs2 : smT b) : Contract Try.prog 46 [encTs a, encTs b] (encTs (plusD a b)) := by
  have hres := Try.results46
  have hla := smT_len hs
  have hlb := smT_len hs2
  have k1 := rrightT_c a 1500 hs
  have k2 := rrightT_c b 1500 hs2
  cases h1 : rightT a 1500
  · rw [h1] at k1
    refine Contract.ofA (CallA.inline Try.func46 rfl (by kernel_rfl) (by kernel_rfl) (by kernel_rfl) ?_)
    rw [Try.ntmps46]
    repeat (first
      | (refine hK _ ?_; clear hK; clear K)
      | (refine aSeq fun K hK => ?_)
      | (refine aBlock ?_)
      | (refine aSkip ?_)
      | (refine aExit ?_)
      | (refine aRet ?_)
      | (refine aOps _ rfl (by kernel_rfl) ?_)
      | (refine aRunK _ rfl mixed (by kernel_rfl) (by kernel_rfl) fun KE hE => ?_)
      | (refine hE _ _ (by kernel_rfl) (intsOk_no rfl) ?_; clear hE; clear KE)
      | (refine hE _ _ (by kernel_rfl) (intsOk_yes ?hi ?hj) ?_; (case hi => (repeat (refine intsDead_updB rfl ?_)); exact intsDead_nil); (case hj => simp); clear hE; clear KE)
      | (refine aCondT rfl ?hc ?_; case hc => simp only [go_sem, ↓reduceIte, hres])
      | (refine aCondF rfl ?hc ?_; case hc => simp only [go_sem, ↓reduceIte, hres])
      | (refine callT_of (k1) ?_ ?_; rotate_left; (repeat (refine intsDead_updB rfl ?_)); exact intsDead_nil)
      | (refine callT_ofN (k1) ?_)
      | (refine callU_of (k1) rfl ?_)
      | (refine callU_ofN (k1) rfl ?_)
      | (refine callT_of (k2) ?_ ?_; rotate_left; (repeat (refine intsDead_updB rfl ?_)); exact intsDead_nil)
      | (refine callT_ofN (k2) ?_)
      | (refine callU_of (k2) rfl ?_)
      | (refine callU_ofN (k2) rfl ?_)
      | (simp only [go_sem, ↓reduceIte, hres])
      | (refine And.intro ?ho ?_; (case ho => omega))
      | (clear hK; clear K))
    exact plusD_no (by rw [h1]; rfl)
  rw [h1] at k1
  cases h2 : rightT b 1500
  · rw [h2] at k2
    refine Contract.ofA (CallA.inline Try.func46 rfl (by kernel_rfl) (by kernel_rfl) (by kernel_rfl) ?_)
    rw [Try.ntmps46]
    repeat (first
      | (refine hK _ ?_; clear hK; clear K)
      | (refine aSeq fun K hK => ?_)
      | (refine aBlock ?_)
      | (refine aSkip ?_)
      | (refine aExit ?_)
      | (refine aRet ?_)
      | (refine aOps _ rfl (by kernel_rfl) ?_)
      | (refine aRunK _ rfl mixed (by kernel_rfl) (by kernel_rfl) fun KE hE => ?_)
      | (refine hE _ _ (by kernel_rfl) (intsOk_no rfl) ?_; clear hE; clear KE)
      | (refine hE _ _ (by kernel_rfl) (intsOk_yes ?hi ?hj) ?_; (case hi => (repeat (refine intsDead_updB rfl ?_)); exact intsDead_nil); (case hj => simp); clear hE; clear KE)
      | (refine aCondT rfl ?hc ?_; case hc => simp only [go_sem, ↓reduceIte, hres])
      | (refine aCondF rfl ?hc ?_; case hc => simp only [go_sem, ↓reduceIte, hres])
      | (refine callT_of (k1) ?_ ?_; rotate_left; (repeat (refine intsDead_updB rfl ?_)); exact intsDead_nil)
      | (refine callT_ofN (k1) ?_)
      | (refine callU_of (k1) rfl ?_)
      | (refine callU_ofN (k1) rfl ?_)
      | (refine callT_of (k2) ?_ ?_; rotate_left; (repeat (refine intsDead_updB rfl ?_)); exact intsDead_nil)
      | (refine callT_ofN (k2) ?_)
      | (refine callU_of (k2) rfl ?_)
      | (refine callU_ofN (k2) rfl ?_)
      | (simp only [go_sem, ↓reduceIte, hres])
      | (refine And.intro ?ho ?_; (case ho => omega))
      | (clear hK; clear K))
    exact plusD_no (by rw [h2, Bool.and_false])
  rw [h2] at k2
  refine Contract.ofA (CallA.inline Try.func46 rfl (by kernel_rfl) (by kernel_rfl) (by kernel_rfl) ?_)
  rw [Try.ntmps46]
  repeat (first
      | (refine hK _ ?_; clear hK; clear K)
      | (refine aSeq fun K hK => ?_)
      | (refine aBlock ?_)
      | (refine aSkip ?_)
      | (refine aExit ?_)
      | (refine aRet ?_)
      | (refine aOps _ rfl (by kernel_rfl) ?_)
      | (refine aRunK _ rfl mixed (by kernel_rfl) (by kernel_rfl) fun KE hE => ?_)
      | (refine hE _ _ (by kernel_rfl) (intsOk_no rfl) ?_; clear hE; clear KE)
      | (refine hE _ _ (by kernel_rfl) (intsOk_yes ?hi ?hj) ?_; (case hi => (repeat (refine intsDead_updB rfl ?_)); exact intsDead_nil); (case hj => simp); clear hE; clear KE)
      | (refine aCondT rfl ?hc ?_; case hc => simp only [go_sem, ↓reduceIte, hres])
      | (refine aCondF rfl ?hc ?_; case hc => simp only [go_sem, ↓reduceIte, hres])
      | (refine callT_of (k1) ?_ ?_; rotate_left; (repeat (refine intsDead_updB rfl ?_)); exact intsDead_nil)
      | (refine callT_ofN (k1) ?_)
      | (refine callU_of (k1) rfl ?_)
      | (refine callU_ofN (k1) rfl ?_)
      | (refine callT_of (k2) ?_ ?_; rotate_left; (repeat (refine intsDead_updB rfl ?_)); exact intsDead_nil)
      | (refine callT_ofN (k2) ?_)
      | (refine callU_of (k2) rfl ?_)
      | (refine callU_ofN (k2) rfl ?_)
      | (simp only [go_sem, ↓reduceIte, hres])
      | (refine And.intro ?ho ?_; (case ho => omega))
      | (clear hK; clear K))
  refine aLe (le_row 5 94 5 rfl) ?_
  have oa := okT_of hs h1
  have ob := okT_of hs2 h2
  have wa : IntKind.i64.wrap ((a.length : Int) - 1) = (a.length : Int) - 1 := wrap_in (by omega) (by omega)
  have wb : IntKind.i64.wrap ((b.length : Int) - 1) = (b.length : Int) - 1 := wrap_in (by omega) (by omega)
  refine aLoopT (fun (x : PlusI) => [(0, encTs a), (1, encTs b), (5, .ls 0 x.o.length), (6, dI x.i), (7, dI x.k)]) (fun x => [(0, ⟨94, x.o.length, 5, x.o.map cT, 0, false⟩)]) 1 0 (fun x => x.i ≤ a.length ∧ x.k ≤ b.length ∧ x.o ++ sumT (a.drop x.i) (b.drop x.k) = sumT a b ∧ x.o.length ≤ x.i + x.k) (fun x => (a.length - x.i) + (b.length - x.k)) ⟨0, 0, []⟩ ⟨by simp, by simp, rfl, by simp⟩ ?_ ?_
  · refine le_head _ _ _ ?_ ?_ ?_ ?_ ?_ (.inl rfl) <;> simp [go_sem, okD, okDs, okBlk] <;> (first | (intros; subst_vars; simp [okD, okDs]; done) | (intro _ h; rcases h with ⟨_, _, rfl⟩ | rfl <;> simp [okD, okDs]; done) | (intros; rename_i h; rcases h with ⟨_, _, rfl⟩ | rfl <;> simp [okD, okDs]))
  · rintro ⟨i, k, o⟩ ⟨hi, hk, ho, hlen⟩
    dsimp only at hi hk ho hlen ⊢
    have wi : IntKind.i64.wrap ((i : Int) + 1) = (i : Int) + 1 := wrap_in (by omega) (by omega)
    have wk : IntKind.i64.wrap ((k : Int) + 1) = (k : Int) + 1 := wrap_in (by omega) (by omega)
    have i0 : (0 : Int) ≤ i := by omega
    have k0 : (0 : Int) ≤ k := by omega
    by_cases p1 : (i : Int) < a.length
    · obtain ⟨x, hx⟩ : ∃ e, a[i]? = some e := ⟨_, List.getElem?_eq_getElem (by omega)⟩
      have p2 : ¬ (a.length : Int) - 1 < i := by omega
      have p3 : ¬ (i : Int) ≥ a.length := by omega
      rw [drop_at hx] at ho
      by_cases q1 : (k : Int) < b.length
      · obtain ⟨y, hy⟩ : ∃ e, b[k]? = some e := ⟨_, List.getElem?_eq_getElem (by omega)⟩
        have q2 : ¬ (b.length : Int) - 1 < k := by omega
        have q3 : ¬ (k : Int) ≥ b.length := by omega
        have q3' : ¬ (b.length : Int) ≤ k := by omega
        rw [drop_at hy] at ho
        by_cases h3 : x.v < y.v
        · repeat (first
      | (refine hK _ ?_; clear hK; clear K)
      | (refine aSeq fun K hK => ?_)
      | (refine aBlock ?_)
      | (refine aSkip ?_)
      | (refine aExit ?_)
      | (refine aRet ?_)
      | (refine aOps _ rfl (by kernel_rfl) ?_)
      | (refine aRunK _ rfl mixed (by kernel_rfl) (by kernel_rfl) fun KE hE => ?_)
      | (refine hE _ _ (by kernel_rfl) (intsOk_no rfl) ?_; clear hE; clear KE)
      | (refine hE _ _ (by kernel_rfl) (intsOk_yes ?hi ?hj) ?_; (case hi => (repeat (refine intsDead_updB rfl ?_)); exact intsDead_nil); (case hj => simp); clear hE; clear KE)
      | (refine aCondT rfl ?hc ?_; case hc => simp only [go_sem, ↓reduceIte, hres, i0, k0, wa, wb, wi, wk, hx, hy, p1, p2, p3, q1, q2, q3, h3])
      | (refine aCondF rfl ?hc ?_; case hc => simp only [go_sem, ↓reduceIte, hres, i0, k0, wa, wb, wi, wk, hx, hy, p1, p2, p3, q1, q2, q3, h3])
      | (simp only [go_sem, ↓reduceIte, hres, i0, k0, wa, wb, wi, wk, hx, hy, p1, p2, p3, q1, q2, q3, h3])
      | (refine And.intro ?ho ?_; (case ho => omega))
      | (clear hK; clear K))
          exact loop_end ⟨i + 1, k, o ++ [x]⟩ ⟨by dsimp only; omega, by dsimp only; omega, by rw [← ho, sumT_lt _ _ h3, drop_at hy]; simp, by simp; omega⟩ (by simp; omega) (by refine le_head _ _ _ ?_ ?_ ?_ ?_ ?_ (.inl rfl) <;> simp [go_sem, okD, okDs, okBlk] <;> (first | (intros; subst_vars; simp [okD, okDs]; done) | (intro _ h; rcases h with ⟨_, _, rfl⟩ | rfl <;> simp [okD, okDs]; done) | (intros; rename_i h; rcases h with ⟨_, _, rfl⟩ | rfl <;> simp [okD, okDs])))
        by_cases h4 : y.v < x.v
        · repeat (first
      | (refine hK _ ?_; clear hK; clear K)
      | (refine aSeq fun K hK => ?_)
      | (refine aBlock ?_)
      | (refine aSkip ?_)
      | (refine aExit ?_)
      | (refine aRet ?_)
      | (refine aOps _ rfl (by kernel_rfl) ?_)
      | (refine aRunK _ rfl mixed (by kernel_rfl) (by kernel_rfl) fun KE hE => ?_)
      | (refine hE _ _ (by kernel_rfl) (intsOk_no rfl) ?_; clear hE; clear KE)
      | (refine hE _ _ (by kernel_rfl) (intsOk_yes ?hi ?hj) ?_; (case hi => (repeat (refine intsDead_updB rfl ?_)); exact intsDead_nil); (case hj => simp); clear hE; clear KE)
      | (refine aCondT rfl ?hc ?_; case hc => simp only [go_sem, ↓reduceIte, hres, i0, k0, wa, wb, wi, wk, hx, hy, p1, p2, p3, q1, q2, q3, h3, h4])
      | (refine aCondF rfl ?hc ?_; case hc => simp only [go_sem, ↓reduceIte, hres, i0, k0, wa, wb, wi, wk, hx, hy, p1, p2, p3, q1, q2, q3, h3, h4])
      | (simp only [go_sem, ↓reduceIte, hres, i0, k0, wa, wb, wi, wk, hx, hy, p1, p2, p3, q1, q2, q3, h3, h4])
      | (refine And.intro ?ho ?_; (case ho => omega))
      | (clear hK; clear K))
          exact loop_end ⟨i, k + 1, o ++ [y]⟩ ⟨by dsimp only; omega, by dsimp only; omega, by rw [← ho, sumT_gt _ _ h4, drop_at hx]; simp, by simp; omega⟩ (by simp; omega) (by refine le_head _ _ _ ?_ ?_ ?_ ?_ ?_ (.inl rfl) <;> simp [go_sem, okD, okDs, okBlk] <;> (first | (intros; subst_vars; simp [okD, okDs]; done) | (intro _ h; rcases h with ⟨_, _, rfl⟩ | rfl <;> simp [okD, okDs]; done) | (intros; rename_i h; rcases h with ⟨_, _, rfl⟩ | rfl <;> simp [okD, okDs])))
        have ka := raddF_c x.f y.f (smF_j (oa x (mem_at hx)).1) (smF_j (ob y (mem_at hy)).1)
        rw [show addD x.f y.f = (ofQ (qOf x.f + qOf y.f), 0) by simp [addD, (oa x (mem_at hx)).2, (ob y (mem_at hy)).2]] at ka
        have e6 : (ofQ (qOf x.f + qOf y.f)).p.s = sgQ (qOf x.f + qOf y.f) := rfl
        by_cases h5 : qOf x.f + qOf y.f = 0
        · have h6 : ((ofQ (qOf x.f + qOf y.f)).p.s != 0) = false := by rw [e6]; simp [sgQ_zero.2 h5]
          repeat (first
      | (refine hK _ ?_; clear hK; clear K)
      | (refine aSeq fun K hK => ?_)
      | (refine aBlock ?_)
      | (refine aSkip ?_)
      | (refine aExit ?_)
      | (refine aRet ?_)
      | (refine aOps _ rfl (by kernel_rfl) ?_)
      | (refine aRunK _ rfl mixed (by kernel_rfl) (by kernel_rfl) fun KE hE => ?_)
      | (refine hE _ _ (by kernel_rfl) (intsOk_no rfl) ?_; clear hE; clear KE)
      | (refine hE _ _ (by kernel_rfl) (intsOk_yes ?hi ?hj) ?_; (case hi => (repeat (refine intsDead_updB rfl ?_)); exact intsDead_nil); (case hj => simp); clear hE; clear KE)
      | (refine aCondT rfl ?hc ?_; case hc => simp only [go_sem, ↓reduceIte, hres, i0, k0, wa, wb, wi, wk, hx, hy, p1, p2, p3, q1, q2, q3, h3, h4, h6])
      | (refine aCondF rfl ?hc ?_; case hc => simp only [go_sem, ↓reduceIte, hres, i0, k0, wa, wb, wi, wk, hx, hy, p1, p2, p3, q1, q2, q3, h3, h4, h6])
      | (refine callT_of (ka) ?_ ?_; rotate_left; (repeat (refine intsDead_updB rfl ?_)); exact intsDead_nil)
      | (refine callT_ofN (ka) ?_)
      | (refine callU_of (ka) rfl ?_)
      | (refine callU_ofN (ka) rfl ?_)
      | (simp only [go_sem, ↓reduceIte, hres, i0, k0, wa, wb, wi, wk, hx, hy, p1, p2, p3, q1, q2, q3, h3, h4, h6])
      | (refine And.intro ?ho ?_; (case ho => omega))
      | (clear hK; clear K))
          exact loop_end ⟨i + 1, k + 1, o⟩ ⟨by dsimp only; omega, by dsimp only; omega, by rw [← ho, sumT_zero _ _ h3 h4 h5], by dsimp only; omega⟩ (by dsimp only; omega) (by refine le_head _ _ _ ?_ ?_ ?_ ?_ ?_ (.inl rfl) <;> simp [go_sem, okD, okDs, okBlk] <;> (first | (intros; subst_vars; simp [okD, okDs]; done) | (intro _ h; rcases h with ⟨_, _, rfl⟩ | rfl <;> simp [okD, okDs]; done) | (intros; rename_i h; rcases h with ⟨_, _, rfl⟩ | rfl <;> simp [okD, okDs])))
        · have h6 : ((ofQ (qOf x.f + qOf y.f)).p.s != 0) = true := by rw [e6]; simp [sgQ_zero, h5]
          repeat (first
      | (refine hK _ ?_; clear hK; clear K)
      | (refine aSeq fun K hK => ?_)
      | (refine aBlock ?_)
      | (refine aSkip ?_)
      | (refine aExit ?_)
      | (refine aRet ?_)
      | (refine aOps _ rfl (by kernel_rfl) ?_)
      | (refine aRunK _ rfl mixed (by kernel_rfl) (by kernel_rfl) fun KE hE => ?_)
      | (refine hE _ _ (by kernel_rfl) (intsOk_no rfl) ?_; clear hE; clear KE)
      | (refine hE _ _ (by kernel_rfl) (intsOk_yes ?hi ?hj) ?_; (case hi => (repeat (refine intsDead_updB rfl ?_)); exact intsDead_nil); (case hj => simp); clear hE; clear KE)
      | (refine aCondT rfl ?hc ?_; case hc => simp only [go_sem, ↓reduceIte, hres, i0, k0, wa, wb, wi, wk, hx, hy, p1, p2, p3, q1, q2, q3, h3, h4, h6])
      | (refine aCondF rfl ?hc ?_; case hc => simp only [go_sem, ↓reduceIte, hres, i0, k0, wa, wb, wi, wk, hx, hy, p1, p2, p3, q1, q2, q3, h3, h4, h6])
      | (refine callT_of (ka) ?_ ?_; rotate_left; (repeat (refine intsDead_updB rfl ?_)); exact intsDead_nil)
      | (refine callT_ofN (ka) ?_)
      | (refine callU_of (ka) rfl ?_)
      | (refine callU_ofN (ka) rfl ?_)
      | (simp only [go_sem, ↓reduceIte, hres, i0, k0, wa, wb, wi, wk, hx, hy, p1, p2, p3, q1, q2, q3, h3, h4, h6])
      | (refine And.intro ?ho ?_; (case ho => omega))
      | (clear hK; clear K))
          exact loop_end ⟨i + 1, k + 1, o ++ [⟨x.v, ofQ (qOf x.f + qOf y.f)⟩]⟩ ⟨by dsimp only; omega, by dsimp only; omega, by rw [← ho, sumT_eq _ _ h3 h4 h5]; simp, by simp; omega⟩ (by dsimp only; omega) (by refine le_head _ _ _ ?_ ?_ ?_ ?_ ?_ (.inl rfl) <;> simp [go_sem, okD, okDs, okBlk] <;> (first | (intros; subst_vars; simp [okD, okDs]; done) | (intro _ h; rcases h with ⟨_, _, rfl⟩ | rfl <;> simp [okD, okDs]; done) | (intros; rename_i h; rcases h with ⟨_, _, rfl⟩ | rfl <;> simp [okD, okDs])))
      · have q3 : (k : Int) ≥ b.length := by omega
        rw [List.drop_of_length_le (by omega : b.length ≤ k), sumT_left] at ho
        repeat (first
      | (refine hK _ ?_; clear hK; clear K)
      | (refine aSeq fun K hK => ?_)
      | (refine aBlock ?_)
      | (refine aSkip ?_)
      | (refine aExit ?_)
      | (refine aRet ?_)
      | (refine aOps _ rfl (by kernel_rfl) ?_)
      | (refine aRunK _ rfl mixed (by kernel_rfl) (by kernel_rfl) fun KE hE => ?_)
      | (refine hE _ _ (by kernel_rfl) (intsOk_no rfl) ?_; clear hE; clear KE)
      | (refine hE _ _ (by kernel_rfl) (intsOk_yes ?hi ?hj) ?_; (case hi => (repeat (refine intsDead_updB rfl ?_)); exact intsDead_nil); (case hj => simp); clear hE; clear KE)
      | (refine aCondT rfl ?hc ?_; case hc => simp only [go_sem, ↓reduceIte, hres, i0, k0, wi, hx, p1, p2, p3, q1, q3])
      | (refine aCondF rfl ?hc ?_; case hc => simp only [go_sem, ↓reduceIte, hres, i0, k0, wi, hx, p1, p2, p3, q1, q3])
      | (simp only [go_sem, ↓reduceIte, hres, i0, k0, wi, hx, p1, p2, p3, q1, q3])
      | (refine And.intro ?ho ?_; (case ho => omega))
      | (clear hK; clear K))
        exact loop_end ⟨i + 1, k, o ++ [x]⟩ ⟨by dsimp only; omega, by dsimp only; omega, by rw [← ho, List.drop_of_length_le (by omega : b.length ≤ k)]; simp, by simp; omega⟩ (by simp; omega) (by refine le_head _ _ _ ?_ ?_ ?_ ?_ ?_ (.inl rfl) <;> simp [go_sem, okD, okDs, okBlk] <;> (first | (intros; subst_vars; simp [okD, okDs]; done) | (intro _ h; rcases h with ⟨_, _, rfl⟩ | rfl <;> simp [okD, okDs]; done) | (intros; rename_i h; rcases h with ⟨_, _, rfl⟩ | rfl <;> simp [okD, okDs])))
    · have p3 : (i : Int) ≥ a.length := by omega
      by_cases q1 : (k : Int) < b.length
      · obtain ⟨y, hy⟩ : ∃ e, b[k]? = some e := ⟨_, List.getElem?_eq_getElem (by omega)⟩
        have q3 : ¬ (k : Int) ≥ b.length := by omega
        rw [List.drop_of_length_le (by omega : a.length ≤ i), drop_at hy, sumT_right] at ho
        repeat (first
      | (refine hK _ ?_; clear hK; clear K)
      | (refine aSeq fun K hK => ?_)
      | (refine aBlock ?_)
      | (refine aSkip ?_)
      | (refine aExit ?_)
      | (refine aRet ?_)
      | (refine aOps _ rfl (by kernel_rfl) ?_)
      | (refine aRunK _ rfl mixed (by kernel_rfl) (by kernel_rfl) fun KE hE => ?_)
      | (refine hE _ _ (by kernel_rfl) (intsOk_no rfl) ?_; clear hE; clear KE)
      | (refine hE _ _ (by kernel_rfl) (intsOk_yes ?hi ?hj) ?_; (case hi => (repeat (refine intsDead_updB rfl ?_)); exact intsDead_nil); (case hj => simp); clear hE; clear KE)
      | (refine aCondT rfl ?hc ?_; case hc => simp only [go_sem, ↓reduceIte, hres, i0, k0, wk, hy, p1, p3, q1, q3])
      | (refine aCondF rfl ?hc ?_; case hc => simp only [go_sem, ↓reduceIte, hres, i0, k0, wk, hy, p1, p3, q1, q3])
      | (simp only [go_sem, ↓reduceIte, hres, i0, k0, wk, hy, p1, p3, q1, q3])
      | (refine And.intro ?ho ?_; (case ho => omega))
      | (clear hK; clear K))
        exact loop_end ⟨i, k + 1, o ++ [y]⟩ ⟨by dsimp only; omega, by dsimp only; omega, by rw [← ho, List.drop_of_length_le (by omega : a.length ≤ i)]; simp, by simp; omega⟩ (by simp; omega) (by refine le_head _ _ _ ?_ ?_ ?_ ?_ ?_ (.inl rfl) <;> simp [go_sem, okD, okDs, okBlk] <;> (first | (intros; subst_vars; simp [okD, okDs]; done) | (intro _ h; rcases h with ⟨_, _, rfl⟩ | rfl <;> simp [okD, okDs]; done) | (intros; rename_i h; rcases h with ⟨_, _, rfl⟩ | rfl <;> simp [okD, okDs])))
      · rw [List.drop_of_length_le (by omega : a.length ≤ i), List.drop_of_length_le (by omega : b.length ≤ k), sumT_nil, List.append_nil] at ho
        subst ho
        repeat (first
      | (refine hK _ ?_; clear hK; clear K)
      | (refine aSeq fun K hK => ?_)
      | (refine aBlock ?_)
      | (refine aSkip ?_)
      | (refine aExit ?_)
      | (refine aRet ?_)
      | (refine aOps _ rfl (by kernel_rfl) ?_)
      | (refine aRunK _ rfl mixed (by kernel_rfl) (by kernel_rfl) fun KE hE => ?_)
      | (refine hE _ _ (by kernel_rfl) (intsOk_no rfl) ?_; clear hE; clear KE)
      | (refine hE _ _ (by kernel_rfl) (intsOk_yes ?hi ?hj) ?_; (case hi => (repeat (refine intsDead_updB rfl ?_)); exact intsDead_nil); (case hj => simp); clear hE; clear KE)
      | (refine aCondT rfl ?hc ?_; case hc => simp only [go_sem, ↓reduceIte, hres, p1, q1])
      | (refine aCondF rfl ?hc ?_; case hc => simp only [go_sem, ↓reduceIte, hres, p1, q1])
      | (simp only [go_sem, ↓reduceIte, hres, p1, q1])
      | (refine And.intro ?ho ?_; (case ho => omega))
      | (clear hK; clear K))
        rw [plusD_yes h1 h2]
        exact fz_terms _ _ _

/-! Same. -/
def sameT (x y : TermD) : Bool := x.v == y.v && sameF x.f y.f
def sameTs : List TermD → List TermD → Bool
  | [], [] => true
  | x :: a, y :: b => sameT x y && sameTs a b
  | _, _ => false
theorem sameTs_len {a b : List TermD} (h : ((a.length : Int) != b.length) = true) : sameTs a b = false := by
  induction a generalizing b with
  | nil => cases b with
    | nil => simp at h
    | cons y b => rfl
  | cons x a ih => cases b with
    | nil => rfl
    | cons y b => simp only [sameTs]; rw [ih (by simp at h ⊢; omega), Bool.and_false]
theorem sameTs_at {a b : List TermD} {k : Nat} {x y : TermD} (hx : a[k]? = some x) (hy : b[k]? = some y) (h : sameT x y = false) : sameTs a b = false := by
  induction a generalizing b k with
  | nil => simp at hx
  | cons u a ih => cases b with
    | nil => rfl
    | cons v b =>
      cases k with
      | zero => simp at hx hy; subst hx; subst hy; simp only [sameTs, h, Bool.false_and]
      | succ k => simp only [sameTs]; rw [ih (by simpa using hx) (by simpa using hy), Bool.and_false]
theorem sameTs_all {a b : List TermD} (hl : a.length = b.length) (h : ∀ (k : Nat) (x y : TermD), a[k]? = some x → b[k]? = some y → sameT x y = true) : sameTs a b = true := by
  induction a generalizing b with
  | nil => cases b with
    | nil => rfl
    | cons y b => simp at hl
  | cons u a ih => cases b with
    | nil => simp at hl
    | cons v b =>
      simp only [sameTs]
      rw [h 0 u v rfl rfl, ih (by simpa using hl) (fun k x y hx hy => h (k + 1) x y (by simpa using hx) (by simpa using hy))]
      rfl
theorem sameTs_iff {a b : List TermD} : sameTs a b = true ↔ a = b := by
  induction a generalizing b with
  | nil => cases b <;> simp [sameTs]
  | cons x a ih => cases b with
    | nil => simp [sameTs]
    | cons y b =>
      have : sameT x y = true ↔ x = y := by
        cases x with | mk v f => cases y with | mk u g => cases f with | mk p q => cases g with | mk p' q' => simp [sameT, sameF, sameB_iff]
      simp [sameTs, this, ih]
theorem sameT1_c (x y : TermD) : ContractN Try.prog 85 [encT x, encT y] (dB (sameT x y)) := by
  refine Contract.toN ?_ rfl
  refine Contract.ofA (CallA.inline Try.func85 rfl (by kernel_rfl) (by kernel_rfl) (by kernel_rfl) ?_)
  rw [Try.ntmps85]
  have hres := Try.results85
  have hc := fsame_c x.f y.f
  cases h : x.v == y.v
  · repeat (first
      | (refine hK _ ?_; clear hK; clear K)
      | (refine aSeq fun K hK => ?_)
      | (refine aBlock ?_)
      | (refine aSkip ?_)
      | (refine aExit ?_)
      | (refine aRet ?_)
      | (refine aOps _ rfl (by kernel_rfl) ?_)
      | (refine aRunK _ rfl mixed (by kernel_rfl) (by kernel_rfl) fun KE hE => ?_)
      | (refine hE _ _ (by kernel_rfl) (intsOk_no rfl) ?_; clear hE; clear KE)
      | (refine hE _ _ (by kernel_rfl) (intsOk_yes ?hi ?hj) ?_; (case hi => (repeat (refine intsDead_updB rfl ?_)); exact intsDead_nil); (case hj => simp); clear hE; clear KE)
      | (refine aCondT rfl ?hc ?_; case hc => simp only [go_sem, ↓reduceIte, hres, h])
      | (refine aCondF rfl ?hc ?_; case hc => simp only [go_sem, ↓reduceIte, hres, h])
      | (refine callT_of (hc) ?_ ?_; rotate_left; (repeat (refine intsDead_updB rfl ?_)); exact intsDead_nil)
      | (refine callT_ofN (hc) ?_)
      | (refine callU_of (hc) rfl ?_)
      | (refine callU_ofN (hc) rfl ?_)
      | (simp only [go_sem, ↓reduceIte, hres, h])
      | (refine And.intro ?ho ?_; (case ho => omega))
      | (clear hK; clear K))
    exact bool_eq (by simp only [sameT, h, Bool.false_and])
  · repeat (first
      | (refine hK _ ?_; clear hK; clear K)
      | (refine aSeq fun K hK => ?_)
      | (refine aBlock ?_)
      | (refine aSkip ?_)
      | (refine aExit ?_)
      | (refine aRet ?_)
      | (refine aOps _ rfl (by kernel_rfl) ?_)
      | (refine aRunK _ rfl mixed (by kernel_rfl) (by kernel_rfl) fun KE hE => ?_)
      | (refine hE _ _ (by kernel_rfl) (intsOk_no rfl) ?_; clear hE; clear KE)
      | (refine hE _ _ (by kernel_rfl) (intsOk_yes ?hi ?hj) ?_; (case hi => (repeat (refine intsDead_updB rfl ?_)); exact intsDead_nil); (case hj => simp); clear hE; clear KE)
      | (refine aCondT rfl ?hc ?_; case hc => simp only [go_sem, ↓reduceIte, hres, h])
      | (refine aCondF rfl ?hc ?_; case hc => simp only [go_sem, ↓reduceIte, hres, h])
      | (refine callT_of (hc) ?_ ?_; rotate_left; (repeat (refine intsDead_updB rfl ?_)); exact intsDead_nil)
      | (refine callT_ofN (hc) ?_)
      | (refine callU_of (hc) rfl ?_)
      | (refine callU_ofN (hc) rfl ?_)
      | (simp only [go_sem, ↓reduceIte, hres, h])
      | (refine And.intro ?ho ?_; (case ho => omega))
      | (clear hK; clear K))
    exact bool_eq (by simp only [sameT, h, Bool.true_and])
theorem equalT_c (a b : List TermD) (ha : (a.length : Int) ≤ 1099511627776) : ContractN Try.prog 84 [encTs a, encTs b, .clo 85 []] (dB (sameTs a b)) := by
  refine Contract.toN ?_ rfl
  refine Contract.ofA (CallA.inline Try.func84 rfl (by kernel_rfl) (by kernel_rfl) (by kernel_rfl) ?_)
  rw [Try.ntmps84]
  have hres := Try.results84
  cases hl : (a.length : Int) != b.length
  rotate_left
  · repeat (first
      | (refine hK _ ?_; clear hK; clear K)
      | (refine aSeq fun K hK => ?_)
      | (refine aBlock ?_)
      | (refine aSkip ?_)
      | (refine aExit ?_)
      | (refine aRet ?_)
      | (refine aOps _ rfl (by kernel_rfl) ?_)
      | (refine aRunK _ rfl mixed (by kernel_rfl) (by kernel_rfl) fun KE hE => ?_)
      | (refine hE _ _ (by kernel_rfl) (intsOk_no rfl) ?_; clear hE; clear KE)
      | (refine hE _ _ (by kernel_rfl) (intsOk_yes ?hi ?hj) ?_; (case hi => (repeat (refine intsDead_updB rfl ?_)); exact intsDead_nil); (case hj => simp); clear hE; clear KE)
      | (refine aCondT rfl ?hc ?_; case hc => simp only [go_sem, ↓reduceIte, hres, hl])
      | (refine aCondF rfl ?hc ?_; case hc => simp only [go_sem, ↓reduceIte, hres, hl])
      | (simp only [go_sem, ↓reduceIte, hres, hl])
      | (refine And.intro ?ho ?_; (case ho => omega))
      | (clear hK; clear K))
    exact bool_eq (sameTs_len hl).symm
  have hl' : a.length = b.length := by simp at hl; omega
  repeat (first
      | (refine hK _ ?_; clear hK; clear K)
      | (refine aSeq fun K hK => ?_)
      | (refine aBlock ?_)
      | (refine aSkip ?_)
      | (refine aExit ?_)
      | (refine aRet ?_)
      | (refine aOps _ rfl (by kernel_rfl) ?_)
      | (refine aRunK _ rfl mixed (by kernel_rfl) (by kernel_rfl) fun KE hE => ?_)
      | (refine hE _ _ (by kernel_rfl) (intsOk_no rfl) ?_; clear hE; clear KE)
      | (refine hE _ _ (by kernel_rfl) (intsOk_yes ?hi ?hj) ?_; (case hi => (repeat (refine intsDead_updB rfl ?_)); exact intsDead_nil); (case hj => simp); clear hE; clear KE)
      | (refine aCondT rfl ?hc ?_; case hc => simp only [go_sem, ↓reduceIte, hres, hl])
      | (refine aCondF rfl ?hc ?_; case hc => simp only [go_sem, ↓reduceIte, hres, hl])
      | (simp only [go_sem, ↓reduceIte, hres, hl])
      | (refine And.intro ?ho ?_; (case ho => omega))
      | (clear hK; clear K))
  refine aLoopT (fun (k : Nat) => [(1, encTs b), (2, .clo 85 []), (15, encTs a), (16, dI a.length), (17, dI k)]) (fun _ => []) 0 0 (fun k => k ≤ a.length ∧ ∀ (j : Nat) x y, j < k → a[j]? = some x → b[j]? = some y → sameT x y = true) (fun k => a.length - k) 0 ⟨by omega, fun j x y h => absurd h (Nat.not_lt_zero _)⟩ ?_ ?_
  · refine le_head _ _ _ ?_ ?_ ?_ ?_ ?_ (.inl rfl) <;> simp [go_sem, okD, okDs, okBlk] <;> (first | (intros; subst_vars; simp [okD, okDs]; done) | (intro _ h; rcases h with ⟨_, _, rfl⟩ | rfl <;> simp [okD, okDs]; done) | (intros; rename_i h; rcases h with ⟨_, _, rfl⟩ | rfl <;> simp [okD, okDs]))
  · rintro k ⟨hk, hg⟩
    have hw : IntKind.i64.wrap ((k : Int) + 1) = (k : Int) + 1 := wrap_in (by omega) (by omega)
    have h0 : (0 : Int) ≤ k := by omega
    by_cases h1 : (k : Int) < a.length
    · obtain ⟨x, hx⟩ : ∃ e, a[k]? = some e := ⟨_, List.getElem?_eq_getElem (by omega)⟩
      obtain ⟨y, hy⟩ : ∃ e, b[k]? = some e := ⟨_, List.getElem?_eq_getElem (by omega)⟩
      have h1b : (k : Int) < b.length := by omega
      have hc := sameT1_c x y
      cases h2 : sameT x y
      · rw [h2] at hc
        repeat (first
      | (refine hK _ ?_; clear hK; clear K)
      | (refine aSeq fun K hK => ?_)
      | (refine aBlock ?_)
      | (refine aSkip ?_)
      | (refine aExit ?_)
      | (refine aRet ?_)
      | (refine aOps _ rfl (by kernel_rfl) ?_)
      | (refine aRunK _ rfl mixed (by kernel_rfl) (by kernel_rfl) fun KE hE => ?_)
      | (refine hE _ _ (by kernel_rfl) (intsOk_no rfl) ?_; clear hE; clear KE)
      | (refine hE _ _ (by kernel_rfl) (intsOk_yes ?hi ?hj) ?_; (case hi => (repeat (refine intsDead_updB rfl ?_)); exact intsDead_nil); (case hj => simp); clear hE; clear KE)
      | (refine aCondT rfl ?hc ?_; case hc => simp only [go_sem, ↓reduceIte, hres, h0, h1, h1b, hx, hy, hw])
      | (refine aCondF rfl ?hc ?_; case hc => simp only [go_sem, ↓reduceIte, hres, h0, h1, h1b, hx, hy, hw])
      | (refine callT_of (hc) ?_ ?_; rotate_left; (repeat (refine intsDead_updB rfl ?_)); exact intsDead_nil)
      | (refine callT_ofN (hc) ?_)
      | (refine callU_of (hc) rfl ?_)
      | (refine callU_ofN (hc) rfl ?_)
      | (simp only [go_sem, ↓reduceIte, hres, h0, h1, h1b, hx, hy, hw])
      | (refine And.intro ?ho ?_; (case ho => omega))
      | (clear hK; clear K))
        exact bool_eq (sameTs_at hx hy h2).symm
      · rw [h2] at hc
        repeat (first
      | (refine hK _ ?_; clear hK; clear K)
      | (refine aSeq fun K hK => ?_)
      | (refine aBlock ?_)
      | (refine aSkip ?_)
      | (refine aExit ?_)
      | (refine aRet ?_)
      | (refine aOps _ rfl (by kernel_rfl) ?_)
      | (refine aRunK _ rfl mixed (by kernel_rfl) (by kernel_rfl) fun KE hE => ?_)
      | (refine hE _ _ (by kernel_rfl) (intsOk_no rfl) ?_; clear hE; clear KE)
      | (refine hE _ _ (by kernel_rfl) (intsOk_yes ?hi ?hj) ?_; (case hi => (repeat (refine intsDead_updB rfl ?_)); exact intsDead_nil); (case hj => simp); clear hE; clear KE)
      | (refine aCondT rfl ?hc ?_; case hc => simp only [go_sem, ↓reduceIte, hres, h0, h1, h1b, hx, hy, hw])
      | (refine aCondF rfl ?hc ?_; case hc => simp only [go_sem, ↓reduceIte, hres, h0, h1, h1b, hx, hy, hw])
      | (refine callT_of (hc) ?_ ?_; rotate_left; (repeat (refine intsDead_updB rfl ?_)); exact intsDead_nil)
      | (refine callT_ofN (hc) ?_)
      | (refine callU_of (hc) rfl ?_)
      | (refine callU_ofN (hc) rfl ?_)
      | (simp only [go_sem, ↓reduceIte, hres, h0, h1, h1b, hx, hy, hw])
      | (refine And.intro ?ho ?_; (case ho => omega))
      | (clear hK; clear K))
        refine loop_end (k + 1) ⟨by omega, fun j u v hj hu hv => ?_⟩ (by omega) (by refine le_head _ _ _ ?_ ?_ ?_ ?_ ?_ (.inl rfl) <;> simp [go_sem, okD, okDs, okBlk] <;> (first | (intros; subst_vars; simp [okD, okDs]; done) | (intro _ h; rcases h with ⟨_, _, rfl⟩ | rfl <;> simp [okD, okDs]; done) | (intros; rename_i h; rcases h with ⟨_, _, rfl⟩ | rfl <;> simp [okD, okDs])))
        rcases Nat.lt_or_ge j k with h | h
        · exact hg j u v h hu hv
        · obtain rfl : j = k := by omega
          rw [hx] at hu; rw [hy] at hv; cases hu; cases hv; exact h2
    · repeat (first
      | (refine hK _ ?_; clear hK; clear K)
      | (refine aSeq fun K hK => ?_)
      | (refine aBlock ?_)
      | (refine aSkip ?_)
      | (refine aExit ?_)
      | (refine aRet ?_)
      | (refine aOps _ rfl (by kernel_rfl) ?_)
      | (refine aRunK _ rfl mixed (by kernel_rfl) (by kernel_rfl) fun KE hE => ?_)
      | (refine hE _ _ (by kernel_rfl) (intsOk_no rfl) ?_; clear hE; clear KE)
      | (refine hE _ _ (by kernel_rfl) (intsOk_yes ?hi ?hj) ?_; (case hi => (repeat (refine intsDead_updB rfl ?_)); exact intsDead_nil); (case hj => simp); clear hE; clear KE)
      | (refine aCondT rfl ?hc ?_; case hc => simp only [go_sem, ↓reduceIte, hres, h1])
      | (refine aCondF rfl ?hc ?_; case hc => simp only [go_sem, ↓reduceIte, hres, h1])
      | (simp only [go_sem, ↓reduceIte, hres, h1])
      | (refine And.intro ?ho ?_; (case ho => omega))
      | (clear hK; clear K))
      exact bool_eq (sameTs_all hl' fun j x y hx hy => hg j x y (by have := (List.getElem?_eq_some_iff.1 hx).1; omega) hx hy).symm
theorem lsame_c (a b : List TermD) (ha : (a.length : Int) ≤ 1099511627776) : ContractN Try.prog 49 [encTs a, encTs b] (dB (sameTs a b)) := by
  refine Contract.toN ?_ rfl
  refine Contract.ofA (CallA.inline Try.func49 rfl (by kernel_rfl) (by kernel_rfl) (by kernel_rfl) ?_)
  rw [Try.ntmps49]
  have hres := Try.results49
  have hc := equalT_c a b ha
  repeat (first
      | (refine hK _ ?_; clear hK; clear K)
      | (refine aSeq fun K hK => ?_)
      | (refine aBlock ?_)
      | (refine aSkip ?_)
      | (refine aExit ?_)
      | (refine aRet ?_)
      | (refine aOps _ rfl (by kernel_rfl) ?_)
      | (refine aRunK _ rfl mixed (by kernel_rfl) (by kernel_rfl) fun KE hE => ?_)
      | (refine hE _ _ (by kernel_rfl) (intsOk_no rfl) ?_; clear hE; clear KE)
      | (refine hE _ _ (by kernel_rfl) (intsOk_yes ?hi ?hj) ?_; (case hi => (repeat (refine intsDead_updB rfl ?_)); exact intsDead_nil); (case hj => simp); clear hE; clear KE)
      | (refine aCondT rfl ?hc ?_; case hc => simp only [go_sem, ↓reduceIte, hres])
      | (refine aCondF rfl ?hc ?_; case hc => simp only [go_sem, ↓reduceIte, hres])
      | (refine callT_of (hc) ?_ ?_; rotate_left; (repeat (refine intsDead_updB rfl ?_)); exact intsDead_nil)
      | (refine callT_ofN (hc) ?_)
      | (refine callU_of (hc) rfl ?_)
      | (refine callU_ofN (hc) rfl ?_)
      | (simp only [go_sem, ↓reduceIte, hres])
      | (refine And.intro ?ho ?_; (case ho => omega))
      | (clear hK; clear K))
theorem rsameT_c (a b : List TermD) (ha : (a.length : Int) ≤ 1099511627776) (hz : ∀ t ∈ a, (szF t.f : Int) ≤ 9007199254740992) : ContractN Try.prog 44 [encTs a, encTs b] (dB (sameTs a b)) := by
  refine Contract.toN ?_ rfl
  refine Contract.ofA (CallA.inline Try.func44 rfl (by kernel_rfl) (by kernel_rfl) (by kernel_rfl) ?_)
  rw [Try.ntmps44]
  have hres := Try.results44
  cases hl : (a.length : Int) != b.length
  rotate_left
  · repeat (first
      | (refine hK _ ?_; clear hK; clear K)
      | (refine aSeq fun K hK => ?_)
      | (refine aBlock ?_)
      | (refine aSkip ?_)
      | (refine aExit ?_)
      | (refine aRet ?_)
      | (refine aOps _ rfl (by kernel_rfl) ?_)
      | (refine aRunK _ rfl mixed (by kernel_rfl) (by kernel_rfl) fun KE hE => ?_)
      | (refine hE _ _ (by kernel_rfl) (intsOk_no rfl) ?_; clear hE; clear KE)
      | (refine hE _ _ (by kernel_rfl) (intsOk_yes ?hi ?hj) ?_; (case hi => (repeat (refine intsDead_updB rfl ?_)); exact intsDead_nil); (case hj => simp); clear hE; clear KE)
      | (refine aCondT rfl ?hc ?_; case hc => simp only [go_sem, ↓reduceIte, hres, hl])
      | (refine aCondF rfl ?hc ?_; case hc => simp only [go_sem, ↓reduceIte, hres, hl])
      | (simp only [go_sem, ↓reduceIte, hres, hl])
      | (refine And.intro ?ho ?_; (case ho => omega))
      | (clear hK; clear K))
    exact bool_eq (sameTs_len hl).symm
  have hl' : a.length = b.length := by simp at hl; omega
  repeat (first
      | (refine hK _ ?_; clear hK; clear K)
      | (refine aSeq fun K hK => ?_)
      | (refine aBlock ?_)
      | (refine aSkip ?_)
      | (refine aExit ?_)
      | (refine aRet ?_)
      | (refine aOps _ rfl (by kernel_rfl) ?_)
      | (refine aRunK _ rfl mixed (by kernel_rfl) (by kernel_rfl) fun KE hE => ?_)
      | (refine hE _ _ (by kernel_rfl) (intsOk_no rfl) ?_; clear hE; clear KE)
      | (refine hE _ _ (by kernel_rfl) (intsOk_yes ?hi ?hj) ?_; (case hi => (repeat (refine intsDead_updB rfl ?_)); exact intsDead_nil); (case hj => simp); clear hE; clear KE)
      | (refine aCondT rfl ?hc ?_; case hc => simp only [go_sem, ↓reduceIte, hres, hl])
      | (refine aCondF rfl ?hc ?_; case hc => simp only [go_sem, ↓reduceIte, hres, hl])
      | (simp only [go_sem, ↓reduceIte, hres, hl])
      | (refine And.intro ?ho ?_; (case ho => omega))
      | (clear hK; clear K))
  refine aLoopT (fun (k : Nat) => [(0, encTs a), (1, encTs b), (5, dI k)]) (fun _ => []) 0 0 (fun k => k ≤ a.length ∧ ∀ (j : Nat) x y, j < k → a[j]? = some x → b[j]? = some y → sameT x y = true) (fun k => a.length - k) 0 ⟨by omega, fun j x y h => absurd h (Nat.not_lt_zero _)⟩ ?_ ?_
  · refine le_head _ _ _ ?_ ?_ ?_ ?_ ?_ (.inl rfl) <;> simp [go_sem, okD, okDs, okBlk] <;> (first | (intros; subst_vars; simp [okD, okDs]; done) | (intro _ h; rcases h with ⟨_, _, rfl⟩ | rfl <;> simp [okD, okDs]; done) | (intros; rename_i h; rcases h with ⟨_, _, rfl⟩ | rfl <;> simp [okD, okDs]))
  · rintro k ⟨hk, hg⟩
    have hw : IntKind.i64.wrap ((k : Int) + 1) = (k : Int) + 1 := wrap_in (by omega) (by omega)
    have h0 : (0 : Int) ≤ k := by omega
    by_cases h1 : (k : Int) < a.length
    · obtain ⟨x, hx⟩ : ∃ e, a[k]? = some e := ⟨_, List.getElem?_eq_getElem (by omega)⟩
      obtain ⟨y, hy⟩ : ∃ e, b[k]? = some e := ⟨_, List.getElem?_eq_getElem (by omega)⟩
      have h1b : (k : Int) < b.length := by omega
      have hc := (rsameF_c x.f y.f (hz x (mem_at hx))).toN rfl
      cases h2 : x.v != y.v
      rotate_left
      · repeat (first
      | (refine hK _ ?_; clear hK; clear K)
      | (refine aSeq fun K hK => ?_)
      | (refine aBlock ?_)
      | (refine aSkip ?_)
      | (refine aExit ?_)
      | (refine aRet ?_)
      | (refine aOps _ rfl (by kernel_rfl) ?_)
      | (refine aRunK _ rfl mixed (by kernel_rfl) (by kernel_rfl) fun KE hE => ?_)
      | (refine hE _ _ (by kernel_rfl) (intsOk_no rfl) ?_; clear hE; clear KE)
      | (refine hE _ _ (by kernel_rfl) (intsOk_yes ?hi ?hj) ?_; (case hi => (repeat (refine intsDead_updB rfl ?_)); exact intsDead_nil); (case hj => simp); clear hE; clear KE)
      | (refine aCondT rfl ?hc ?_; case hc => simp only [go_sem, ↓reduceIte, hres, h0, h1, h1b, hx, hy, h2, hw])
      | (refine aCondF rfl ?hc ?_; case hc => simp only [go_sem, ↓reduceIte, hres, h0, h1, h1b, hx, hy, h2, hw])
      | (refine callT_of (hc) ?_ ?_; rotate_left; (repeat (refine intsDead_updB rfl ?_)); exact intsDead_nil)
      | (refine callT_ofN (hc) ?_)
      | (refine callU_of (hc) rfl ?_)
      | (refine callU_ofN (hc) rfl ?_)
      | (simp only [go_sem, ↓reduceIte, hres, h0, h1, h1b, hx, hy, h2, hw])
      | (refine And.intro ?ho ?_; (case ho => omega))
      | (clear hK; clear K))
        exact bool_eq (sameTs_at hx hy (by simp at h2; simp [sameT, h2])).symm
      cases h3 : sameF x.f y.f
      · rw [h3] at hc
        repeat (first
      | (refine hK _ ?_; clear hK; clear K)
      | (refine aSeq fun K hK => ?_)
      | (refine aBlock ?_)
      | (refine aSkip ?_)
      | (refine aExit ?_)
      | (refine aRet ?_)
      | (refine aOps _ rfl (by kernel_rfl) ?_)
      | (refine aRunK _ rfl mixed (by kernel_rfl) (by kernel_rfl) fun KE hE => ?_)
      | (refine hE _ _ (by kernel_rfl) (intsOk_no rfl) ?_; clear hE; clear KE)
      | (refine hE _ _ (by kernel_rfl) (intsOk_yes ?hi ?hj) ?_; (case hi => (repeat (refine intsDead_updB rfl ?_)); exact intsDead_nil); (case hj => simp); clear hE; clear KE)
      | (refine aCondT rfl ?hc ?_; case hc => simp only [go_sem, ↓reduceIte, hres, h0, h1, h1b, hx, hy, h2, hw])
      | (refine aCondF rfl ?hc ?_; case hc => simp only [go_sem, ↓reduceIte, hres, h0, h1, h1b, hx, hy, h2, hw])
      | (refine callT_of (hc) ?_ ?_; rotate_left; (repeat (refine intsDead_updB rfl ?_)); exact intsDead_nil)
      | (refine callT_ofN (hc) ?_)
      | (refine callU_of (hc) rfl ?_)
      | (refine callU_ofN (hc) rfl ?_)
      | (simp only [go_sem, ↓reduceIte, hres, h0, h1, h1b, hx, hy, h2, hw])
      | (refine And.intro ?ho ?_; (case ho => omega))
      | (clear hK; clear K))
        exact bool_eq (sameTs_at hx hy (by simp [sameT, h3])).symm
      · rw [h3] at hc
        repeat (first
      | (refine hK _ ?_; clear hK; clear K)
      | (refine aSeq fun K hK => ?_)
      | (refine aBlock ?_)
      | (refine aSkip ?_)
      | (refine aExit ?_)
      | (refine aRet ?_)
      | (refine aOps _ rfl (by kernel_rfl) ?_)
      | (refine aRunK _ rfl mixed (by kernel_rfl) (by kernel_rfl) fun KE hE => ?_)
      | (refine hE _ _ (by kernel_rfl) (intsOk_no rfl) ?_; clear hE; clear KE)
      | (refine hE _ _ (by kernel_rfl) (intsOk_yes ?hi ?hj) ?_; (case hi => (repeat (refine intsDead_updB rfl ?_)); exact intsDead_nil); (case hj => simp); clear hE; clear KE)
      | (refine aCondT rfl ?hc ?_; case hc => simp only [go_sem, ↓reduceIte, hres, h0, h1, h1b, hx, hy, h2, hw])
      | (refine aCondF rfl ?hc ?_; case hc => simp only [go_sem, ↓reduceIte, hres, h0, h1, h1b, hx, hy, h2, hw])
      | (refine callT_of (hc) ?_ ?_; rotate_left; (repeat (refine intsDead_updB rfl ?_)); exact intsDead_nil)
      | (refine callT_ofN (hc) ?_)
      | (refine callU_of (hc) rfl ?_)
      | (refine callU_ofN (hc) rfl ?_)
      | (simp only [go_sem, ↓reduceIte, hres, h0, h1, h1b, hx, hy, h2, hw])
      | (refine And.intro ?ho ?_; (case ho => omega))
      | (clear hK; clear K))
        refine loop_end (k + 1) ⟨by omega, fun j u v hj hu hv => ?_⟩ (by omega) (by refine le_head _ _ _ ?_ ?_ ?_ ?_ ?_ (.inl rfl) <;> simp [go_sem, okD, okDs, okBlk] <;> (first | (intros; subst_vars; simp [okD, okDs]; done) | (intro _ h; rcases h with ⟨_, _, rfl⟩ | rfl <;> simp [okD, okDs]; done) | (intros; rename_i h; rcases h with ⟨_, _, rfl⟩ | rfl <;> simp [okD, okDs])))
        rcases Nat.lt_or_ge j k with h | h
        · exact hg j u v h hu hv
        · obtain rfl : j = k := by omega
          rw [hx] at hu; rw [hy] at hv; cases hu; cases hv
          simp at h2
          simp [sameT, h2, h3]
    · repeat (first
      | (refine hK _ ?_; clear hK; clear K)
      | (refine aSeq fun K hK => ?_)
      | (refine aBlock ?_)
      | (refine aSkip ?_)
      | (refine aExit ?_)
      | (refine aRet ?_)
      | (refine aOps _ rfl (by kernel_rfl) ?_)
      | (refine aRunK _ rfl mixed (by kernel_rfl) (by kernel_rfl) fun KE hE => ?_)
      | (refine hE _ _ (by kernel_rfl) (intsOk_no rfl) ?_; clear hE; clear KE)
      | (refine hE _ _ (by kernel_rfl) (intsOk_yes ?hi ?hj) ?_; (case hi => (repeat (refine intsDead_updB rfl ?_)); exact intsDead_nil); (case hj => simp); clear hE; clear KE)
      | (refine aCondT rfl ?hc ?_; case hc => simp only [go_sem, ↓reduceIte, hres, h1])
      | (refine aCondF rfl ?hc ?_; case hc => simp only [go_sem, ↓reduceIte, hres, h1])
      | (simp only [go_sem, ↓reduceIte, hres, h1])
      | (refine And.intro ?ho ?_; (case ho => omega))
      | (clear hK; clear K))
      exact bool_eq (sameTs_all hl' fun j x y hx hy => hg j x y (by have := (List.getElem?_eq_some_iff.1 hx).1; omega) hx hy).symm
end Go.Proofs.Ytenmlcpbjjlokaa
