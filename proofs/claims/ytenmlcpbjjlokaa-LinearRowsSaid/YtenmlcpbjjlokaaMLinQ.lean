/-
  LinearRows: the walk.
-/
import Derived.Test.YtenmlcpbjjlokaaMLinE

/-
  LinearRows: the walk.
-/
namespace Go.Proofs.Ytenmlcpbjjlokaa
set_option linter.unusedVariables false
set_option linter.unusedSimpArgs false
open Go Go.RowKit
attribute [local go_sem] opsL_nil opsL_go opsL_guard gSel_tt gSel_ff gSel_tf gSel_ft stepR_some stepR_none callS_some callE_some runL_nil runL_go runL_guard gSelE_tt gSelE_ff gSelE_tf gSelE_ft stepE_some stepE_none opF callD rd constD putT upd_get guardL gOf_bool gOf_undef fieldAddrF fieldF loadF storeF indexAddrF indexF sliceF strSliceF bound buildF fillF buildSliceF elemsF allocF makeSliceF lenF elemsOf appendF minmaxF convertF boxF ldE blkAt spliceE D.cells? D.isCell Res.pure ov TyI.agg binD unD boolD initT thenA inBlockA argD argDs refsD refsL killW datJ datJs endA_ret endA_normal endR_some oneD_one oneD_two oneD_three oneD_four resDs resD fzT Value.oneCell' strip tabT tabM
attribute [local go_sem] List.map Nat.reduceEqDiff Nat.reduceBEq List.getElem?_cons_zero List.getElem?_cons_succ List.getElem?_nil Option.getD_some Option.getD_none true_and and_true true_or or_true false_or or_false and_self Nat.add_zero Nat.zero_add List.length_nil List.length_cons forall_const ite_true ite_false Bool.or_self Bool.false_eq_true Option.map_some Option.map_none beq_self_eq_true Nat.reduceAdd Nat.reduceSub Nat.reduceMul reduceCtorEq List.getElem?_toArray Bool.not_true Bool.not_false decide_eq_true_eq decide_true decide_false Nat.reduceLeDiff Nat.reduceLT Bool.or_false Bool.or_true Bool.and_true Bool.and_false Bool.false_and Bool.true_and Bool.true_beq Bool.false_beq beq_true beq_false Bool.not_eq_true List.drop_succ_cons List.take_succ_cons List.drop_zero List.take_zero List.length_map List.getElem?_map List.length_append List.all_cons List.all_nil List.append_nil List.nil_append List.cons_append List.set_cons_zero List.set_cons_succ Int.toNat_natCast Int.toNat_zero Option.isSome_some Option.isSome_none Array.size_empty ByteArray.size_empty Int.reduceToNat Int.reduceAdd Int.reduceSub Int.reduceLT Int.reduceLE Int.reduceEq Int.reduceNe Int.reduceBEq Int.reduceNeg List.forall_mem_cons List.not_mem_nil false_implies List.forall_mem_map implies_true Nat.reduceBNe Int.cast_ofNat_Int Int.reduceMul Int.reduceGE Int.reduceGT wrap_in ty_2 ty_3 ty_4 ty_5 ty_6 ty_7 ty_8 ty_9 ty_10 ty_11 ty_12 ty_13 ty_14 ty_18 ty_19 ty_21 ty_22 ty_23 ty_24 ty_25 ty_30 ty_31 ty_32 ty_33 ty_34 ty_44 ty_51 ty_52 ty_54 ty_55 ty_56 ty_57 ty_58 ty_74 ty_75 ty_78 ty_93 ty_94 ty_121 ty_122 ty_131 ty_132 ty_133 ty_134 ty_135 ty_137 ty_138 ty_139 ty_142 ty_143 ty_144 ty_145
set_option maxRecDepth 100000
set_option maxHeartbeats 16000000

def allK (s : SysD) (x : List FracD) (k : Nat) : Bool := holdsS ⟨s.n, []⟩ x && (s.r.take k).all (fun w => holdsS ⟨s.n, [w]⟩ x)
def rightK (s : SysD) (k : Nat) : Bool := rightS ⟨s.n, []⟩ && (s.r.take k).all (fun w => rightS ⟨s.n, [w]⟩)
def turnK (s : SysD) (k : Nat) : List RowD := s.r.reverse.take k
theorem all_take_add {α : Type} {p : α → Bool} {l : List α} {k : Nat} {x : α} (hx : l[k]? = some x) : (l.take (k + 1)).all p = ((l.take k).all p && p x) := by
  rw [List.take_add_one, hx]; simp [List.all_append]
theorem allK_succ {s : SysD} {x : List FracD} {k : Nat} {w : RowD} (hx : s.r[k]? = some w) : allK s x (k + 1) = (allK s x k && holdsS ⟨s.n, [w]⟩ x) := by
  unfold allK; rw [all_take_add hx, Bool.and_assoc]
theorem rightK_succ {s : SysD} {k : Nat} {w : RowD} (hx : s.r[k]? = some w) : rightK s (k + 1) = (rightK s k && rightS ⟨s.n, [w]⟩) := by
  unfold rightK; rw [all_take_add hx, Bool.and_assoc]
theorem turnK_succ {s : SysD} {k : Nat} {w : RowD} (hk : k < s.r.length) (hx : s.r[s.r.length - 1 - k]? = some w) : turnK s (k + 1) = turnK s k ++ [w] := by
  unfold turnK
  rw [List.take_add_one, List.getElem?_reverse hk, hx]
  rfl
theorem turnK_len (s : SysD) (k : Nat) : (turnK s k).length ≤ s.r.length := by
  unfold turnK
  have := List.length_take_le' k s.r.reverse
  rwa [List.length_reverse] at this
theorem allK_zero (s : SysD) (x : List FracD) : allK s x 0 = holdsS ⟨s.n, []⟩ x := by simp [allK]
theorem rightK_zero (s : SysD) : rightK s 0 = rightS ⟨s.n, []⟩ := by simp [rightK]
theorem turnK_zero (s : SysD) : turnK s 0 = [] := rfl
theorem right_rows {s : SysD} (h : (s.r.length : Int) ≤ 6000) : rightK s s.r.length = rightS s := by
  rw [Bool.eq_iff_iff]
  unfold rightK
  rw [List.take_length]
  simp only [rightS, Bool.and_eq_true, decide_eq_true_eq, List.all_eq_true, List.all_cons, List.all_nil, List.length_nil, List.length_cons]
  constructor
  · rintro ⟨⟨⟨⟨h1, h2⟩, _⟩, _⟩, h3⟩
    exact ⟨⟨⟨h1, h2⟩, h⟩, fun w hw => (h3 w hw).2.1⟩
  · rintro ⟨⟨⟨h1, h2⟩, _⟩, h3⟩
    exact ⟨⟨⟨⟨h1, h2⟩, by decide⟩, trivial⟩, fun w hw => ⟨⟨⟨h1, h2⟩, by decide⟩, h3 w hw, trivial⟩⟩
theorem hold_rows {s : SysD} {x : List FracD} (h : (s.r.length : Int) ≤ 6000) : allK s x s.r.length = holdsS s x := by
  rw [Bool.eq_iff_iff]
  unfold allK
  rw [List.take_length]
  simp only [holdsS, rightS, Bool.and_eq_true, decide_eq_true_eq, List.all_eq_true, List.all_cons, List.all_nil, List.length_nil, List.length_cons]
  constructor
  · rintro ⟨⟨⟨⟨⟨⟨⟨⟨h1, h2⟩, _⟩, _⟩, h3⟩, h4⟩, h5⟩, _⟩, h6⟩
    exact ⟨⟨⟨⟨⟨⟨⟨h1, h2⟩, h⟩, fun w hw => (h6 w hw).1.1.1.1.2.1⟩, h3⟩, h4⟩, h5⟩, fun w hw => (h6 w hw).2.1⟩
  · rintro ⟨⟨⟨⟨⟨⟨⟨h1, h2⟩, _⟩, h7⟩, h3⟩, h4⟩, h5⟩, h6⟩
    exact ⟨⟨⟨⟨⟨⟨⟨⟨h1, h2⟩, by decide⟩, trivial⟩, h3⟩, h4⟩, h5⟩, trivial⟩, fun w hw => ⟨⟨⟨⟨⟨⟨⟨h1, h2⟩, by decide⟩, h7 w hw, trivial⟩, h3⟩, h4⟩, h5⟩, h6 w hw, trivial⟩⟩
theorem hold_turn {s : SysD} {x : List FracD} : holdsS ⟨s.n, turnK s s.r.length⟩ x = holdsS s x := by
  have e : turnK s s.r.length = s.r.reverse := by unfold turnK; rw [List.take_of_length_le (by simp)]
  rw [e]
  simp [holdsS, rightS, List.all_reverse]
theorem hold_right {s : SysD} {x : List FracD} (h : rightS s = false) : holdsS s x = false := by simp [holdsS, h]

theorem rows8_c (s : SysD) (x : List FracD) : Contract Try.prog 11 [encS s, encFs x] (dB true) := by
  have hres := Try.results11
  have k0 := small8_c
  have c1 := fewS_c s 12 10 6 (by decide) (by decide)
  have c2 := fewP_c x 12 6 (by decide)
  cases h1 : fewS s 12 10 6
  · rw [h1] at c1
    refine Contract.ofA (CallA.inline Try.func11 rfl (by kernel_rfl) (by kernel_rfl) (by kernel_rfl) ?_)
    rw [Try.ntmps11]
    repeat (first
      | (refine hK _ ?_; clear hK; clear K)
      | (refine aSeq fun K hK => ?_)
      | (refine aBlock ?_)
      | (refine aSkip ?_)
      | (refine aExit ?_)
      | (refine aRet ?_)
      | (refine aOps _ rfl (by kernel_rfl) ?_)
      | (refine aRunK _ rfl mixed (by kernel_rfl) (by kernel_rfl) fun KE hE => ?_)
      | (refine hE _ _ (by kernel_rfl) (intsOk_no rfl) ?_; clear hE; clear KE)
      | (refine hE _ _ (by kernel_rfl) (intsOk_yes ?hi ?hj) ?_; (case hi => (repeat (refine intsDead_updB rfl ?_)); exact intsDead_nil); (case hj => simp); clear hE; clear KE)
      | (refine aCondT rfl ?hc ?_; case hc => simp only [go_sem, ↓reduceIte, hres])
      | (refine aCondF rfl ?hc ?_; case hc => simp only [go_sem, ↓reduceIte, hres])
      | (refine callT_of (k0) ?_ ?_; rotate_left; (repeat (refine intsDead_updB rfl ?_)); exact intsDead_nil)
      | (refine callT_ofN (k0) ?_)
      | (refine callU_of (k0) rfl ?_)
      | (refine callU_ofN (k0) rfl ?_)
      | (refine callT_of (c1) ?_ ?_; rotate_left; (repeat (refine intsDead_updB rfl ?_)); exact intsDead_nil)
      | (refine callT_ofN (c1) ?_)
      | (refine callU_of (c1) rfl ?_)
      | (refine callU_ofN (c1) rfl ?_)
      | (simp only [go_sem, ↓reduceIte, hres])
      | (refine And.intro ?ho ?_; (case ho => omega))
      | (clear hK; clear K))
  rw [h1] at c1
  cases h2 : fewP x 12 6
  · rw [h2] at c2
    refine Contract.ofA (CallA.inline Try.func11 rfl (by kernel_rfl) (by kernel_rfl) (by kernel_rfl) ?_)
    rw [Try.ntmps11]
    repeat (first
      | (refine hK _ ?_; clear hK; clear K)
      | (refine aSeq fun K hK => ?_)
      | (refine aBlock ?_)
      | (refine aSkip ?_)
      | (refine aExit ?_)
      | (refine aRet ?_)
      | (refine aOps _ rfl (by kernel_rfl) ?_)
      | (refine aRunK _ rfl mixed (by kernel_rfl) (by kernel_rfl) fun KE hE => ?_)
      | (refine hE _ _ (by kernel_rfl) (intsOk_no rfl) ?_; clear hE; clear KE)
      | (refine hE _ _ (by kernel_rfl) (intsOk_yes ?hi ?hj) ?_; (case hi => (repeat (refine intsDead_updB rfl ?_)); exact intsDead_nil); (case hj => simp); clear hE; clear KE)
      | (refine aCondT rfl ?hc ?_; case hc => simp only [go_sem, ↓reduceIte, hres])
      | (refine aCondF rfl ?hc ?_; case hc => simp only [go_sem, ↓reduceIte, hres])
      | (refine callT_of (k0) ?_ ?_; rotate_left; (repeat (refine intsDead_updB rfl ?_)); exact intsDead_nil)
      | (refine callT_ofN (k0) ?_)
      | (refine callU_of (k0) rfl ?_)
      | (refine callU_ofN (k0) rfl ?_)
      | (refine callT_of (c1) ?_ ?_; rotate_left; (repeat (refine intsDead_updB rfl ?_)); exact intsDead_nil)
      | (refine callT_ofN (c1) ?_)
      | (refine callU_of (c1) rfl ?_)
      | (refine callU_ofN (c1) rfl ?_)
      | (refine callT_of (c2) ?_ ?_; rotate_left; (repeat (refine intsDead_updB rfl ?_)); exact intsDead_nil)
      | (refine callT_ofN (c2) ?_)
      | (refine callU_of (c2) rfl ?_)
      | (refine callU_ofN (c2) rfl ?_)
      | (simp only [go_sem, ↓reduceIte, hres])
      | (refine And.intro ?ho ?_; (case ho => omega))
      | (clear hK; clear K))
  rw [h2] at c2
  have ss := fewS_sm (by decide) (by decide) (by decide) h1
  have sx := fewP_sm (by decide) (by decide) h2
  have hl : (s.r.length : Int) ≤ 10 := by simp only [fewS, Bool.and_eq_true, decide_eq_true_eq] at h1; exact h1.1.2
  have se : smS ⟨s.n, []⟩ := ⟨by simp, fun w hw => by cases hw⟩
  have e1 := lholds_c ⟨s.n, []⟩ x se sx
  have e2 := lrightS_c ⟨s.n, []⟩ se
  refine Contract.ofA (CallA.inline Try.func11 rfl (by kernel_rfl) (by kernel_rfl) (by kernel_rfl) ?_)
  rw [Try.ntmps11]
  repeat ((fail_if_success (with_reducible refine at_region 6 ?_)); first
      | (refine hK _ ?_; clear hK; clear K)
      | (refine aSeq fun K hK => ?_)
      | (refine aBlock ?_)
      | (refine aSkip ?_)
      | (refine aExit ?_)
      | (refine aRet ?_)
      | (refine aOps _ rfl (by kernel_rfl) ?_)
      | (refine aRunK _ rfl mixed (by kernel_rfl) (by kernel_rfl) fun KE hE => ?_)
      | (refine hE _ _ (by kernel_rfl) (intsOk_no rfl) ?_; clear hE; clear KE)
      | (refine hE _ _ (by kernel_rfl) (intsOk_yes ?hi ?hj) ?_; (case hi => (repeat (refine intsDead_updB rfl ?_)); exact intsDead_nil); (case hj => simp); clear hE; clear KE)
      | (refine aCondT rfl ?hc ?_; case hc => simp only [go_sem, ↓reduceIte, hres])
      | (refine aCondF rfl ?hc ?_; case hc => simp only [go_sem, ↓reduceIte, hres])
      | (refine callT_of (k0) ?_ ?_; rotate_left; (repeat (refine intsDead_updB rfl ?_)); exact intsDead_nil)
      | (refine callT_ofN (k0) ?_)
      | (refine callU_of (k0) rfl ?_)
      | (refine callU_ofN (k0) rfl ?_)
      | (refine callT_of (c1) ?_ ?_; rotate_left; (repeat (refine intsDead_updB rfl ?_)); exact intsDead_nil)
      | (refine callT_ofN (c1) ?_)
      | (refine callU_of (c1) rfl ?_)
      | (refine callU_ofN (c1) rfl ?_)
      | (refine callT_of (c2) ?_ ?_; rotate_left; (repeat (refine intsDead_updB rfl ?_)); exact intsDead_nil)
      | (refine callT_ofN (c2) ?_)
      | (refine callU_of (c2) rfl ?_)
      | (refine callU_ofN (c2) rfl ?_)
      | (refine callT_of (e1) ?_ ?_; rotate_left; (repeat (refine intsDead_updB rfl ?_)); exact intsDead_nil)
      | (refine callT_ofN (e1) ?_)
      | (refine callU_of (e1) rfl ?_)
      | (refine callU_ofN (e1) rfl ?_)
      | (refine callT_of (e2) ?_ ?_; rotate_left; (repeat (refine intsDead_updB rfl ?_)); exact intsDead_nil)
      | (refine callT_ofN (e2) ?_)
      | (refine callU_of (e2) rfl ?_)
      | (refine callU_ofN (e2) rfl ?_)
      | (simp only [go_sem, ↓reduceIte, hres])
      | (refine And.intro ?ho ?_; (case ho => omega))
      | (clear hK; clear K))
  repeat (first
      | (refine hK _ ?_; clear hK; clear K)
      | (refine aSeq fun K hK => ?_)
      | (refine aBlock ?_)
      | (refine aSkip ?_)
      | (refine aExit ?_)
      | (refine aRet ?_)
      | (refine aOps _ rfl (by kernel_rfl) ?_)
      | (refine aRunK _ rfl mixed (by kernel_rfl) (by kernel_rfl) fun KE hE => ?_)
      | (refine hE _ _ (by kernel_rfl) (intsOk_no rfl) ?_; clear hE; clear KE)
      | (refine hE _ _ (by kernel_rfl) (intsOk_yes ?hi ?hj) ?_; (case hi => (repeat (refine intsDead_updB rfl ?_)); exact intsDead_nil); (case hj => simp); clear hE; clear KE)
      | (refine aCondT rfl ?hc ?_; case hc => simp only [go_sem, ↓reduceIte, hres])
      | (refine aCondF rfl ?hc ?_; case hc => simp only [go_sem, ↓reduceIte, hres])
      | (simp only [go_sem, ↓reduceIte, hres])
      | (refine And.intro ?ho ?_; (case ho => omega))
      | (clear hK; clear K))
  refine aLe (le_row 8 75 6 rfl) ?_
  refine aLoopT (fun (k : Nat) => [(1, encFs x), (2, .lp 0 0 0 0), (5, dB true), (6, dB (allK s x k)), (7, dB (rightK s k)), (8, .ls 1 k), (9, dI k)]) (fun k => [(0, ⟨58, 0, 2, [cS s], 0, false⟩), (1, ⟨75, k, 6, (turnK s k).map cW, 0, false⟩)]) 2 0 (fun k => k ≤ s.r.length) (fun k => s.r.length - k) 0 (by omega) ?_ ?_
  · refine le_head _ _ _ ?_ ?_ ?_ ?_ ?_ (.inl rfl) <;> simp [go_sem, okD, okDs, okBlk, allK_zero, rightK_zero, turnK_zero] <;> (first | (intros; subst_vars; simp [okD, okDs]; done) | (intro _ h; rcases h with ⟨_, _, rfl⟩ | rfl <;> simp [okD, okDs]; done) | (intros; rename_i h; rcases h with ⟨_, _, rfl⟩ | rfl <;> simp [okD, okDs]))
  · rintro k hk
    have hw : IntKind.i64.wrap ((k : Int) + 1) = (k : Int) + 1 := wrap_in (by omega) (by omega)
    have h0 : (0 : Int) ≤ k := by omega
    by_cases h3 : (k : Int) < s.r.length
    · obtain ⟨w, ht⟩ : ∃ e, s.r[k]? = some e := ⟨_, List.getElem?_eq_getElem (by omega)⟩
      obtain ⟨u, hu⟩ : ∃ e, s.r[s.r.length - 1 - k]? = some e := ⟨_, List.getElem?_eq_getElem (by omega)⟩
      have w1 : IntKind.i64.wrap ((s.r.length : Int) - 1) = (s.r.length : Int) - 1 := wrap_in (by omega) (by omega)
      have w2 : IntKind.i64.wrap ((s.r.length : Int) - 1 - k) = ((s.r.length - 1 - k : Nat) : Int) := by rw [wrap_in (by omega) (by omega)]; omega
      have w3 : ((s.r.length - 1 - k : Nat) : Int) < s.r.length := by omega
      have w4 : (0 : Int) ≤ ((s.r.length - 1 - k : Nat) : Int) := by omega
      have sw : smS ⟨s.n, [w]⟩ := ⟨by simp, fun u hu => by simp at hu; subst hu; exact ss.2 _ (mem_at ht)⟩
      have g1 := lholds_c ⟨s.n, [w]⟩ x sw sx
      have g2 := lrightS_c ⟨s.n, [w]⟩ sw
      have n1 := allK_succ (x := x) ht
      have n2 := rightK_succ ht
      have n3 := turnK_succ (by omega) hu
      have n4 := turnK_len s k
      cases h4 : allK s x k <;> cases h5 : rightK s k <;> rw [h4] at n1 <;> rw [h5] at n2 <;> simp only [Bool.false_and, Bool.true_and] at n1 n2
      · repeat (first
      | (refine hK _ ?_; clear hK; clear K)
      | (refine aSeq fun K hK => ?_)
      | (refine aBlock ?_)
      | (refine aSkip ?_)
      | (refine aExit ?_)
      | (refine aRet ?_)
      | (refine aOps _ rfl (by kernel_rfl) ?_)
      | (refine aRunK _ rfl mixed (by kernel_rfl) (by kernel_rfl) fun KE hE => ?_)
      | (refine hE _ _ (by kernel_rfl) (intsOk_no rfl) ?_; clear hE; clear KE)
      | (refine hE _ _ (by kernel_rfl) (intsOk_yes ?hi ?hj) ?_; (case hi => (repeat (refine intsDead_updB rfl ?_)); exact intsDead_nil); (case hj => simp); clear hE; clear KE)
      | (refine aCondT rfl ?hc ?_; case hc => simp only [go_sem, ↓reduceIte, hres, h0, h3, ht, hu, hw, w1, w2, w3, w4])
      | (refine aCondF rfl ?hc ?_; case hc => simp only [go_sem, ↓reduceIte, hres, h0, h3, ht, hu, hw, w1, w2, w3, w4])
      | (refine callT_of (g1) ?_ ?_; rotate_left; (repeat (refine intsDead_updB rfl ?_)); exact intsDead_nil)
      | (refine callT_ofN (g1) ?_)
      | (refine callU_of (g1) rfl ?_)
      | (refine callU_ofN (g1) rfl ?_)
      | (refine callT_of (g2) ?_ ?_; rotate_left; (repeat (refine intsDead_updB rfl ?_)); exact intsDead_nil)
      | (refine callT_ofN (g2) ?_)
      | (refine callU_of (g2) rfl ?_)
      | (refine callU_ofN (g2) rfl ?_)
      | (simp only [go_sem, ↓reduceIte, hres, h0, h3, ht, hu, hw, w1, w2, w3, w4])
      | (refine And.intro ?ho ?_; (case ho => omega))
      | (clear hK; clear K))
        exact loop_end (k + 1) (by omega) (by omega) (by refine le_head _ _ _ ?_ ?_ ?_ ?_ ?_ (.inl rfl) <;> simp [go_sem, okD, okDs, okBlk, n1, n2, n3] <;> (first | (intros; subst_vars; simp [okD, okDs]; done) | (intro _ h; rcases h with ⟨_, _, rfl⟩ | rfl <;> simp [okD, okDs]; done) | (intros; rename_i h; rcases h with ⟨_, _, rfl⟩ | rfl <;> simp [okD, okDs])))
      · repeat (first
      | (refine hK _ ?_; clear hK; clear K)
      | (refine aSeq fun K hK => ?_)
      | (refine aBlock ?_)
      | (refine aSkip ?_)
      | (refine aExit ?_)
      | (refine aRet ?_)
      | (refine aOps _ rfl (by kernel_rfl) ?_)
      | (refine aRunK _ rfl mixed (by kernel_rfl) (by kernel_rfl) fun KE hE => ?_)
      | (refine hE _ _ (by kernel_rfl) (intsOk_no rfl) ?_; clear hE; clear KE)
      | (refine hE _ _ (by kernel_rfl) (intsOk_yes ?hi ?hj) ?_; (case hi => (repeat (refine intsDead_updB rfl ?_)); exact intsDead_nil); (case hj => simp); clear hE; clear KE)
      | (refine aCondT rfl ?hc ?_; case hc => simp only [go_sem, ↓reduceIte, hres, h0, h3, ht, hu, hw, w1, w2, w3, w4])
      | (refine aCondF rfl ?hc ?_; case hc => simp only [go_sem, ↓reduceIte, hres, h0, h3, ht, hu, hw, w1, w2, w3, w4])
      | (refine callT_of (g1) ?_ ?_; rotate_left; (repeat (refine intsDead_updB rfl ?_)); exact intsDead_nil)
      | (refine callT_ofN (g1) ?_)
      | (refine callU_of (g1) rfl ?_)
      | (refine callU_ofN (g1) rfl ?_)
      | (refine callT_of (g2) ?_ ?_; rotate_left; (repeat (refine intsDead_updB rfl ?_)); exact intsDead_nil)
      | (refine callT_ofN (g2) ?_)
      | (refine callU_of (g2) rfl ?_)
      | (refine callU_ofN (g2) rfl ?_)
      | (simp only [go_sem, ↓reduceIte, hres, h0, h3, ht, hu, hw, w1, w2, w3, w4])
      | (refine And.intro ?ho ?_; (case ho => omega))
      | (clear hK; clear K))
        exact loop_end (k + 1) (by omega) (by omega) (by refine le_head _ _ _ ?_ ?_ ?_ ?_ ?_ (.inl rfl) <;> simp [go_sem, okD, okDs, okBlk, n1, n2, n3] <;> (first | (intros; subst_vars; simp [okD, okDs]; done) | (intro _ h; rcases h with ⟨_, _, rfl⟩ | rfl <;> simp [okD, okDs]; done) | (intros; rename_i h; rcases h with ⟨_, _, rfl⟩ | rfl <;> simp [okD, okDs])))
      · repeat (first
      | (refine hK _ ?_; clear hK; clear K)
      | (refine aSeq fun K hK => ?_)
      | (refine aBlock ?_)
      | (refine aSkip ?_)
      | (refine aExit ?_)
      | (refine aRet ?_)
      | (refine aOps _ rfl (by kernel_rfl) ?_)
      | (refine aRunK _ rfl mixed (by kernel_rfl) (by kernel_rfl) fun KE hE => ?_)
      | (refine hE _ _ (by kernel_rfl) (intsOk_no rfl) ?_; clear hE; clear KE)
      | (refine hE _ _ (by kernel_rfl) (intsOk_yes ?hi ?hj) ?_; (case hi => (repeat (refine intsDead_updB rfl ?_)); exact intsDead_nil); (case hj => simp); clear hE; clear KE)
      | (refine aCondT rfl ?hc ?_; case hc => simp only [go_sem, ↓reduceIte, hres, h0, h3, ht, hu, hw, w1, w2, w3, w4])
      | (refine aCondF rfl ?hc ?_; case hc => simp only [go_sem, ↓reduceIte, hres, h0, h3, ht, hu, hw, w1, w2, w3, w4])
      | (refine callT_of (g1) ?_ ?_; rotate_left; (repeat (refine intsDead_updB rfl ?_)); exact intsDead_nil)
      | (refine callT_ofN (g1) ?_)
      | (refine callU_of (g1) rfl ?_)
      | (refine callU_ofN (g1) rfl ?_)
      | (refine callT_of (g2) ?_ ?_; rotate_left; (repeat (refine intsDead_updB rfl ?_)); exact intsDead_nil)
      | (refine callT_ofN (g2) ?_)
      | (refine callU_of (g2) rfl ?_)
      | (refine callU_ofN (g2) rfl ?_)
      | (simp only [go_sem, ↓reduceIte, hres, h0, h3, ht, hu, hw, w1, w2, w3, w4])
      | (refine And.intro ?ho ?_; (case ho => omega))
      | (clear hK; clear K))
        exact loop_end (k + 1) (by omega) (by omega) (by refine le_head _ _ _ ?_ ?_ ?_ ?_ ?_ (.inl rfl) <;> simp [go_sem, okD, okDs, okBlk, n1, n2, n3] <;> (first | (intros; subst_vars; simp [okD, okDs]; done) | (intro _ h; rcases h with ⟨_, _, rfl⟩ | rfl <;> simp [okD, okDs]; done) | (intros; rename_i h; rcases h with ⟨_, _, rfl⟩ | rfl <;> simp [okD, okDs])))
      · repeat (first
      | (refine hK _ ?_; clear hK; clear K)
      | (refine aSeq fun K hK => ?_)
      | (refine aBlock ?_)
      | (refine aSkip ?_)
      | (refine aExit ?_)
      | (refine aRet ?_)
      | (refine aOps _ rfl (by kernel_rfl) ?_)
      | (refine aRunK _ rfl mixed (by kernel_rfl) (by kernel_rfl) fun KE hE => ?_)
      | (refine hE _ _ (by kernel_rfl) (intsOk_no rfl) ?_; clear hE; clear KE)
      | (refine hE _ _ (by kernel_rfl) (intsOk_yes ?hi ?hj) ?_; (case hi => (repeat (refine intsDead_updB rfl ?_)); exact intsDead_nil); (case hj => simp); clear hE; clear KE)
      | (refine aCondT rfl ?hc ?_; case hc => simp only [go_sem, ↓reduceIte, hres, h0, h3, ht, hu, hw, w1, w2, w3, w4])
      | (refine aCondF rfl ?hc ?_; case hc => simp only [go_sem, ↓reduceIte, hres, h0, h3, ht, hu, hw, w1, w2, w3, w4])
      | (refine callT_of (g1) ?_ ?_; rotate_left; (repeat (refine intsDead_updB rfl ?_)); exact intsDead_nil)
      | (refine callT_ofN (g1) ?_)
      | (refine callU_of (g1) rfl ?_)
      | (refine callU_ofN (g1) rfl ?_)
      | (refine callT_of (g2) ?_ ?_; rotate_left; (repeat (refine intsDead_updB rfl ?_)); exact intsDead_nil)
      | (refine callT_ofN (g2) ?_)
      | (refine callU_of (g2) rfl ?_)
      | (refine callU_ofN (g2) rfl ?_)
      | (simp only [go_sem, ↓reduceIte, hres, h0, h3, ht, hu, hw, w1, w2, w3, w4])
      | (refine And.intro ?ho ?_; (case ho => omega))
      | (clear hK; clear K))
        exact loop_end (k + 1) (by omega) (by omega) (by refine le_head _ _ _ ?_ ?_ ?_ ?_ ?_ (.inl rfl) <;> simp [go_sem, okD, okDs, okBlk, n1, n2, n3] <;> (first | (intros; subst_vars; simp [okD, okDs]; done) | (intro _ h; rcases h with ⟨_, _, rfl⟩ | rfl <;> simp [okD, okDs]; done) | (intros; rename_i h; rcases h with ⟨_, _, rfl⟩ | rfl <;> simp [okD, okDs])))
    · have e : k = s.r.length := by omega
      subst e
      have f1 := lrightS_c s ss
      have f2 := lholds_c s x ss sx
      have st : smS ⟨s.n, turnK s s.r.length⟩ := ⟨by have := turnK_len s s.r.length; dsimp only; omega, fun u hu => ss.2 u (by unfold turnK at hu; have := List.mem_of_mem_take hu; simpa using this)⟩
      have f3 := lholds_c ⟨s.n, turnK s s.r.length⟩ x st sx
      rw [hold_turn] at f3
      have j1 := map_map_id (f := cW) (g := datJ) (fun _ => rfl) (turnK s s.r.length)
      rw [hold_rows (by omega), right_rows (by omega)]
      cases h4 : rightS s
      · rw [h4] at f1
        rw [hold_right h4] at f2 f3 ⊢
        repeat (first
      | (refine hK _ ?_; clear hK; clear K)
      | (refine aSeq fun K hK => ?_)
      | (refine aBlock ?_)
      | (refine aSkip ?_)
      | (refine aExit ?_)
      | (refine aRet ?_)
      | (refine aOps _ rfl (by kernel_rfl) ?_)
      | (refine aRunK _ rfl mixed (by kernel_rfl) (by kernel_rfl) fun KE hE => ?_)
      | (refine hE _ _ (by kernel_rfl) (intsOk_no rfl) ?_; clear hE; clear KE)
      | (refine hE _ _ (by kernel_rfl) (intsOk_yes ?hi ?hj) ?_; (case hi => (repeat (refine intsDead_updB rfl ?_)); exact intsDead_nil); (case hj => simp); clear hE; clear KE)
      | (refine aCondT rfl ?hc ?_; case hc => simp only [go_sem, ↓reduceIte, hres, h3, j1, beq_self_eq_true])
      | (refine aCondF rfl ?hc ?_; case hc => simp only [go_sem, ↓reduceIte, hres, h3, j1, beq_self_eq_true])
      | (refine callT_of (f1) ?_ ?_; rotate_left; (repeat (refine intsDead_updB rfl ?_)); exact intsDead_nil)
      | (refine callT_ofN (f1) ?_)
      | (refine callU_of (f1) rfl ?_)
      | (refine callU_ofN (f1) rfl ?_)
      | (refine callT_of (f2) ?_ ?_; rotate_left; (repeat (refine intsDead_updB rfl ?_)); exact intsDead_nil)
      | (refine callT_ofN (f2) ?_)
      | (refine callU_of (f2) rfl ?_)
      | (refine callU_ofN (f2) rfl ?_)
      | (refine callT_of (f3) ?_ ?_; rotate_left; (repeat (refine intsDead_updB rfl ?_)); exact intsDead_nil)
      | (refine callT_ofN (f3) ?_)
      | (refine callU_of (f3) rfl ?_)
      | (refine callU_ofN (f3) rfl ?_)
      | (simp only [go_sem, ↓reduceIte, hres, h3, j1, beq_self_eq_true])
      | (refine And.intro ?ho ?_; (case ho => omega))
      | (clear hK; clear K))
      · rw [h4] at f1
        cases h5 : holdsS s x
        · rw [h5] at f2 f3
          repeat (first
      | (refine hK _ ?_; clear hK; clear K)
      | (refine aSeq fun K hK => ?_)
      | (refine aBlock ?_)
      | (refine aSkip ?_)
      | (refine aExit ?_)
      | (refine aRet ?_)
      | (refine aOps _ rfl (by kernel_rfl) ?_)
      | (refine aRunK _ rfl mixed (by kernel_rfl) (by kernel_rfl) fun KE hE => ?_)
      | (refine hE _ _ (by kernel_rfl) (intsOk_no rfl) ?_; clear hE; clear KE)
      | (refine hE _ _ (by kernel_rfl) (intsOk_yes ?hi ?hj) ?_; (case hi => (repeat (refine intsDead_updB rfl ?_)); exact intsDead_nil); (case hj => simp); clear hE; clear KE)
      | (refine aCondT rfl ?hc ?_; case hc => simp only [go_sem, ↓reduceIte, hres, h3, j1, beq_self_eq_true])
      | (refine aCondF rfl ?hc ?_; case hc => simp only [go_sem, ↓reduceIte, hres, h3, j1, beq_self_eq_true])
      | (refine callT_of (f1) ?_ ?_; rotate_left; (repeat (refine intsDead_updB rfl ?_)); exact intsDead_nil)
      | (refine callT_ofN (f1) ?_)
      | (refine callU_of (f1) rfl ?_)
      | (refine callU_ofN (f1) rfl ?_)
      | (refine callT_of (f2) ?_ ?_; rotate_left; (repeat (refine intsDead_updB rfl ?_)); exact intsDead_nil)
      | (refine callT_ofN (f2) ?_)
      | (refine callU_of (f2) rfl ?_)
      | (refine callU_ofN (f2) rfl ?_)
      | (refine callT_of (f3) ?_ ?_; rotate_left; (repeat (refine intsDead_updB rfl ?_)); exact intsDead_nil)
      | (refine callT_ofN (f3) ?_)
      | (refine callU_of (f3) rfl ?_)
      | (refine callU_ofN (f3) rfl ?_)
      | (simp only [go_sem, ↓reduceIte, hres, h3, j1, beq_self_eq_true])
      | (refine And.intro ?ho ?_; (case ho => omega))
      | (clear hK; clear K))
        · rw [h5] at f2 f3
          repeat (first
      | (refine hK _ ?_; clear hK; clear K)
      | (refine aSeq fun K hK => ?_)
      | (refine aBlock ?_)
      | (refine aSkip ?_)
      | (refine aExit ?_)
      | (refine aRet ?_)
      | (refine aOps _ rfl (by kernel_rfl) ?_)
      | (refine aRunK _ rfl mixed (by kernel_rfl) (by kernel_rfl) fun KE hE => ?_)
      | (refine hE _ _ (by kernel_rfl) (intsOk_no rfl) ?_; clear hE; clear KE)
      | (refine hE _ _ (by kernel_rfl) (intsOk_yes ?hi ?hj) ?_; (case hi => (repeat (refine intsDead_updB rfl ?_)); exact intsDead_nil); (case hj => simp); clear hE; clear KE)
      | (refine aCondT rfl ?hc ?_; case hc => simp only [go_sem, ↓reduceIte, hres, h3, j1, beq_self_eq_true])
      | (refine aCondF rfl ?hc ?_; case hc => simp only [go_sem, ↓reduceIte, hres, h3, j1, beq_self_eq_true])
      | (refine callT_of (f1) ?_ ?_; rotate_left; (repeat (refine intsDead_updB rfl ?_)); exact intsDead_nil)
      | (refine callT_ofN (f1) ?_)
      | (refine callU_of (f1) rfl ?_)
      | (refine callU_ofN (f1) rfl ?_)
      | (refine callT_of (f2) ?_ ?_; rotate_left; (repeat (refine intsDead_updB rfl ?_)); exact intsDead_nil)
      | (refine callT_ofN (f2) ?_)
      | (refine callU_of (f2) rfl ?_)
      | (refine callU_ofN (f2) rfl ?_)
      | (refine callT_of (f3) ?_ ?_; rotate_left; (repeat (refine intsDead_updB rfl ?_)); exact intsDead_nil)
      | (refine callT_ofN (f3) ?_)
      | (refine callU_of (f3) rfl ?_)
      | (refine callU_ofN (f3) rfl ?_)
      | (simp only [go_sem, ↓reduceIte, hres, h3, j1, beq_self_eq_true])
      | (refine And.intro ?ho ?_; (case ho => omega))
      | (clear hK; clear K))
end Go.Proofs.Ytenmlcpbjjlokaa
