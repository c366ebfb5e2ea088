/-
  Sizes of sums and products; LinearTells: the walk.
-/
import Derived.Test.YtenmlcpbjjlokaaMLinC

/-
  Sizes of sums and products; LinearTells: the walk.
-/
namespace Go.Proofs.Ytenmlcpbjjlokaa
set_option linter.unusedVariables false
set_option linter.unusedSimpArgs false
open Go Go.RowKit
attribute [local go_sem] opsL_nil opsL_go opsL_guard gSel_tt gSel_ff gSel_tf gSel_ft stepR_some stepR_none callS_some callE_some runL_nil runL_go runL_guard gSelE_tt gSelE_ff gSelE_tf gSelE_ft stepE_some stepE_none opF callD rd constD putT upd_get guardL gOf_bool gOf_undef fieldAddrF fieldF loadF storeF indexAddrF indexF sliceF strSliceF bound buildF fillF buildSliceF elemsF allocF makeSliceF lenF elemsOf appendF minmaxF convertF boxF ldE blkAt spliceE D.cells? D.isCell Res.pure ov TyI.agg binD unD boolD initT thenA inBlockA argD argDs refsD refsL killW datJ datJs endA_ret endA_normal endR_some oneD_one oneD_two oneD_three oneD_four resDs resD fzT Value.oneCell' strip tabT tabM
attribute [local go_sem] List.map Nat.reduceEqDiff Nat.reduceBEq List.getElem?_cons_zero List.getElem?_cons_succ List.getElem?_nil Option.getD_some Option.getD_none true_and and_true true_or or_true false_or or_false and_self Nat.add_zero Nat.zero_add List.length_nil List.length_cons forall_const ite_true ite_false Bool.or_self Bool.false_eq_true Option.map_some Option.map_none beq_self_eq_true Nat.reduceAdd Nat.reduceSub Nat.reduceMul reduceCtorEq List.getElem?_toArray Bool.not_true Bool.not_false decide_eq_true_eq decide_true decide_false Nat.reduceLeDiff Nat.reduceLT Bool.or_false Bool.or_true Bool.and_true Bool.and_false Bool.false_and Bool.true_and Bool.true_beq Bool.false_beq beq_true beq_false Bool.not_eq_true List.drop_succ_cons List.take_succ_cons List.drop_zero List.take_zero List.length_map List.getElem?_map List.length_append List.all_cons List.all_nil List.append_nil List.nil_append List.cons_append List.set_cons_zero List.set_cons_succ Int.toNat_natCast Int.toNat_zero Option.isSome_some Option.isSome_none Array.size_empty ByteArray.size_empty Int.reduceToNat Int.reduceAdd Int.reduceSub Int.reduceLT Int.reduceLE Int.reduceEq Int.reduceNe Int.reduceBEq Int.reduceNeg List.forall_mem_cons List.not_mem_nil false_implies List.forall_mem_map implies_true Nat.reduceBNe Int.cast_ofNat_Int Int.reduceMul Int.reduceGE Int.reduceGT wrap_in ty_2 ty_3 ty_4 ty_5 ty_6 ty_7 ty_8 ty_9 ty_10 ty_11 ty_12 ty_13 ty_14 ty_18 ty_19 ty_21 ty_22 ty_23 ty_24 ty_25 ty_30 ty_31 ty_32 ty_33 ty_34 ty_44 ty_51 ty_52 ty_54 ty_55 ty_56 ty_57 ty_58 ty_74 ty_75 ty_78 ty_93 ty_94 ty_121 ty_122 ty_131 ty_132 ty_133 ty_134 ty_135 ty_137 ty_138 ty_139 ty_142 ty_143 ty_144 ty_145
set_option maxRecDepth 100000
set_option maxHeartbeats 8000000

theorem plusF_sz {A B : Nat} : ∀ (n : Nat) (a b : List TermD), (∀ t ∈ a, szF t.f ≤ A ∧ okF t.f = true) → (∀ t ∈ b, szF t.f ≤ B ∧ okF t.f = true) → (plusF n a b).length ≤ a.length + b.length ∧ ∀ t ∈ plusF n a b, szF t.f ≤ A + B + 1 ∧ okF t.f = true
  | 0, a, b, _, _ => ⟨by simp [plusF], fun t ht => by simp [plusF] at ht⟩
  | _ + 1, [], [], _, _ => ⟨by simp [plusF], fun t ht => by simp [plusF] at ht⟩
  | n + 1, x :: a, [], ha, hb => by
    obtain ⟨h1, h2⟩ := plusF_sz n a [] (fun t ht => ha t (List.mem_cons_of_mem _ ht)) hb
    refine ⟨by simp only [plusF, List.length_cons, List.length_nil] at *; omega, fun t ht => ?_⟩
    simp only [plusF] at ht
    rcases List.mem_cons.1 ht with rfl | ht
    · have := ha t List.mem_cons_self; exact ⟨by omega, this.2⟩
    · exact h2 t ht
  | n + 1, [], y :: b, ha, hb => by
    obtain ⟨h1, h2⟩ := plusF_sz n [] b ha (fun t ht => hb t (List.mem_cons_of_mem _ ht))
    refine ⟨by simp only [plusF, List.length_cons, List.length_nil] at *; omega, fun t ht => ?_⟩
    simp only [plusF] at ht
    rcases List.mem_cons.1 ht with rfl | ht
    · have := hb t List.mem_cons_self; exact ⟨by omega, this.2⟩
    · exact h2 t ht
  | n + 1, x :: a, y :: b, ha, hb => by
    have hx := ha x List.mem_cons_self
    have hy := hb y List.mem_cons_self
    have ha' : ∀ t ∈ a, szF t.f ≤ A ∧ okF t.f = true := fun t ht => ha t (List.mem_cons_of_mem _ ht)
    have hb' : ∀ t ∈ b, szF t.f ≤ B ∧ okF t.f = true := fun t ht => hb t (List.mem_cons_of_mem _ ht)
    simp only [plusF]
    split
    · obtain ⟨h1, h2⟩ := plusF_sz n a (y :: b) ha' hb
      refine ⟨by simp only [List.length_cons] at *; omega, fun t ht => ?_⟩
      rcases List.mem_cons.1 ht with rfl | ht
      · exact ⟨by omega, hx.2⟩
      · exact h2 t ht
    · split
      · obtain ⟨h1, h2⟩ := plusF_sz n (x :: a) b ha hb'
        refine ⟨by simp only [List.length_cons] at *; omega, fun t ht => ?_⟩
        rcases List.mem_cons.1 ht with rfl | ht
        · exact ⟨by omega, hy.2⟩
        · exact h2 t ht
      · obtain ⟨h1, h2⟩ := plusF_sz n a b ha' hb'
        split
        · exact ⟨by simp only [List.length_cons]; omega, h2⟩
        · refine ⟨by simp only [List.length_cons]; omega, fun t ht => ?_⟩
          rcases List.mem_cons.1 ht with rfl | ht
          · refine ⟨?_, okF_ofQ _⟩
            have z := szQ_add (qOf x.f) (qOf y.f)
            rw [szF_ok hx.2, szF_ok hy.2] at z
            show szF (ofQ _) ≤ _
            rw [szQ_ofQ]; omega
          · exact h2 t ht
theorem plusD_sz {a b : List TermD} {A B : Nat} (ha : ∀ t ∈ a, szF t.f ≤ A) (hb : ∀ t ∈ b, szF t.f ≤ B) : (plusD a b).length ≤ a.length + b.length ∧ ∀ t ∈ plusD a b, szF t.f ≤ A + B + 1 ∧ okF t.f = true := by
  unfold plusD
  split
  · rename_i h
    simp only [Bool.and_eq_true] at h
    exact plusF_sz _ a b (fun t ht => ⟨ha t ht, (rightT_mem h.1 ht).2.2.1⟩) (fun t ht => ⟨hb t ht, (rightT_mem h.2 ht).2.2.1⟩)
  · exact ⟨by simp, fun t ht => by simp at ht⟩
theorem timesD_sz {a : List TermD} {f : FracD} {A B : Nat} (ha : ∀ t ∈ a, szF t.f ≤ A) (hf : szF f ≤ B) : (timesD a f).length ≤ a.length ∧ ∀ t ∈ timesD a f, szF t.f ≤ A + B ∧ okF t.f = true := by
  unfold timesD
  split
  · rename_i h
    simp only [Bool.and_eq_true] at h
    refine ⟨by simp, fun t ht => ?_⟩
    obtain ⟨u, hu, rfl⟩ := List.mem_map.1 ht
    refine ⟨?_, okF_ofQ _⟩
    have z := szQ_mul (qOf u.f) (qOf f)
    rw [szF_ok (rightT_mem h.1 hu).2.2.1, szF_ok (sgnD_ok h.2)] at z
    show szF (ofQ _) ≤ _
    rw [szQ_ofQ]
    have := ha u hu
    omega
  · exact ⟨by simp, fun t ht => by simp at ht⟩
theorem fewT_nat {l : List TermD} {most n : Int} (N : Nat) (hN : n ≤ N) (h : fewT l most n = true) : ∀ t ∈ l, szF t.f ≤ N := fun t ht => by have := (fewT_sz h).2 t ht; omega
theorem fewP_nat {l : List FracD} {most n : Int} (N : Nat) (hN : n ≤ N) (h : fewP l most n = true) : ∀ t ∈ l, szF t ≤ N := fun t ht => by have := (fewP_sz h).2 t ht; omega
theorem fewF_nat {f : FracD} {n : Int} (N : Nat) (hN : n ≤ N) (h : fewF n f = true) : szF f ≤ N := by have := fewF_sz h; omega
theorem szF_value (l : List TermD) (x : List FracD) (hs : smT l) (hx : smFs x) : (szF (valueD l x).1 : Int) ≤ 34359750000 := by
  unfold valueD
  split
  · rename_i h
    simp only [Bool.and_eq_true] at h
    have := szQ_dot' hs hx h.1 h.2 (Nat.le_refl _)
    rw [List.take_length] at this
    exact this
  · show (szF zF : Int) ≤ _
    decide
theorem sameF_self (f : FracD) : sameF f f = true := by cases f; simp [sameF, sameB_iff]
theorem sameF_iff {f g : FracD} : sameF f g = true ↔ f = g := by
  cases f; cases g
  simp [sameF, sameB_iff]
theorem few_or {a b c d e : Bool} (h : ¬ (a = true ∧ b = true ∧ c = true ∧ d = true ∧ e = true)) : a = false ∨ (a = true ∧ b = false) ∨ (a = true ∧ b = true ∧ c = false) ∨ (a = true ∧ b = true ∧ c = true ∧ d = false) ∨ (a = true ∧ b = true ∧ c = true ∧ d = true ∧ e = false) := by
  revert h; cases a <;> cases b <;> cases c <;> cases d <;> cases e <;> decide

theorem tells8_c (a b : List TermD) (n : Int) (f : FracD) (x : List FracD) (s : SysD) : Contract Try.prog 8 [encTs a, encTs b, dI n, encF f, encFs x, encS s] (dB true) := by
  have hres := Try.results8
  have k0 := small8_c
  have c1 := fewT_c a 12 6 (by decide)
  have c2 := fewT_c b 12 6 (by decide)
  have c3 := (rfew_c f 6).toN rfl
  rw [show (decide ((f.p.d.length : Int) ≤ 6) && decide ((f.q.d.length : Int) ≤ 6)) = fewF 6 f from rfl] at c3
  have c4 := fewP_c x 12 6 (by decide)
  have c5 := fewS_c s 12 10 6 (by decide) (by decide)
  by_cases hall : fewT a 12 6 = true ∧ fewT b 12 6 = true ∧ fewF 6 f = true ∧ fewP x 12 6 = true ∧ fewS s 12 10 6 = true
  rotate_left
  · rcases few_or hall with h | h | h | h | h
    · rw [h] at c1
      refine Contract.ofA (CallA.inline Try.func8 rfl (by kernel_rfl) (by kernel_rfl) (by kernel_rfl) ?_)
      rw [Try.ntmps8]
      repeat (first
      | (refine hK _ ?_; clear hK; clear K)
      | (refine aSeq fun K hK => ?_)
      | (refine aBlock ?_)
      | (refine aSkip ?_)
      | (refine aExit ?_)
      | (refine aRet ?_)
      | (refine aOps _ rfl (by kernel_rfl) ?_)
      | (refine aRunK _ rfl mixed (by kernel_rfl) (by kernel_rfl) fun KE hE => ?_)
      | (refine hE _ _ (by kernel_rfl) (intsOk_no rfl) ?_; clear hE; clear KE)
      | (refine hE _ _ (by kernel_rfl) (intsOk_yes ?hi ?hj) ?_; (case hi => (repeat (refine intsDead_updB rfl ?_)); exact intsDead_nil); (case hj => simp); clear hE; clear KE)
      | (refine aCondT rfl ?hc ?_; case hc => simp only [go_sem, ↓reduceIte, hres])
      | (refine aCondF rfl ?hc ?_; case hc => simp only [go_sem, ↓reduceIte, hres])
      | (refine callT_of (k0) ?_ ?_; rotate_left; (repeat (refine intsDead_updB rfl ?_)); exact intsDead_nil)
      | (refine callT_ofN (k0) ?_)
      | (refine callU_of (k0) rfl ?_)
      | (refine callU_ofN (k0) rfl ?_)
      | (refine callT_of (c1) ?_ ?_; rotate_left; (repeat (refine intsDead_updB rfl ?_)); exact intsDead_nil)
      | (refine callT_ofN (c1) ?_)
      | (refine callU_of (c1) rfl ?_)
      | (refine callU_ofN (c1) rfl ?_)
      | (simp only [go_sem, ↓reduceIte, hres])
      | (refine And.intro ?ho ?_; (case ho => omega))
      | (clear hK; clear K))
    · rw [h.1] at c1; rw [h.2] at c2
      refine Contract.ofA (CallA.inline Try.func8 rfl (by kernel_rfl) (by kernel_rfl) (by kernel_rfl) ?_)
      rw [Try.ntmps8]
      repeat (first
      | (refine hK _ ?_; clear hK; clear K)
      | (refine aSeq fun K hK => ?_)
      | (refine aBlock ?_)
      | (refine aSkip ?_)
      | (refine aExit ?_)
      | (refine aRet ?_)
      | (refine aOps _ rfl (by kernel_rfl) ?_)
      | (refine aRunK _ rfl mixed (by kernel_rfl) (by kernel_rfl) fun KE hE => ?_)
      | (refine hE _ _ (by kernel_rfl) (intsOk_no rfl) ?_; clear hE; clear KE)
      | (refine hE _ _ (by kernel_rfl) (intsOk_yes ?hi ?hj) ?_; (case hi => (repeat (refine intsDead_updB rfl ?_)); exact intsDead_nil); (case hj => simp); clear hE; clear KE)
      | (refine aCondT rfl ?hc ?_; case hc => simp only [go_sem, ↓reduceIte, hres])
      | (refine aCondF rfl ?hc ?_; case hc => simp only [go_sem, ↓reduceIte, hres])
      | (refine callT_of (k0) ?_ ?_; rotate_left; (repeat (refine intsDead_updB rfl ?_)); exact intsDead_nil)
      | (refine callT_ofN (k0) ?_)
      | (refine callU_of (k0) rfl ?_)
      | (refine callU_ofN (k0) rfl ?_)
      | (refine callT_of (c1) ?_ ?_; rotate_left; (repeat (refine intsDead_updB rfl ?_)); exact intsDead_nil)
      | (refine callT_ofN (c1) ?_)
      | (refine callU_of (c1) rfl ?_)
      | (refine callU_ofN (c1) rfl ?_)
      | (refine callT_of (c2) ?_ ?_; rotate_left; (repeat (refine intsDead_updB rfl ?_)); exact intsDead_nil)
      | (refine callT_ofN (c2) ?_)
      | (refine callU_of (c2) rfl ?_)
      | (refine callU_ofN (c2) rfl ?_)
      | (simp only [go_sem, ↓reduceIte, hres])
      | (refine And.intro ?ho ?_; (case ho => omega))
      | (clear hK; clear K))
    · rw [h.1] at c1; rw [h.2.1] at c2; rw [h.2.2] at c3
      refine Contract.ofA (CallA.inline Try.func8 rfl (by kernel_rfl) (by kernel_rfl) (by kernel_rfl) ?_)
      rw [Try.ntmps8]
      repeat (first
      | (refine hK _ ?_; clear hK; clear K)
      | (refine aSeq fun K hK => ?_)
      | (refine aBlock ?_)
      | (refine aSkip ?_)
      | (refine aExit ?_)
      | (refine aRet ?_)
      | (refine aOps _ rfl (by kernel_rfl) ?_)
      | (refine aRunK _ rfl mixed (by kernel_rfl) (by kernel_rfl) fun KE hE => ?_)
      | (refine hE _ _ (by kernel_rfl) (intsOk_no rfl) ?_; clear hE; clear KE)
      | (refine hE _ _ (by kernel_rfl) (intsOk_yes ?hi ?hj) ?_; (case hi => (repeat (refine intsDead_updB rfl ?_)); exact intsDead_nil); (case hj => simp); clear hE; clear KE)
      | (refine aCondT rfl ?hc ?_; case hc => simp only [go_sem, ↓reduceIte, hres])
      | (refine aCondF rfl ?hc ?_; case hc => simp only [go_sem, ↓reduceIte, hres])
      | (refine callT_of (k0) ?_ ?_; rotate_left; (repeat (refine intsDead_updB rfl ?_)); exact intsDead_nil)
      | (refine callT_ofN (k0) ?_)
      | (refine callU_of (k0) rfl ?_)
      | (refine callU_ofN (k0) rfl ?_)
      | (refine callT_of (c1) ?_ ?_; rotate_left; (repeat (refine intsDead_updB rfl ?_)); exact intsDead_nil)
      | (refine callT_ofN (c1) ?_)
      | (refine callU_of (c1) rfl ?_)
      | (refine callU_ofN (c1) rfl ?_)
      | (refine callT_of (c2) ?_ ?_; rotate_left; (repeat (refine intsDead_updB rfl ?_)); exact intsDead_nil)
      | (refine callT_ofN (c2) ?_)
      | (refine callU_of (c2) rfl ?_)
      | (refine callU_ofN (c2) rfl ?_)
      | (refine callT_of (c3) ?_ ?_; rotate_left; (repeat (refine intsDead_updB rfl ?_)); exact intsDead_nil)
      | (refine callT_ofN (c3) ?_)
      | (refine callU_of (c3) rfl ?_)
      | (refine callU_ofN (c3) rfl ?_)
      | (simp only [go_sem, ↓reduceIte, hres])
      | (refine And.intro ?ho ?_; (case ho => omega))
      | (clear hK; clear K))
    · rw [h.1] at c1; rw [h.2.1] at c2; rw [h.2.2.1] at c3; rw [h.2.2.2] at c4
      refine Contract.ofA (CallA.inline Try.func8 rfl (by kernel_rfl) (by kernel_rfl) (by kernel_rfl) ?_)
      rw [Try.ntmps8]
      repeat (first
      | (refine hK _ ?_; clear hK; clear K)
      | (refine aSeq fun K hK => ?_)
      | (refine aBlock ?_)
      | (refine aSkip ?_)
      | (refine aExit ?_)
      | (refine aRet ?_)
      | (refine aOps _ rfl (by kernel_rfl) ?_)
      | (refine aRunK _ rfl mixed (by kernel_rfl) (by kernel_rfl) fun KE hE => ?_)
      | (refine hE _ _ (by kernel_rfl) (intsOk_no rfl) ?_; clear hE; clear KE)
      | (refine hE _ _ (by kernel_rfl) (intsOk_yes ?hi ?hj) ?_; (case hi => (repeat (refine intsDead_updB rfl ?_)); exact intsDead_nil); (case hj => simp); clear hE; clear KE)
      | (refine aCondT rfl ?hc ?_; case hc => simp only [go_sem, ↓reduceIte, hres])
      | (refine aCondF rfl ?hc ?_; case hc => simp only [go_sem, ↓reduceIte, hres])
      | (refine callT_of (k0) ?_ ?_; rotate_left; (repeat (refine intsDead_updB rfl ?_)); exact intsDead_nil)
      | (refine callT_ofN (k0) ?_)
      | (refine callU_of (k0) rfl ?_)
      | (refine callU_ofN (k0) rfl ?_)
      | (refine callT_of (c1) ?_ ?_; rotate_left; (repeat (refine intsDead_updB rfl ?_)); exact intsDead_nil)
      | (refine callT_ofN (c1) ?_)
      | (refine callU_of (c1) rfl ?_)
      | (refine callU_ofN (c1) rfl ?_)
      | (refine callT_of (c2) ?_ ?_; rotate_left; (repeat (refine intsDead_updB rfl ?_)); exact intsDead_nil)
      | (refine callT_ofN (c2) ?_)
      | (refine callU_of (c2) rfl ?_)
      | (refine callU_ofN (c2) rfl ?_)
      | (refine callT_of (c3) ?_ ?_; rotate_left; (repeat (refine intsDead_updB rfl ?_)); exact intsDead_nil)
      | (refine callT_ofN (c3) ?_)
      | (refine callU_of (c3) rfl ?_)
      | (refine callU_ofN (c3) rfl ?_)
      | (refine callT_of (c4) ?_ ?_; rotate_left; (repeat (refine intsDead_updB rfl ?_)); exact intsDead_nil)
      | (refine callT_ofN (c4) ?_)
      | (refine callU_of (c4) rfl ?_)
      | (refine callU_ofN (c4) rfl ?_)
      | (simp only [go_sem, ↓reduceIte, hres])
      | (refine And.intro ?ho ?_; (case ho => omega))
      | (clear hK; clear K))
    · rw [h.1] at c1; rw [h.2.1] at c2; rw [h.2.2.1] at c3; rw [h.2.2.2.1] at c4; rw [h.2.2.2.2] at c5
      refine Contract.ofA (CallA.inline Try.func8 rfl (by kernel_rfl) (by kernel_rfl) (by kernel_rfl) ?_)
      rw [Try.ntmps8]
      repeat (first
      | (refine hK _ ?_; clear hK; clear K)
      | (refine aSeq fun K hK => ?_)
      | (refine aBlock ?_)
      | (refine aSkip ?_)
      | (refine aExit ?_)
      | (refine aRet ?_)
      | (refine aOps _ rfl (by kernel_rfl) ?_)
      | (refine aRunK _ rfl mixed (by kernel_rfl) (by kernel_rfl) fun KE hE => ?_)
      | (refine hE _ _ (by kernel_rfl) (intsOk_no rfl) ?_; clear hE; clear KE)
      | (refine hE _ _ (by kernel_rfl) (intsOk_yes ?hi ?hj) ?_; (case hi => (repeat (refine intsDead_updB rfl ?_)); exact intsDead_nil); (case hj => simp); clear hE; clear KE)
      | (refine aCondT rfl ?hc ?_; case hc => simp only [go_sem, ↓reduceIte, hres])
      | (refine aCondF rfl ?hc ?_; case hc => simp only [go_sem, ↓reduceIte, hres])
      | (refine callT_of (k0) ?_ ?_; rotate_left; (repeat (refine intsDead_updB rfl ?_)); exact intsDead_nil)
      | (refine callT_ofN (k0) ?_)
      | (refine callU_of (k0) rfl ?_)
      | (refine callU_ofN (k0) rfl ?_)
      | (refine callT_of (c1) ?_ ?_; rotate_left; (repeat (refine intsDead_updB rfl ?_)); exact intsDead_nil)
      | (refine callT_ofN (c1) ?_)
      | (refine callU_of (c1) rfl ?_)
      | (refine callU_ofN (c1) rfl ?_)
      | (refine callT_of (c2) ?_ ?_; rotate_left; (repeat (refine intsDead_updB rfl ?_)); exact intsDead_nil)
      | (refine callT_ofN (c2) ?_)
      | (refine callU_of (c2) rfl ?_)
      | (refine callU_ofN (c2) rfl ?_)
      | (refine callT_of (c3) ?_ ?_; rotate_left; (repeat (refine intsDead_updB rfl ?_)); exact intsDead_nil)
      | (refine callT_ofN (c3) ?_)
      | (refine callU_of (c3) rfl ?_)
      | (refine callU_ofN (c3) rfl ?_)
      | (refine callT_of (c4) ?_ ?_; rotate_left; (repeat (refine intsDead_updB rfl ?_)); exact intsDead_nil)
      | (refine callT_ofN (c4) ?_)
      | (refine callU_of (c4) rfl ?_)
      | (refine callU_ofN (c4) rfl ?_)
      | (refine callT_of (c5) ?_ ?_; rotate_left; (repeat (refine intsDead_updB rfl ?_)); exact intsDead_nil)
      | (refine callT_ofN (c5) ?_)
      | (refine callU_of (c5) rfl ?_)
      | (refine callU_ofN (c5) rfl ?_)
      | (simp only [go_sem, ↓reduceIte, hres])
      | (refine And.intro ?ho ?_; (case ho => omega))
      | (clear hK; clear K))
  obtain ⟨h1, h2, h3, h4, h5⟩ := hall
  rw [h1] at c1; rw [h2] at c2; rw [h3] at c3; rw [h4] at c4; rw [h5] at c5
  have sa := fewT_sm (by decide) (by decide) h1
  have sb := fewT_sm (by decide) (by decide) h2
  have sf := fewF_sm (by decide) h3
  have sx := fewP_sm (by decide) (by decide) h4
  have ss := fewS_sm (by decide) (by decide) (by decide) h5
  have na := fewT_nat 6 (by decide) h1
  have nb := fewT_nat 6 (by decide) h2
  have nf := fewF_nat 6 (by decide) h3
  have la := (fewT_sz h1).1
  have lb := (fewT_sz h2).1
  have v1 := lValue_c a x sa sx
  have v2 := rValue_c a x sa sx
  have v3 := lright_c a n sa
  have v4 := rrightT_c a n sa
  have v5 := lrightS_c s ss
  have v6 := rrightS_c s ss
  have v7 := (rsameF_c (valueD a x).1 (valueD a x).1 (by have := szF_value a x sa sx; omega)).toN rfl
  rw [sameF_self] at v7
  have v8 := lholds_c s x ss sx
  have v9 := rholds_c s x ss sx
  have p1 := lplus_c a b sa sb
  have p2 := rplusT_c a b sa sb
  obtain ⟨pl, pz⟩ := plusD_sz na nb
  have p3 := rsameT_c (plusD a b) (plusD a b) (by omega) (fun t ht => by have := (pz t ht).1; omega)
  rw [sameTs_iff.2 rfl] at p3
  have t1 := ltimes_c a f sa sf
  have t2 := rtimesT_c a f sa sf
  obtain ⟨tl, tz⟩ := timesD_sz na nf
  have t3 := rsameT_c (timesD a f) (timesD a f) (by omega) (fun t ht => by have := (tz t ht).1; omega)
  rw [sameTs_iff.2 rfl] at t3
  have e1 := lsame_c a b (by omega)
  have e2 := rsameT_c a b (by omega) (fun t ht => by have := na t ht; omega)
  refine Contract.ofA (CallA.inline Try.func8 rfl (by kernel_rfl) (by kernel_rfl) (by kernel_rfl) ?_)
  rw [Try.ntmps8]
  repeat (first
      | (refine hK _ ?_; clear hK; clear K)
      | (refine aSeq fun K hK => ?_)
      | (refine aBlock ?_)
      | (refine aSkip ?_)
      | (refine aExit ?_)
      | (refine aRet ?_)
      | (refine aOps _ rfl (by kernel_rfl) ?_)
      | (refine aRunK _ rfl mixed (by kernel_rfl) (by kernel_rfl) fun KE hE => ?_)
      | (refine hE _ _ (by kernel_rfl) (intsOk_no rfl) ?_; clear hE; clear KE)
      | (refine hE _ _ (by kernel_rfl) (intsOk_yes ?hi ?hj) ?_; (case hi => (repeat (refine intsDead_updB rfl ?_)); exact intsDead_nil); (case hj => simp); clear hE; clear KE)
      | (refine aCondT rfl ?hc ?_; case hc => simp only [go_sem, ↓reduceIte, hres, beq_self_eq_true])
      | (refine aCondF rfl ?hc ?_; case hc => simp only [go_sem, ↓reduceIte, hres, beq_self_eq_true])
      | (refine callT_of (k0) ?_ ?_; rotate_left; (repeat (refine intsDead_updB rfl ?_)); exact intsDead_nil)
      | (refine callT_ofN (k0) ?_)
      | (refine callU_of (k0) rfl ?_)
      | (refine callU_ofN (k0) rfl ?_)
      | (refine callT_of (c1) ?_ ?_; rotate_left; (repeat (refine intsDead_updB rfl ?_)); exact intsDead_nil)
      | (refine callT_ofN (c1) ?_)
      | (refine callU_of (c1) rfl ?_)
      | (refine callU_ofN (c1) rfl ?_)
      | (refine callT_of (c2) ?_ ?_; rotate_left; (repeat (refine intsDead_updB rfl ?_)); exact intsDead_nil)
      | (refine callT_ofN (c2) ?_)
      | (refine callU_of (c2) rfl ?_)
      | (refine callU_ofN (c2) rfl ?_)
      | (refine callT_of (c3) ?_ ?_; rotate_left; (repeat (refine intsDead_updB rfl ?_)); exact intsDead_nil)
      | (refine callT_ofN (c3) ?_)
      | (refine callU_of (c3) rfl ?_)
      | (refine callU_ofN (c3) rfl ?_)
      | (refine callT_of (c4) ?_ ?_; rotate_left; (repeat (refine intsDead_updB rfl ?_)); exact intsDead_nil)
      | (refine callT_ofN (c4) ?_)
      | (refine callU_of (c4) rfl ?_)
      | (refine callU_ofN (c4) rfl ?_)
      | (refine callT_of (c5) ?_ ?_; rotate_left; (repeat (refine intsDead_updB rfl ?_)); exact intsDead_nil)
      | (refine callT_ofN (c5) ?_)
      | (refine callU_of (c5) rfl ?_)
      | (refine callU_ofN (c5) rfl ?_)
      | (refine callT_of (v1) ?_ ?_; rotate_left; (repeat (refine intsDead_updB rfl ?_)); exact intsDead_nil)
      | (refine callT_ofN (v1) ?_)
      | (refine callU_of (v1) rfl ?_)
      | (refine callU_ofN (v1) rfl ?_)
      | (refine callT_of (v2) ?_ ?_; rotate_left; (repeat (refine intsDead_updB rfl ?_)); exact intsDead_nil)
      | (refine callT_ofN (v2) ?_)
      | (refine callU_of (v2) rfl ?_)
      | (refine callU_ofN (v2) rfl ?_)
      | (refine callT_of (v3) ?_ ?_; rotate_left; (repeat (refine intsDead_updB rfl ?_)); exact intsDead_nil)
      | (refine callT_ofN (v3) ?_)
      | (refine callU_of (v3) rfl ?_)
      | (refine callU_ofN (v3) rfl ?_)
      | (refine callT_of (v4) ?_ ?_; rotate_left; (repeat (refine intsDead_updB rfl ?_)); exact intsDead_nil)
      | (refine callT_ofN (v4) ?_)
      | (refine callU_of (v4) rfl ?_)
      | (refine callU_ofN (v4) rfl ?_)
      | (refine callT_of (v5) ?_ ?_; rotate_left; (repeat (refine intsDead_updB rfl ?_)); exact intsDead_nil)
      | (refine callT_ofN (v5) ?_)
      | (refine callU_of (v5) rfl ?_)
      | (refine callU_ofN (v5) rfl ?_)
      | (refine callT_of (v6) ?_ ?_; rotate_left; (repeat (refine intsDead_updB rfl ?_)); exact intsDead_nil)
      | (refine callT_ofN (v6) ?_)
      | (refine callU_of (v6) rfl ?_)
      | (refine callU_ofN (v6) rfl ?_)
      | (refine callT_of (v7) ?_ ?_; rotate_left; (repeat (refine intsDead_updB rfl ?_)); exact intsDead_nil)
      | (refine callT_ofN (v7) ?_)
      | (refine callU_of (v7) rfl ?_)
      | (refine callU_ofN (v7) rfl ?_)
      | (refine callT_of (v8) ?_ ?_; rotate_left; (repeat (refine intsDead_updB rfl ?_)); exact intsDead_nil)
      | (refine callT_ofN (v8) ?_)
      | (refine callU_of (v8) rfl ?_)
      | (refine callU_ofN (v8) rfl ?_)
      | (refine callT_of (v9) ?_ ?_; rotate_left; (repeat (refine intsDead_updB rfl ?_)); exact intsDead_nil)
      | (refine callT_ofN (v9) ?_)
      | (refine callU_of (v9) rfl ?_)
      | (refine callU_ofN (v9) rfl ?_)
      | (refine callT_of (p1) ?_ ?_; rotate_left; (repeat (refine intsDead_updB rfl ?_)); exact intsDead_nil)
      | (refine callT_ofN (p1) ?_)
      | (refine callU_of (p1) rfl ?_)
      | (refine callU_ofN (p1) rfl ?_)
      | (refine callT_of (p2) ?_ ?_; rotate_left; (repeat (refine intsDead_updB rfl ?_)); exact intsDead_nil)
      | (refine callT_ofN (p2) ?_)
      | (refine callU_of (p2) rfl ?_)
      | (refine callU_ofN (p2) rfl ?_)
      | (refine callT_of (p3) ?_ ?_; rotate_left; (repeat (refine intsDead_updB rfl ?_)); exact intsDead_nil)
      | (refine callT_ofN (p3) ?_)
      | (refine callU_of (p3) rfl ?_)
      | (refine callU_ofN (p3) rfl ?_)
      | (refine callT_of (t1) ?_ ?_; rotate_left; (repeat (refine intsDead_updB rfl ?_)); exact intsDead_nil)
      | (refine callT_ofN (t1) ?_)
      | (refine callU_of (t1) rfl ?_)
      | (refine callU_ofN (t1) rfl ?_)
      | (refine callT_of (t2) ?_ ?_; rotate_left; (repeat (refine intsDead_updB rfl ?_)); exact intsDead_nil)
      | (refine callT_ofN (t2) ?_)
      | (refine callU_of (t2) rfl ?_)
      | (refine callU_ofN (t2) rfl ?_)
      | (refine callT_of (t3) ?_ ?_; rotate_left; (repeat (refine intsDead_updB rfl ?_)); exact intsDead_nil)
      | (refine callT_ofN (t3) ?_)
      | (refine callU_of (t3) rfl ?_)
      | (refine callU_ofN (t3) rfl ?_)
      | (refine callT_of (e1) ?_ ?_; rotate_left; (repeat (refine intsDead_updB rfl ?_)); exact intsDead_nil)
      | (refine callT_ofN (e1) ?_)
      | (refine callU_of (e1) rfl ?_)
      | (refine callU_ofN (e1) rfl ?_)
      | (refine callT_of (e2) ?_ ?_; rotate_left; (repeat (refine intsDead_updB rfl ?_)); exact intsDead_nil)
      | (refine callT_ofN (e2) ?_)
      | (refine callU_of (e2) rfl ?_)
      | (refine callU_ofN (e2) rfl ?_)
      | (simp only [go_sem, ↓reduceIte, hres, beq_self_eq_true])
      | (refine And.intro ?ho ?_; (case ho => omega))
      | (clear hK; clear K))
end Go.Proofs.Ytenmlcpbjjlokaa
