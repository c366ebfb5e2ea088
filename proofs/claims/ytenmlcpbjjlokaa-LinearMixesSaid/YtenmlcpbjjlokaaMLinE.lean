/-
  Lists of terms as linear functions: sums, products; a right list is what it computes.
-/
import Derived.Test.YtenmlcpbjjlokaaMLinD

/-
  Lists of terms as linear functions: sums, products; a right list is what it computes.
-/
namespace Go.Proofs.Ytenmlcpbjjlokaa
set_option linter.unusedVariables false
set_option linter.unusedSimpArgs false
open Go Go.RowKit

def dotS (g : Int → Rat) : List TermD → Rat
  | [] => 0
  | t :: l => qOf t.f * g t.v + dotS g l
theorem dotS_append (g : Int → Rat) : ∀ l m : List TermD, dotS g (l ++ m) = dotS g l + dotS g m
  | [], m => by simp [dotS]; grind
  | t :: l, m => by simp only [List.cons_append, dotS, dotS_append g l m]; grind
theorem foldl_dot (g : Int → Rat) : ∀ (l : List TermD) (z : Rat), l.foldl (fun a t => a + qOf t.f * g t.v) z = z + dotS g l
  | [], z => by simp only [List.foldl_nil, dotS]; grind
  | t :: l, z => by simp only [List.foldl_cons, dotS]; rw [foldl_dot g l]; grind
theorem dotD_eq (l : List TermD) (x : List FracD) : dotD l x = dotS (atP x) l := by
  unfold dotD; rw [foldl_dot]; grind
theorem plusF_dot (g : Int → Rat) : ∀ (n : Nat) (a b : List TermD), a.length + b.length ≤ n → dotS g (plusF n a b) = dotS g a + dotS g b
  | 0, a, b, h => by
    obtain rfl : a = [] := List.eq_nil_of_length_eq_zero (by omega)
    obtain rfl : b = [] := List.eq_nil_of_length_eq_zero (by have : ([] : List TermD).length = 0 := rfl; omega)
    simp only [plusF, dotS]; grind
  | n + 1, [], [], _ => by simp only [plusF, dotS]; grind
  | n + 1, x :: a, [], h => by simp only [plusF, dotS, plusF_dot g n a [] (by simp at h ⊢; omega)]; grind
  | n + 1, [], y :: b, h => by simp only [plusF, dotS, plusF_dot g n [] b (by simp at h ⊢; omega)]; grind
  | n + 1, x :: a, y :: b, h => by
    simp only [List.length_cons] at h
    simp only [plusF]
    split
    · simp only [dotS, plusF_dot g n a (y :: b) (by simp; omega)]; grind
    · split
      · simp only [dotS, plusF_dot g n (x :: a) b (by simp; omega)]; grind
      · have hv : x.v = y.v := by omega
        split
        · rename_i hz
          rw [plusF_dot g n a b (by omega)]
          simp only [dotS, hv]
          have : qOf x.f * g y.v + qOf y.f * g y.v = 0 := by rw [← Rat.add_mul, hz, Rat.zero_mul]
          grind
        · simp only [dotS, plusF_dot g n a b (by omega), hv, qOf_ofQ]
          grind
theorem sumT_dot (g : Int → Rat) (a b : List TermD) : dotS g (sumT a b) = dotS g a + dotS g b := plusF_dot g _ a b (Nat.le_refl _)
theorem mul_dot (g : Int → Rat) (f : FracD) : ∀ l : List TermD, dotS g (l.map (mulT f)) = qOf f * dotS g l
  | [] => by simp only [List.map_nil, dotS]; grind
  | t :: l => by simp only [List.map_cons, dotS, mulT, qOf_ofQ, mul_dot g f l]; grind

theorem goR_cons {n last : Int} {t : TermD} {l : List TermD} : goR n last (t :: l) = true ↔ last < t.v ∧ t.v < n ∧ sgnD t.f ≠ 0 ∧ goR n t.v l = true := by
  simp [goR, and_assoc]
theorem goR_low {n last last' : Int} (h : last' ≤ last) : ∀ {l : List TermD}, goR n last l = true → goR n last' l = true
  | [], _ => rfl
  | t :: l, k => by
    rw [goR_cons] at k ⊢
    exact ⟨by omega, k.2.1, k.2.2.1, k.2.2.2⟩
theorem goR_high {n n' last : Int} (h : n ≤ n') : ∀ {l : List TermD} {last : Int}, goR n last l = true → goR n' last l = true
  | [], _, _ => rfl
  | t :: l, _, k => by
    rw [goR_cons] at k ⊢
    exact ⟨k.1, by omega, k.2.2.1, goR_high (last := t.v) h k.2.2.2⟩
theorem rightT_high {n n' : Int} (h : n ≤ n') {l : List TermD} (k : rightT l n = true) : rightT l n' = true := by
  simp only [rightT, Bool.and_eq_true, decide_eq_true_eq] at k ⊢
  exact ⟨by omega, goR_high (last := -1) h k.2⟩
theorem sgnD_ne {f : FracD} (h : sgnD f ≠ 0) : okF f = true ∧ qOf f ≠ 0 := by
  cases ho : okF f
  · exact absurd (sgnD_no ho) h
  · refine ⟨rfl, fun h0 => h ?_⟩
    simp [sgnD, ho, h0, sgQ]
theorem sgnD_ofQ_ne {q : Rat} (h : q ≠ 0) : sgnD (ofQ q) ≠ 0 := by rw [sgnD_ofQ]; exact fun h0 => h (sgQ_zero.1 h0)
theorem plusF_right {n : Int} : ∀ (k : Nat) (last : Int) (a b : List TermD), goR n last a = true → goR n last b = true → goR n last (plusF k a b) = true
  | 0, _, _, _, _, _ => rfl
  | _ + 1, _, [], [], _, _ => rfl
  | k + 1, last, x :: a, [], ha, hb => by
    rw [goR_cons] at ha
    simp only [plusF]
    exact goR_cons.2 ⟨ha.1, ha.2.1, ha.2.2.1, plusF_right k x.v a [] ha.2.2.2 rfl⟩
  | k + 1, last, [], y :: b, ha, hb => by
    rw [goR_cons] at hb
    simp only [plusF]
    exact goR_cons.2 ⟨hb.1, hb.2.1, hb.2.2.1, plusF_right k y.v [] b rfl hb.2.2.2⟩
  | k + 1, last, x :: a, y :: b, ha, hb => by
    have ha' := goR_cons.1 ha
    have hb' := goR_cons.1 hb
    simp only [plusF]
    split
    · exact goR_cons.2 ⟨ha'.1, ha'.2.1, ha'.2.2.1, plusF_right k x.v a (y :: b) ha'.2.2.2 (goR_cons.2 ⟨by assumption, hb'.2.1, hb'.2.2.1, hb'.2.2.2⟩)⟩
    · split
      · exact goR_cons.2 ⟨hb'.1, hb'.2.1, hb'.2.2.1, plusF_right k y.v (x :: a) b (goR_cons.2 ⟨by assumption, ha'.2.1, ha'.2.2.1, ha'.2.2.2⟩) hb'.2.2.2⟩
      · have hv : x.v = y.v := by omega
        split
        · exact plusF_right k last a b (goR_low (by omega) ha'.2.2.2) (goR_low (by omega) hb'.2.2.2)
        · rename_i hz
          exact goR_cons.2 ⟨ha'.1, ha'.2.1, sgnD_ofQ_ne hz, plusF_right k x.v a b ha'.2.2.2 (goR_low (by omega) hb'.2.2.2)⟩
theorem mul_right {n : Int} {f : FracD} (hf : sgnD f ≠ 0) : ∀ (l : List TermD) (last : Int), goR n last l = true → goR n last (l.map (mulT f)) = true
  | [], _, _ => rfl
  | t :: l, last, h => by
    have h' := goR_cons.1 h
    rw [List.map_cons]
    refine goR_cons.2 ⟨h'.1, h'.2.1, sgnD_ofQ_ne ?_, mul_right hf l t.v h'.2.2.2⟩
    have h1 := (sgnD_ne h'.2.2.1).2
    have h2 := (sgnD_ne hf).2
    exact fun h0 => (Rat.mul_eq_zero.1 h0).elim h1 h2

/-! A right list is what it computes. -/
def indI (v u : Int) : Rat := if u = v then 1 else 0
theorem dot_above {n : Int} {v : Int} : ∀ (l : List TermD) (last : Int), v ≤ last → goR n last l = true → dotS (indI v) l = 0
  | [], _, _, _ => rfl
  | t :: l, last, h, k => by
    have k' := goR_cons.1 k
    have ih := dot_above (n := n) (v := v) l t.v (by omega) k'.2.2.2
    simp only [dotS, ih]
    rw [show indI v t.v = 0 from if_neg (by omega)]; grind
theorem dot_head {n : Int} {last : Int} {t : TermD} {l : List TermD} (k : goR n last (t :: l) = true) : dotS (indI t.v) (t :: l) = qOf t.f := by
  have k' := goR_cons.1 k
  simp only [dotS, dot_above l t.v (Int.le_refl _) k'.2.2.2, indI, if_true]; grind
theorem goR_ext {n m : Int} : ∀ (a b : List TermD) (la lb : Int), goR n la a = true → goR m lb b = true → (∀ g, dotS g a = dotS g b) → a = b
  | [], [], _, _, _, _, _ => rfl
  | [], y :: b, _, lb, _, hb, h => by
    have := h (indI y.v)
    rw [dot_head hb] at this
    exact absurd this.symm (sgnD_ne (goR_cons.1 hb).2.2.1).2
  | x :: a, [], la, _, ha, _, h => by
    have := h (indI x.v)
    rw [dot_head ha] at this
    exact absurd this (sgnD_ne (goR_cons.1 ha).2.2.1).2
  | x :: a, y :: b, la, lb, ha, hb, h => by
    have ha' := goR_cons.1 ha
    have hb' := goR_cons.1 hb
    have fx := sgnD_ne ha'.2.2.1
    have fy := sgnD_ne hb'.2.2.1
    rcases Int.lt_trichotomy x.v y.v with hv | hv | hv
    · have := h (indI x.v)
      rw [dot_head ha, dot_above (n := m) (y :: b) x.v (Int.le_refl _) (goR_cons.2 ⟨hv, hb'.2⟩)] at this
      exact absurd this fx.2
    · have hq := h (indI x.v)
      rw [dot_head ha, hv, dot_head hb] at hq
      have he : x = y := by
        cases x with | mk u f => cases y with | mk w g =>
        dsimp only at hv hq fx fy
        rw [okF_eq fx.1, okF_eq fy.1, hq, hv]
      subst he
      congr 1
      refine goR_ext a b x.v x.v ha'.2.2.2 hb'.2.2.2 fun g => ?_
      have := h g
      simp only [dotS] at this
      grind
    · have := h (indI y.v)
      rw [dot_head hb, dot_above (n := n) (x :: a) y.v (Int.le_refl _) (goR_cons.2 ⟨hv, ha'.2⟩)] at this
      exact absurd this.symm fy.2
theorem rightT_ext {n m : Int} {a b : List TermD} (ha : rightT a n = true) (hb : rightT b m = true) (h : ∀ g, dotS g a = dotS g b) : a = b := by
  simp only [rightT, Bool.and_eq_true] at ha hb
  exact goR_ext a b _ _ ha.2 hb.2 h

theorem rightT_plus {n : Int} {a b : List TermD} (hn : n ≤ 1500) (ha : rightT a n = true) (hb : rightT b n = true) : rightT (plusD a b) n = true := by
  rw [plusD_yes (rightT_high hn ha) (rightT_high hn hb)]
  simp only [rightT, Bool.and_eq_true] at ha hb ⊢
  exact ⟨ha.1, plusF_right _ _ a b ha.2 hb.2⟩
theorem plusD_dot {a b : List TermD} (ha : rightT a 1500 = true) (hb : rightT b 1500 = true) (g : Int → Rat) : dotS g (plusD a b) = dotS g a + dotS g b := by
  rw [plusD_yes ha hb, sumT_dot]
theorem rightT_times {n : Int} {a : List TermD} {f : FracD} (ha : rightT a n = true) : rightT (timesD a f) n = true := by
  unfold timesD
  have h0 : decide (0 ≤ n) = true := by simp only [rightT, Bool.and_eq_true] at ha; exact ha.1
  split
  · rename_i h
    simp only [Bool.and_eq_true, bne_iff_ne] at h
    simp only [rightT, Bool.and_eq_true] at ha ⊢
    exact ⟨ha.1, mul_right h.2 a _ ha.2⟩
  · simp [rightT, goR]; simpa using h0
theorem timesD_dot {a : List TermD} {f : FracD} (ha : rightT a 1500 = true) (hf : okF f = true) (g : Int → Rat) : dotS g (timesD a f) = qOf f * dotS g a := by
  unfold timesD
  rw [ha, Bool.true_and]
  split
  · exact mul_dot g f a
  · rename_i h
    have h0 : qOf f = 0 := by
      have : sgnD f = 0 := by simpa using h
      simp only [sgnD, hf, if_true] at this
      exact sgQ_zero.1 this
    rw [h0]; simp only [dotS]; grind
end Go.Proofs.Ytenmlcpbjjlokaa

/-
  LinearAdds: the walk.
-/
namespace Go.Proofs.Ytenmlcpbjjlokaa
set_option linter.unusedVariables false
set_option linter.unusedSimpArgs false
open Go Go.RowKit
attribute [local go_sem] opsL_nil opsL_go opsL_guard gSel_tt gSel_ff gSel_tf gSel_ft stepR_some stepR_none callS_some callE_some runL_nil runL_go runL_guard gSelE_tt gSelE_ff gSelE_tf gSelE_ft stepE_some stepE_none opF callD rd constD putT upd_get guardL gOf_bool gOf_undef fieldAddrF fieldF loadF storeF indexAddrF indexF sliceF strSliceF bound buildF fillF buildSliceF elemsF allocF makeSliceF lenF elemsOf appendF minmaxF convertF boxF ldE blkAt spliceE D.cells? D.isCell Res.pure ov TyI.agg binD unD boolD initT thenA inBlockA argD argDs refsD refsL killW datJ datJs endA_ret endA_normal endR_some oneD_one oneD_two oneD_three oneD_four resDs resD fzT Value.oneCell' strip tabT tabM
attribute [local go_sem] List.map Nat.reduceEqDiff Nat.reduceBEq List.getElem?_cons_zero List.getElem?_cons_succ List.getElem?_nil Option.getD_some Option.getD_none true_and and_true true_or or_true false_or or_false and_self Nat.add_zero Nat.zero_add List.length_nil List.length_cons forall_const ite_true ite_false Bool.or_self Bool.false_eq_true Option.map_some Option.map_none beq_self_eq_true Nat.reduceAdd Nat.reduceSub Nat.reduceMul reduceCtorEq List.getElem?_toArray Bool.not_true Bool.not_false decide_eq_true_eq decide_true decide_false Nat.reduceLeDiff Nat.reduceLT Bool.or_false Bool.or_true Bool.and_true Bool.and_false Bool.false_and Bool.true_and Bool.true_beq Bool.false_beq beq_true beq_false Bool.not_eq_true List.drop_succ_cons List.take_succ_cons List.drop_zero List.take_zero List.length_map List.getElem?_map List.length_append List.all_cons List.all_nil List.append_nil List.nil_append List.cons_append List.set_cons_zero List.set_cons_succ Int.toNat_natCast Int.toNat_zero Option.isSome_some Option.isSome_none Array.size_empty ByteArray.size_empty Int.reduceToNat Int.reduceAdd Int.reduceSub Int.reduceLT Int.reduceLE Int.reduceEq Int.reduceNe Int.reduceBEq Int.reduceNeg List.forall_mem_cons List.not_mem_nil false_implies List.forall_mem_map implies_true Nat.reduceBNe Int.cast_ofNat_Int Int.reduceMul Int.reduceGE Int.reduceGT wrap_in ty_2 ty_3 ty_4 ty_5 ty_6 ty_7 ty_8 ty_9 ty_10 ty_11 ty_12 ty_13 ty_14 ty_18 ty_19 ty_21 ty_22 ty_23 ty_24 ty_25 ty_30 ty_31 ty_32 ty_33 ty_34 ty_44 ty_51 ty_52 ty_54 ty_55 ty_56 ty_57 ty_58 ty_74 ty_75 ty_78 ty_93 ty_94 ty_121 ty_122 ty_131 ty_132 ty_133 ty_134 ty_135 ty_137 ty_138 ty_139 ty_142 ty_143 ty_144 ty_145
set_option maxRecDepth 100000
set_option maxHeartbeats 8000000

theorem valueD_no {l : List TermD} {x : List FracD} (h : (rightT l x.length && okP x) = false) : valueD l x = (zF, false) := by unfold valueD; rw [h]; rfl
theorem valueD_yes {l : List TermD} {x : List FracD} (h : (rightT l x.length && okP x) = true) : valueD l x = (ofQ (dotD l x), true) := by unfold valueD; rw [h]; rfl
theorem qadd_c (a b : Rat) (za : (szQ a : Int) ≤ 549755813888) (zb : (szQ b : Int) ≤ 549755813888) : Contract Try.prog 51 [encF (ofQ a), encF (ofQ b)] (.tup [encF (ofQ (a + b)), dI 0]) := by
  have := fadd_c (ofQ a) (ofQ b) za zb
  rwa [addD_ofQ] at this
theorem qmul_c (a b : Rat) (za : (szQ a : Int) ≤ 549755813888) (zb : (szQ b : Int) ≤ 549755813888) : Contract Try.prog 52 [encF (ofQ a), encF (ofQ b)] (.tup [encF (ofQ (a * b)), dI 0]) := by
  have := fmul_c (ofQ a) (ofQ b) za zb
  rwa [mulD_ofQ] at this
theorem qsub_c (a b : Rat) (za : (szQ a : Int) ≤ 549755813888) (zb : (szQ b : Int) ≤ 549755813888) : Contract Try.prog 28 [encF (ofQ a), encF (ofQ b)] (.tup [encF (ofQ (a - b)), dI 0]) := by
  have := fsub_c (ofQ a) (ofQ b) za zb
  rwa [subD_ofQ] at this
theorem smT_nat {l : List TermD} {N : Nat} (hl : l.length ≤ 4096) (hN : (N : Int) ≤ 4194304) (h : ∀ t ∈ l, szF t.f ≤ N ∧ okF t.f = true) : smT l := ⟨by omega, fun t ht => by have := (h t ht).1; unfold smF; omega⟩

theorem adds8_c (a b : List TermD) (f : FracD) (x : List FracD) : Contract Try.prog 9 [encTs a, encTs b, encF f, encFs x] (dB true) := by
  have hres := Try.results9
  have k0 := small8_c
  have c1 := fewT_c a 12 6 (by decide)
  have c2 := fewT_c b 12 6 (by decide)
  have c3 := (rfew_c f 6).toN rfl
  rw [show (decide ((f.p.d.length : Int) ≤ 6) && decide ((f.q.d.length : Int) ≤ 6)) = fewF 6 f from rfl] at c3
  have c4 := fewP_c x 12 6 (by decide)
  by_cases hall : fewT a 12 6 = true ∧ fewT b 12 6 = true ∧ fewF 6 f = true ∧ fewP x 12 6 = true ∧ (!((x.length : Int) != 12)) = true
  rotate_left
  · rcases few_or hall with h | h | h | h | h
    · rw [h] at c1
      refine Contract.ofA (CallA.inline Try.func9 rfl (by kernel_rfl) (by kernel_rfl) (by kernel_rfl) ?_)
      rw [Try.ntmps9]
      repeat (first
      | (refine hK _ ?_; clear hK; clear K)
      | (refine aSeq fun K hK => ?_)
      | (refine aBlock ?_)
      | (refine aSkip ?_)
      | (refine aExit ?_)
      | (refine aRet ?_)
      | (refine aOps _ rfl (by kernel_rfl) ?_)
      | (refine aRunK _ rfl mixed (by kernel_rfl) (by kernel_rfl) fun KE hE => ?_)
      | (refine hE _ _ (by kernel_rfl) (intsOk_no rfl) ?_; clear hE; clear KE)
      | (refine hE _ _ (by kernel_rfl) (intsOk_yes ?hi ?hj) ?_; (case hi => (repeat (refine intsDead_updB rfl ?_)); exact intsDead_nil); (case hj => simp); clear hE; clear KE)
      | (refine aCondT rfl ?hc ?_; case hc => simp only [go_sem, ↓reduceIte, hres])
      | (refine aCondF rfl ?hc ?_; case hc => simp only [go_sem, ↓reduceIte, hres])
      | (refine callT_of (k0) ?_ ?_; rotate_left; (repeat (refine intsDead_updB rfl ?_)); exact intsDead_nil)
      | (refine callT_ofN (k0) ?_)
      | (refine callU_of (k0) rfl ?_)
      | (refine callU_ofN (k0) rfl ?_)
      | (refine callT_of (c1) ?_ ?_; rotate_left; (repeat (refine intsDead_updB rfl ?_)); exact intsDead_nil)
      | (refine callT_ofN (c1) ?_)
      | (refine callU_of (c1) rfl ?_)
      | (refine callU_ofN (c1) rfl ?_)
      | (simp only [go_sem, ↓reduceIte, hres])
      | (refine And.intro ?ho ?_; (case ho => omega))
      | (clear hK; clear K))
    · rw [h.1] at c1; rw [h.2] at c2
      refine Contract.ofA (CallA.inline Try.func9 rfl (by kernel_rfl) (by kernel_rfl) (by kernel_rfl) ?_)
      rw [Try.ntmps9]
      repeat (first
      | (refine hK _ ?_; clear hK; clear K)
      | (refine aSeq fun K hK => ?_)
      | (refine aBlock ?_)
      | (refine aSkip ?_)
      | (refine aExit ?_)
      | (refine aRet ?_)
      | (refine aOps _ rfl (by kernel_rfl) ?_)
      | (refine aRunK _ rfl mixed (by kernel_rfl) (by kernel_rfl) fun KE hE => ?_)
      | (refine hE _ _ (by kernel_rfl) (intsOk_no rfl) ?_; clear hE; clear KE)
      | (refine hE _ _ (by kernel_rfl) (intsOk_yes ?hi ?hj) ?_; (case hi => (repeat (refine intsDead_updB rfl ?_)); exact intsDead_nil); (case hj => simp); clear hE; clear KE)
      | (refine aCondT rfl ?hc ?_; case hc => simp only [go_sem, ↓reduceIte, hres])
      | (refine aCondF rfl ?hc ?_; case hc => simp only [go_sem, ↓reduceIte, hres])
      | (refine callT_of (k0) ?_ ?_; rotate_left; (repeat (refine intsDead_updB rfl ?_)); exact intsDead_nil)
      | (refine callT_ofN (k0) ?_)
      | (refine callU_of (k0) rfl ?_)
      | (refine callU_ofN (k0) rfl ?_)
      | (refine callT_of (c1) ?_ ?_; rotate_left; (repeat (refine intsDead_updB rfl ?_)); exact intsDead_nil)
      | (refine callT_ofN (c1) ?_)
      | (refine callU_of (c1) rfl ?_)
      | (refine callU_ofN (c1) rfl ?_)
      | (refine callT_of (c2) ?_ ?_; rotate_left; (repeat (refine intsDead_updB rfl ?_)); exact intsDead_nil)
      | (refine callT_ofN (c2) ?_)
      | (refine callU_of (c2) rfl ?_)
      | (refine callU_ofN (c2) rfl ?_)
      | (simp only [go_sem, ↓reduceIte, hres])
      | (refine And.intro ?ho ?_; (case ho => omega))
      | (clear hK; clear K))
    · rw [h.1] at c1; rw [h.2.1] at c2; rw [h.2.2] at c3
      refine Contract.ofA (CallA.inline Try.func9 rfl (by kernel_rfl) (by kernel_rfl) (by kernel_rfl) ?_)
      rw [Try.ntmps9]
      repeat (first
      | (refine hK _ ?_; clear hK; clear K)
      | (refine aSeq fun K hK => ?_)
      | (refine aBlock ?_)
      | (refine aSkip ?_)
      | (refine aExit ?_)
      | (refine aRet ?_)
      | (refine aOps _ rfl (by kernel_rfl) ?_)
      | (refine aRunK _ rfl mixed (by kernel_rfl) (by kernel_rfl) fun KE hE => ?_)
      | (refine hE _ _ (by kernel_rfl) (intsOk_no rfl) ?_; clear hE; clear KE)
      | (refine hE _ _ (by kernel_rfl) (intsOk_yes ?hi ?hj) ?_; (case hi => (repeat (refine intsDead_updB rfl ?_)); exact intsDead_nil); (case hj => simp); clear hE; clear KE)
      | (refine aCondT rfl ?hc ?_; case hc => simp only [go_sem, ↓reduceIte, hres])
      | (refine aCondF rfl ?hc ?_; case hc => simp only [go_sem, ↓reduceIte, hres])
      | (refine callT_of (k0) ?_ ?_; rotate_left; (repeat (refine intsDead_updB rfl ?_)); exact intsDead_nil)
      | (refine callT_ofN (k0) ?_)
      | (refine callU_of (k0) rfl ?_)
      | (refine callU_ofN (k0) rfl ?_)
      | (refine callT_of (c1) ?_ ?_; rotate_left; (repeat (refine intsDead_updB rfl ?_)); exact intsDead_nil)
      | (refine callT_ofN (c1) ?_)
      | (refine callU_of (c1) rfl ?_)
      | (refine callU_ofN (c1) rfl ?_)
      | (refine callT_of (c2) ?_ ?_; rotate_left; (repeat (refine intsDead_updB rfl ?_)); exact intsDead_nil)
      | (refine callT_ofN (c2) ?_)
      | (refine callU_of (c2) rfl ?_)
      | (refine callU_ofN (c2) rfl ?_)
      | (refine callT_of (c3) ?_ ?_; rotate_left; (repeat (refine intsDead_updB rfl ?_)); exact intsDead_nil)
      | (refine callT_ofN (c3) ?_)
      | (refine callU_of (c3) rfl ?_)
      | (refine callU_ofN (c3) rfl ?_)
      | (simp only [go_sem, ↓reduceIte, hres])
      | (refine And.intro ?ho ?_; (case ho => omega))
      | (clear hK; clear K))
    · rw [h.1] at c1; rw [h.2.1] at c2; rw [h.2.2.1] at c3; rw [h.2.2.2] at c4
      refine Contract.ofA (CallA.inline Try.func9 rfl (by kernel_rfl) (by kernel_rfl) (by kernel_rfl) ?_)
      rw [Try.ntmps9]
      repeat (first
      | (refine hK _ ?_; clear hK; clear K)
      | (refine aSeq fun K hK => ?_)
      | (refine aBlock ?_)
      | (refine aSkip ?_)
      | (refine aExit ?_)
      | (refine aRet ?_)
      | (refine aOps _ rfl (by kernel_rfl) ?_)
      | (refine aRunK _ rfl mixed (by kernel_rfl) (by kernel_rfl) fun KE hE => ?_)
      | (refine hE _ _ (by kernel_rfl) (intsOk_no rfl) ?_; clear hE; clear KE)
      | (refine hE _ _ (by kernel_rfl) (intsOk_yes ?hi ?hj) ?_; (case hi => (repeat (refine intsDead_updB rfl ?_)); exact intsDead_nil); (case hj => simp); clear hE; clear KE)
      | (refine aCondT rfl ?hc ?_; case hc => simp only [go_sem, ↓reduceIte, hres])
      | (refine aCondF rfl ?hc ?_; case hc => simp only [go_sem, ↓reduceIte, hres])
      | (refine callT_of (k0) ?_ ?_; rotate_left; (repeat (refine intsDead_updB rfl ?_)); exact intsDead_nil)
      | (refine callT_ofN (k0) ?_)
      | (refine callU_of (k0) rfl ?_)
      | (refine callU_ofN (k0) rfl ?_)
      | (refine callT_of (c1) ?_ ?_; rotate_left; (repeat (refine intsDead_updB rfl ?_)); exact intsDead_nil)
      | (refine callT_ofN (c1) ?_)
      | (refine callU_of (c1) rfl ?_)
      | (refine callU_ofN (c1) rfl ?_)
      | (refine callT_of (c2) ?_ ?_; rotate_left; (repeat (refine intsDead_updB rfl ?_)); exact intsDead_nil)
      | (refine callT_ofN (c2) ?_)
      | (refine callU_of (c2) rfl ?_)
      | (refine callU_ofN (c2) rfl ?_)
      | (refine callT_of (c3) ?_ ?_; rotate_left; (repeat (refine intsDead_updB rfl ?_)); exact intsDead_nil)
      | (refine callT_ofN (c3) ?_)
      | (refine callU_of (c3) rfl ?_)
      | (refine callU_ofN (c3) rfl ?_)
      | (refine callT_of (c4) ?_ ?_; rotate_left; (repeat (refine intsDead_updB rfl ?_)); exact intsDead_nil)
      | (refine callT_ofN (c4) ?_)
      | (refine callU_of (c4) rfl ?_)
      | (refine callU_ofN (c4) rfl ?_)
      | (simp only [go_sem, ↓reduceIte, hres])
      | (refine And.intro ?ho ?_; (case ho => omega))
      | (clear hK; clear K))
    · rw [h.1] at c1; rw [h.2.1] at c2; rw [h.2.2.1] at c3; rw [h.2.2.2.1] at c4
      have hx : ((x.length : Int) != 12) = true := by simpa using h.2.2.2.2
      refine Contract.ofA (CallA.inline Try.func9 rfl (by kernel_rfl) (by kernel_rfl) (by kernel_rfl) ?_)
      rw [Try.ntmps9]
      repeat (first
      | (refine hK _ ?_; clear hK; clear K)
      | (refine aSeq fun K hK => ?_)
      | (refine aBlock ?_)
      | (refine aSkip ?_)
      | (refine aExit ?_)
      | (refine aRet ?_)
      | (refine aOps _ rfl (by kernel_rfl) ?_)
      | (refine aRunK _ rfl mixed (by kernel_rfl) (by kernel_rfl) fun KE hE => ?_)
      | (refine hE _ _ (by kernel_rfl) (intsOk_no rfl) ?_; clear hE; clear KE)
      | (refine hE _ _ (by kernel_rfl) (intsOk_yes ?hi ?hj) ?_; (case hi => (repeat (refine intsDead_updB rfl ?_)); exact intsDead_nil); (case hj => simp); clear hE; clear KE)
      | (refine aCondT rfl ?hc ?_; case hc => simp only [go_sem, ↓reduceIte, hres, hx])
      | (refine aCondF rfl ?hc ?_; case hc => simp only [go_sem, ↓reduceIte, hres, hx])
      | (refine callT_of (k0) ?_ ?_; rotate_left; (repeat (refine intsDead_updB rfl ?_)); exact intsDead_nil)
      | (refine callT_ofN (k0) ?_)
      | (refine callU_of (k0) rfl ?_)
      | (refine callU_ofN (k0) rfl ?_)
      | (refine callT_of (c1) ?_ ?_; rotate_left; (repeat (refine intsDead_updB rfl ?_)); exact intsDead_nil)
      | (refine callT_ofN (c1) ?_)
      | (refine callU_of (c1) rfl ?_)
      | (refine callU_ofN (c1) rfl ?_)
      | (refine callT_of (c2) ?_ ?_; rotate_left; (repeat (refine intsDead_updB rfl ?_)); exact intsDead_nil)
      | (refine callT_ofN (c2) ?_)
      | (refine callU_of (c2) rfl ?_)
      | (refine callU_ofN (c2) rfl ?_)
      | (refine callT_of (c3) ?_ ?_; rotate_left; (repeat (refine intsDead_updB rfl ?_)); exact intsDead_nil)
      | (refine callT_ofN (c3) ?_)
      | (refine callU_of (c3) rfl ?_)
      | (refine callU_ofN (c3) rfl ?_)
      | (refine callT_of (c4) ?_ ?_; rotate_left; (repeat (refine intsDead_updB rfl ?_)); exact intsDead_nil)
      | (refine callT_ofN (c4) ?_)
      | (refine callU_of (c4) rfl ?_)
      | (refine callU_ofN (c4) rfl ?_)
      | (simp only [go_sem, ↓reduceIte, hres, hx])
      | (refine And.intro ?ho ?_; (case ho => omega))
      | (clear hK; clear K))
  obtain ⟨h1, h2, h3, h4, h5⟩ := hall
  rw [h1] at c1; rw [h2] at c2; rw [h3] at c3; rw [h4] at c4
  have hx : ((x.length : Int) != 12) = false := by simpa using h5
  have hn : (x.length : Int) = 12 := by simpa using hx
  have sa := fewT_sm (by decide) (by decide) h1
  have sb := fewT_sm (by decide) (by decide) h2
  have sf := fewF_sm (by decide) h3
  have sx := fewP_sm (by decide) (by decide) h4
  have na := fewT_nat 6 (by decide) h1
  have nb := fewT_nat 6 (by decide) h2
  have nf := fewF_nat 6 (by decide) h3
  have nx := fewP_nat 6 (by decide) h4
  have la := (fewT_sz h1).1
  have lb := (fewT_sz h2).1
  have v1 := lValue_c a x sa sx
  have v2 := lValue_c b x sb sx
  have v3 := fright_c f (smF_i sf)
  cases hva : (rightT a x.length && okP x)
  · rw [valueD_no hva] at v1
    refine Contract.ofA (CallA.inline Try.func9 rfl (by kernel_rfl) (by kernel_rfl) (by kernel_rfl) ?_)
    rw [Try.ntmps9]
    repeat (first
      | (refine hK _ ?_; clear hK; clear K)
      | (refine aSeq fun K hK => ?_)
      | (refine aBlock ?_)
      | (refine aSkip ?_)
      | (refine aExit ?_)
      | (refine aRet ?_)
      | (refine aOps _ rfl (by kernel_rfl) ?_)
      | (refine aRunK _ rfl mixed (by kernel_rfl) (by kernel_rfl) fun KE hE => ?_)
      | (refine hE _ _ (by kernel_rfl) (intsOk_no rfl) ?_; clear hE; clear KE)
      | (refine hE _ _ (by kernel_rfl) (intsOk_yes ?hi ?hj) ?_; (case hi => (repeat (refine intsDead_updB rfl ?_)); exact intsDead_nil); (case hj => simp); clear hE; clear KE)
      | (refine aCondT rfl ?hc ?_; case hc => simp only [go_sem, ↓reduceIte, hres, hx])
      | (refine aCondF rfl ?hc ?_; case hc => simp only [go_sem, ↓reduceIte, hres, hx])
      | (refine callT_of (k0) ?_ ?_; rotate_left; (repeat (refine intsDead_updB rfl ?_)); exact intsDead_nil)
      | (refine callT_ofN (k0) ?_)
      | (refine callU_of (k0) rfl ?_)
      | (refine callU_ofN (k0) rfl ?_)
      | (refine callT_of (c1) ?_ ?_; rotate_left; (repeat (refine intsDead_updB rfl ?_)); exact intsDead_nil)
      | (refine callT_ofN (c1) ?_)
      | (refine callU_of (c1) rfl ?_)
      | (refine callU_ofN (c1) rfl ?_)
      | (refine callT_of (c2) ?_ ?_; rotate_left; (repeat (refine intsDead_updB rfl ?_)); exact intsDead_nil)
      | (refine callT_ofN (c2) ?_)
      | (refine callU_of (c2) rfl ?_)
      | (refine callU_ofN (c2) rfl ?_)
      | (refine callT_of (c3) ?_ ?_; rotate_left; (repeat (refine intsDead_updB rfl ?_)); exact intsDead_nil)
      | (refine callT_ofN (c3) ?_)
      | (refine callU_of (c3) rfl ?_)
      | (refine callU_ofN (c3) rfl ?_)
      | (refine callT_of (c4) ?_ ?_; rotate_left; (repeat (refine intsDead_updB rfl ?_)); exact intsDead_nil)
      | (refine callT_ofN (c4) ?_)
      | (refine callU_of (c4) rfl ?_)
      | (refine callU_ofN (c4) rfl ?_)
      | (refine callT_of (v1) ?_ ?_; rotate_left; (repeat (refine intsDead_updB rfl ?_)); exact intsDead_nil)
      | (refine callT_ofN (v1) ?_)
      | (refine callU_of (v1) rfl ?_)
      | (refine callU_ofN (v1) rfl ?_)
      | (refine callT_of (v2) ?_ ?_; rotate_left; (repeat (refine intsDead_updB rfl ?_)); exact intsDead_nil)
      | (refine callT_ofN (v2) ?_)
      | (refine callU_of (v2) rfl ?_)
      | (refine callU_ofN (v2) rfl ?_)
      | (refine callT_of (v3) ?_ ?_; rotate_left; (repeat (refine intsDead_updB rfl ?_)); exact intsDead_nil)
      | (refine callT_ofN (v3) ?_)
      | (refine callU_of (v3) rfl ?_)
      | (refine callU_ofN (v3) rfl ?_)
      | (simp only [go_sem, ↓reduceIte, hres, hx])
      | (refine And.intro ?ho ?_; (case ho => omega))
      | (clear hK; clear K))
  rw [valueD_yes hva] at v1
  cases hvb : (rightT b x.length && okP x)
  · rw [valueD_no hvb] at v2
    refine Contract.ofA (CallA.inline Try.func9 rfl (by kernel_rfl) (by kernel_rfl) (by kernel_rfl) ?_)
    rw [Try.ntmps9]
    repeat (first
      | (refine hK _ ?_; clear hK; clear K)
      | (refine aSeq fun K hK => ?_)
      | (refine aBlock ?_)
      | (refine aSkip ?_)
      | (refine aExit ?_)
      | (refine aRet ?_)
      | (refine aOps _ rfl (by kernel_rfl) ?_)
      | (refine aRunK _ rfl mixed (by kernel_rfl) (by kernel_rfl) fun KE hE => ?_)
      | (refine hE _ _ (by kernel_rfl) (intsOk_no rfl) ?_; clear hE; clear KE)
      | (refine hE _ _ (by kernel_rfl) (intsOk_yes ?hi ?hj) ?_; (case hi => (repeat (refine intsDead_updB rfl ?_)); exact intsDead_nil); (case hj => simp); clear hE; clear KE)
      | (refine aCondT rfl ?hc ?_; case hc => simp only [go_sem, ↓reduceIte, hres, hx])
      | (refine aCondF rfl ?hc ?_; case hc => simp only [go_sem, ↓reduceIte, hres, hx])
      | (refine callT_of (k0) ?_ ?_; rotate_left; (repeat (refine intsDead_updB rfl ?_)); exact intsDead_nil)
      | (refine callT_ofN (k0) ?_)
      | (refine callU_of (k0) rfl ?_)
      | (refine callU_ofN (k0) rfl ?_)
      | (refine callT_of (c1) ?_ ?_; rotate_left; (repeat (refine intsDead_updB rfl ?_)); exact intsDead_nil)
      | (refine callT_ofN (c1) ?_)
      | (refine callU_of (c1) rfl ?_)
      | (refine callU_ofN (c1) rfl ?_)
      | (refine callT_of (c2) ?_ ?_; rotate_left; (repeat (refine intsDead_updB rfl ?_)); exact intsDead_nil)
      | (refine callT_ofN (c2) ?_)
      | (refine callU_of (c2) rfl ?_)
      | (refine callU_ofN (c2) rfl ?_)
      | (refine callT_of (c3) ?_ ?_; rotate_left; (repeat (refine intsDead_updB rfl ?_)); exact intsDead_nil)
      | (refine callT_ofN (c3) ?_)
      | (refine callU_of (c3) rfl ?_)
      | (refine callU_ofN (c3) rfl ?_)
      | (refine callT_of (c4) ?_ ?_; rotate_left; (repeat (refine intsDead_updB rfl ?_)); exact intsDead_nil)
      | (refine callT_ofN (c4) ?_)
      | (refine callU_of (c4) rfl ?_)
      | (refine callU_ofN (c4) rfl ?_)
      | (refine callT_of (v1) ?_ ?_; rotate_left; (repeat (refine intsDead_updB rfl ?_)); exact intsDead_nil)
      | (refine callT_ofN (v1) ?_)
      | (refine callU_of (v1) rfl ?_)
      | (refine callU_ofN (v1) rfl ?_)
      | (refine callT_of (v2) ?_ ?_; rotate_left; (repeat (refine intsDead_updB rfl ?_)); exact intsDead_nil)
      | (refine callT_ofN (v2) ?_)
      | (refine callU_of (v2) rfl ?_)
      | (refine callU_ofN (v2) rfl ?_)
      | (refine callT_of (v3) ?_ ?_; rotate_left; (repeat (refine intsDead_updB rfl ?_)); exact intsDead_nil)
      | (refine callT_ofN (v3) ?_)
      | (refine callU_of (v3) rfl ?_)
      | (refine callU_ofN (v3) rfl ?_)
      | (simp only [go_sem, ↓reduceIte, hres, hx])
      | (refine And.intro ?ho ?_; (case ho => omega))
      | (clear hK; clear K))
  rw [valueD_yes hvb] at v2
  cases hf : okF f
  · rw [hf] at v3
    refine Contract.ofA (CallA.inline Try.func9 rfl (by kernel_rfl) (by kernel_rfl) (by kernel_rfl) ?_)
    rw [Try.ntmps9]
    repeat (first
      | (refine hK _ ?_; clear hK; clear K)
      | (refine aSeq fun K hK => ?_)
      | (refine aBlock ?_)
      | (refine aSkip ?_)
      | (refine aExit ?_)
      | (refine aRet ?_)
      | (refine aOps _ rfl (by kernel_rfl) ?_)
      | (refine aRunK _ rfl mixed (by kernel_rfl) (by kernel_rfl) fun KE hE => ?_)
      | (refine hE _ _ (by kernel_rfl) (intsOk_no rfl) ?_; clear hE; clear KE)
      | (refine hE _ _ (by kernel_rfl) (intsOk_yes ?hi ?hj) ?_; (case hi => (repeat (refine intsDead_updB rfl ?_)); exact intsDead_nil); (case hj => simp); clear hE; clear KE)
      | (refine aCondT rfl ?hc ?_; case hc => simp only [go_sem, ↓reduceIte, hres, hx])
      | (refine aCondF rfl ?hc ?_; case hc => simp only [go_sem, ↓reduceIte, hres, hx])
      | (refine callT_of (k0) ?_ ?_; rotate_left; (repeat (refine intsDead_updB rfl ?_)); exact intsDead_nil)
      | (refine callT_ofN (k0) ?_)
      | (refine callU_of (k0) rfl ?_)
      | (refine callU_ofN (k0) rfl ?_)
      | (refine callT_of (c1) ?_ ?_; rotate_left; (repeat (refine intsDead_updB rfl ?_)); exact intsDead_nil)
      | (refine callT_ofN (c1) ?_)
      | (refine callU_of (c1) rfl ?_)
      | (refine callU_ofN (c1) rfl ?_)
      | (refine callT_of (c2) ?_ ?_; rotate_left; (repeat (refine intsDead_updB rfl ?_)); exact intsDead_nil)
      | (refine callT_ofN (c2) ?_)
      | (refine callU_of (c2) rfl ?_)
      | (refine callU_ofN (c2) rfl ?_)
      | (refine callT_of (c3) ?_ ?_; rotate_left; (repeat (refine intsDead_updB rfl ?_)); exact intsDead_nil)
      | (refine callT_ofN (c3) ?_)
      | (refine callU_of (c3) rfl ?_)
      | (refine callU_ofN (c3) rfl ?_)
      | (refine callT_of (c4) ?_ ?_; rotate_left; (repeat (refine intsDead_updB rfl ?_)); exact intsDead_nil)
      | (refine callT_ofN (c4) ?_)
      | (refine callU_of (c4) rfl ?_)
      | (refine callU_ofN (c4) rfl ?_)
      | (refine callT_of (v1) ?_ ?_; rotate_left; (repeat (refine intsDead_updB rfl ?_)); exact intsDead_nil)
      | (refine callT_ofN (v1) ?_)
      | (refine callU_of (v1) rfl ?_)
      | (refine callU_ofN (v1) rfl ?_)
      | (refine callT_of (v2) ?_ ?_; rotate_left; (repeat (refine intsDead_updB rfl ?_)); exact intsDead_nil)
      | (refine callT_ofN (v2) ?_)
      | (refine callU_of (v2) rfl ?_)
      | (refine callU_ofN (v2) rfl ?_)
      | (refine callT_of (v3) ?_ ?_; rotate_left; (repeat (refine intsDead_updB rfl ?_)); exact intsDead_nil)
      | (refine callT_ofN (v3) ?_)
      | (refine callU_of (v3) rfl ?_)
      | (refine callU_ofN (v3) rfl ?_)
      | (simp only [go_sem, ↓reduceIte, hres, hx])
      | (refine And.intro ?ho ?_; (case ho => omega))
      | (clear hK; clear K))
  rw [hf] at v3
  simp only [Bool.and_eq_true] at hva hvb
  rw [hn] at hva hvb
  have ra := rightT_high (n' := 1500) (by decide) hva.1
  have rb := rightT_high (n' := 1500) (by decide) hvb.1
  have rp : rightT (plusD a b) 12 = true := rightT_plus (by decide) hva.1 hvb.1
  have rt : rightT (timesD a f) 12 = true := rightT_times hva.1
  have p1 := lplus_c a b sa sb
  have p2 := ltimes_c a f sa sf
  obtain ⟨pl, pz⟩ := plusD_sz na nb
  obtain ⟨tl, tz⟩ := timesD_sz na nf
  have sp : smT (plusD a b) := smT_nat (N := 13) (by omega) (by decide) pz
  have st : smT (timesD a f) := smT_nat (N := 12) (by omega) (by decide) tz
  have p3 := lValue_c (plusD a b) x sp sx
  rw [valueD_yes (by rw [hn, rp, hva.2]; rfl)] at p3
  have p4 := lValue_c (timesD a f) x st sx
  rw [valueD_yes (by rw [hn, rt, hva.2]; rfl)] at p4
  have d1 : dotD (plusD a b) x = dotD a x + dotD b x := by rw [dotD_eq, dotD_eq, dotD_eq, plusD_dot ra rb]
  have d2 : dotD (timesD a f) x = qOf f * dotD a x := by rw [dotD_eq, dotD_eq, timesD_dot ra hf]
  rw [d1] at p3
  rw [d2] at p4
  have z1 := szF_dot ⟨a, 0, zF⟩ x sa sx (by rw [hn]; exact hva.1) hva.2
  have z2 := szF_dot ⟨b, 0, zF⟩ x sb sx (by rw [hn]; exact hvb.1) hva.2
  rw [szQ_ofQ] at z1 z2
  dsimp only at z1 z2
  have p5 := qadd_c (dotD a x) (dotD b x) (by omega) (by omega)
  have p6 := fmul_c f (ofQ (dotD a x)) (smF_i sf) (by rw [szQ_ofQ]; omega)
  rw [show mulD f (ofQ (dotD a x)) = (ofQ (qOf f * dotD a x), 0) by simp [mulD, hf, okF_ofQ, qOf_ofQ]] at p6
  have p7 := lright_c (plusD a b) 12 sp
  rw [rp] at p7
  have p8 := lright_c (timesD a f) 12 st
  rw [rt] at p8
  have e1 := fsame_c (ofQ (dotD a x + dotD b x)) (ofQ (dotD a x + dotD b x))
  have e2 := fsame_c (ofQ (qOf f * dotD a x)) (ofQ (qOf f * dotD a x))
  rw [sameF_self] at e1 e2
  refine Contract.ofA (CallA.inline Try.func9 rfl (by kernel_rfl) (by kernel_rfl) (by kernel_rfl) ?_)
  rw [Try.ntmps9]
  repeat (first
      | (refine hK _ ?_; clear hK; clear K)
      | (refine aSeq fun K hK => ?_)
      | (refine aBlock ?_)
      | (refine aSkip ?_)
      | (refine aExit ?_)
      | (refine aRet ?_)
      | (refine aOps _ rfl (by kernel_rfl) ?_)
      | (refine aRunK _ rfl mixed (by kernel_rfl) (by kernel_rfl) fun KE hE => ?_)
      | (refine hE _ _ (by kernel_rfl) (intsOk_no rfl) ?_; clear hE; clear KE)
      | (refine hE _ _ (by kernel_rfl) (intsOk_yes ?hi ?hj) ?_; (case hi => (repeat (refine intsDead_updB rfl ?_)); exact intsDead_nil); (case hj => simp); clear hE; clear KE)
      | (refine aCondT rfl ?hc ?_; case hc => simp only [go_sem, ↓reduceIte, hres, hx])
      | (refine aCondF rfl ?hc ?_; case hc => simp only [go_sem, ↓reduceIte, hres, hx])
      | (refine callT_of (k0) ?_ ?_; rotate_left; (repeat (refine intsDead_updB rfl ?_)); exact intsDead_nil)
      | (refine callT_ofN (k0) ?_)
      | (refine callU_of (k0) rfl ?_)
      | (refine callU_ofN (k0) rfl ?_)
      | (refine callT_of (c1) ?_ ?_; rotate_left; (repeat (refine intsDead_updB rfl ?_)); exact intsDead_nil)
      | (refine callT_ofN (c1) ?_)
      | (refine callU_of (c1) rfl ?_)
      | (refine callU_ofN (c1) rfl ?_)
      | (refine callT_of (c2) ?_ ?_; rotate_left; (repeat (refine intsDead_updB rfl ?_)); exact intsDead_nil)
      | (refine callT_ofN (c2) ?_)
      | (refine callU_of (c2) rfl ?_)
      | (refine callU_ofN (c2) rfl ?_)
      | (refine callT_of (c3) ?_ ?_; rotate_left; (repeat (refine intsDead_updB rfl ?_)); exact intsDead_nil)
      | (refine callT_ofN (c3) ?_)
      | (refine callU_of (c3) rfl ?_)
      | (refine callU_ofN (c3) rfl ?_)
      | (refine callT_of (c4) ?_ ?_; rotate_left; (repeat (refine intsDead_updB rfl ?_)); exact intsDead_nil)
      | (refine callT_ofN (c4) ?_)
      | (refine callU_of (c4) rfl ?_)
      | (refine callU_ofN (c4) rfl ?_)
      | (refine callT_of (v1) ?_ ?_; rotate_left; (repeat (refine intsDead_updB rfl ?_)); exact intsDead_nil)
      | (refine callT_ofN (v1) ?_)
      | (refine callU_of (v1) rfl ?_)
      | (refine callU_ofN (v1) rfl ?_)
      | (refine callT_of (v2) ?_ ?_; rotate_left; (repeat (refine intsDead_updB rfl ?_)); exact intsDead_nil)
      | (refine callT_ofN (v2) ?_)
      | (refine callU_of (v2) rfl ?_)
      | (refine callU_ofN (v2) rfl ?_)
      | (refine callT_of (v3) ?_ ?_; rotate_left; (repeat (refine intsDead_updB rfl ?_)); exact intsDead_nil)
      | (refine callT_ofN (v3) ?_)
      | (refine callU_of (v3) rfl ?_)
      | (refine callU_ofN (v3) rfl ?_)
      | (refine callT_of (p1) ?_ ?_; rotate_left; (repeat (refine intsDead_updB rfl ?_)); exact intsDead_nil)
      | (refine callT_ofN (p1) ?_)
      | (refine callU_of (p1) rfl ?_)
      | (refine callU_ofN (p1) rfl ?_)
      | (refine callT_of (p2) ?_ ?_; rotate_left; (repeat (refine intsDead_updB rfl ?_)); exact intsDead_nil)
      | (refine callT_ofN (p2) ?_)
      | (refine callU_of (p2) rfl ?_)
      | (refine callU_ofN (p2) rfl ?_)
      | (refine callT_of (p3) ?_ ?_; rotate_left; (repeat (refine intsDead_updB rfl ?_)); exact intsDead_nil)
      | (refine callT_ofN (p3) ?_)
      | (refine callU_of (p3) rfl ?_)
      | (refine callU_ofN (p3) rfl ?_)
      | (refine callT_of (p4) ?_ ?_; rotate_left; (repeat (refine intsDead_updB rfl ?_)); exact intsDead_nil)
      | (refine callT_ofN (p4) ?_)
      | (refine callU_of (p4) rfl ?_)
      | (refine callU_ofN (p4) rfl ?_)
      | (refine callT_of (p5) ?_ ?_; rotate_left; (repeat (refine intsDead_updB rfl ?_)); exact intsDead_nil)
      | (refine callT_ofN (p5) ?_)
      | (refine callU_of (p5) rfl ?_)
      | (refine callU_ofN (p5) rfl ?_)
      | (refine callT_of (p6) ?_ ?_; rotate_left; (repeat (refine intsDead_updB rfl ?_)); exact intsDead_nil)
      | (refine callT_ofN (p6) ?_)
      | (refine callU_of (p6) rfl ?_)
      | (refine callU_ofN (p6) rfl ?_)
      | (refine callT_of (p7) ?_ ?_; rotate_left; (repeat (refine intsDead_updB rfl ?_)); exact intsDead_nil)
      | (refine callT_ofN (p7) ?_)
      | (refine callU_of (p7) rfl ?_)
      | (refine callU_ofN (p7) rfl ?_)
      | (refine callT_of (p8) ?_ ?_; rotate_left; (repeat (refine intsDead_updB rfl ?_)); exact intsDead_nil)
      | (refine callT_ofN (p8) ?_)
      | (refine callU_of (p8) rfl ?_)
      | (refine callU_ofN (p8) rfl ?_)
      | (refine callT_of (e1) ?_ ?_; rotate_left; (repeat (refine intsDead_updB rfl ?_)); exact intsDead_nil)
      | (refine callT_ofN (e1) ?_)
      | (refine callU_of (e1) rfl ?_)
      | (refine callU_ofN (e1) rfl ?_)
      | (refine callT_of (e2) ?_ ?_; rotate_left; (repeat (refine intsDead_updB rfl ?_)); exact intsDead_nil)
      | (refine callT_ofN (e2) ?_)
      | (refine callU_of (e2) rfl ?_)
      | (refine callU_ofN (e2) rfl ?_)
      | (simp only [go_sem, ↓reduceIte, hres, hx])
      | (refine And.intro ?ho ?_; (case ho => omega))
      | (clear hK; clear K))
end Go.Proofs.Ytenmlcpbjjlokaa
