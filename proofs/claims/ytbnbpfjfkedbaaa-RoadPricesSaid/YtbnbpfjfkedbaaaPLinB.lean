/-
  What is small; the examples' helpers: of, term, holds, mixed.
-/
import Derived.Test.YtbnbpfjfkedbaaaPLinA
import Derived.Test.YtbnbpfjfkedbaaaPConv
namespace Go.Proofs.Ytbnbpfjfkedbaaa
set_option linter.unusedVariables false
set_option linter.unusedSimpArgs false
set_option linter.unusedSectionVars false
open Go Go.RowKit
attribute [local go_sem] opsL_nil opsL_go opsL_guard gSel_tt gSel_ff gSel_tf gSel_ft stepR_some stepR_none callS_some callE_some runL_nil runL_go runL_guard gSelE_tt gSelE_ff gSelE_tf gSelE_ft stepE_some stepE_none opF callD rd constD putT upd_get guardL gOf_bool gOf_undef fieldAddrF fieldF loadF storeF indexAddrF indexF sliceF strSliceF bound buildF fillF buildSliceF elemsF allocF makeSliceF lenF elemsOf appendF minmaxF convertF boxF ldE blkAt spliceE D.cells? D.isCell Res.pure ov TyI.agg binD unD boolD initT thenA inBlockA argD argDs refsD refsL killW datJ datJs endA_ret endA_normal endR_some oneD_one oneD_two oneD_three oneD_four resDs resD fzT Value.oneCell' strip tabT tabM
attribute [local go_sem] List.map Nat.reduceEqDiff Nat.reduceBEq List.getElem?_cons_zero List.getElem?_cons_succ List.getElem?_nil Option.getD_some Option.getD_none true_and and_true true_or or_true false_or or_false and_self Nat.add_zero Nat.zero_add List.length_nil List.length_cons forall_const ite_true ite_false Bool.or_self Bool.false_eq_true Option.map_some Option.map_none beq_self_eq_true Nat.reduceAdd Nat.reduceSub Nat.reduceMul reduceCtorEq List.getElem?_toArray Bool.not_true Bool.not_false decide_eq_true_eq decide_true decide_false Nat.reduceLeDiff Nat.reduceLT Bool.or_false Bool.or_true Bool.and_true Bool.and_false Bool.false_and Bool.true_and Bool.true_beq Bool.false_beq beq_true beq_false Bool.not_eq_true List.drop_succ_cons List.take_succ_cons List.drop_zero List.take_zero List.length_map List.getElem?_map List.length_append List.all_cons List.all_nil List.append_nil List.nil_append List.cons_append List.set_cons_zero List.set_cons_succ Int.toNat_natCast Int.toNat_zero Option.isSome_some Option.isSome_none Array.size_empty ByteArray.size_empty Int.reduceToNat Int.reduceAdd Int.reduceSub Int.reduceLT Int.reduceLE Int.reduceEq Int.reduceNe Int.reduceBEq Int.reduceNeg List.forall_mem_cons List.not_mem_nil false_implies List.forall_mem_map implies_true Nat.reduceBNe Int.cast_ofNat_Int Int.reduceMul Int.reduceGE Int.reduceGT wrap_in ty_2 ty_3 ty_4 ty_5 ty_6 ty_7 ty_8 ty_9 ty_10 ty_11 ty_12 ty_13 ty_14 ty_18 ty_19 ty_21 ty_22 ty_23 ty_24 ty_25 ty_26 ty_27 ty_28 ty_29 ty_30 ty_34 ty_37 ty_41 ty_42 ty_49 ty_51 ty_53 ty_54 ty_55 ty_57 ty_58 ty_59 ty_60 ty_61 ty_62 ty_63 ty_64 ty_65 ty_66 ty_69 ty_70 ty_118 ty_119 ty_129 ty_130 ty_131 ty_132 ty_134 ty_139 ty_140 ty_141 ty_142 ty_145 ty_146 ty_162 ty_163 ty_173 ty_174 ty_175 ty_176 ty_177 ty_178 ty_179 ty_180 ty_183 ty_184 ty_185 ty_186
set_option maxRecDepth 100000
set_option maxHeartbeats 2000000
abbrev q1 (n : Int) : Rat := Rat.divInt n 1
set_option maxHeartbeats 4000000
abbrev fq (n : Int) : FracD := ofQ (q1 n)
set_option maxHeartbeats 8000000
theorem sameF_self (f : FracD) : sameF f f = true := by cases f; simp [sameF, sameB_iff]
theorem sameF_iff {f g : FracD} : sameF f g = true ↔ f = g := by
 cases f; cases g
 simp [sameF, sameB_iff]
def dotS (g : Int → Rat) : List TermD → Rat
 | [] => 0
 | t :: l => qOf t.f * g t.v + dotS g l
theorem dotS_append (g : Int → Rat) : ∀ l m : List TermD, dotS g (l ++ m) = dotS g l + dotS g m
 | [], m => by simp [dotS]; grind
 | t :: l, m => by simp only [List.cons_append, dotS, dotS_append g l m]; grind
theorem foldl_dot (g : Int → Rat) : ∀ (l : List TermD) (z : Rat), l.foldl (fun a t => a + qOf t.f * g t.v) z = z + dotS g l
 | [], z => by simp only [List.foldl_nil, dotS]; grind
 | t :: l, z => by simp only [List.foldl_cons, dotS]; rw [foldl_dot g l]; grind
theorem dotD_eq (l : List TermD) (x : List FracD) : dotD l x = dotS (atP x) l := by
 unfold dotD; rw [foldl_dot]; grind
theorem plusF_dot (g : Int → Rat) : ∀ (n : Nat) (a b : List TermD), a.length + b.length ≤ n → dotS g (plusF n a b) = dotS g a + dotS g b
 | 0, a, b, h => by
   obtain rfl : a = [] := List.eq_nil_of_length_eq_zero (by omega)
   obtain rfl : b = [] := List.eq_nil_of_length_eq_zero (by have : ([] : List TermD).length = 0 := rfl; omega)
   simp only [plusF, dotS]; grind
 | n + 1, [], [], _ => by simp only [plusF, dotS]; grind
 | n + 1, x :: a, [], h => by simp only [plusF, dotS, plusF_dot g n a [] (by simp at h ⊢; omega)]; grind
 | n + 1, [], y :: b, h => by simp only [plusF, dotS, plusF_dot g n [] b (by simp at h ⊢; omega)]; grind
 | n + 1, x :: a, y :: b, h => by
   simp only [List.length_cons] at h
   simp only [plusF]
   split
   · simp only [dotS, plusF_dot g n a (y :: b) (by simp; omega)]; grind
   · split
     · simp only [dotS, plusF_dot g n (x :: a) b (by simp; omega)]; grind
     · have hv : x.v = y.v := by omega
       split
       · rename_i hz
         rw [plusF_dot g n a b (by omega)]
         simp only [dotS, hv]
         have : qOf x.f * g y.v + qOf y.f * g y.v = 0 := by rw [← Rat.add_mul, hz, Rat.zero_mul]
         grind
       · simp only [dotS, plusF_dot g n a b (by omega), hv, qOf_ofQ]
         grind
theorem sumT_dot (g : Int → Rat) (a b : List TermD) : dotS g (sumT a b) = dotS g a + dotS g b := plusF_dot g _ a b (Nat.le_refl _)
theorem goR_cons {n last : Int} {t : TermD} {l : List TermD} : goR n last (t :: l) = true ↔ last < t.v ∧ t.v < n ∧ sgnD t.f ≠ 0 ∧ goR n t.v l = true := by
 simp [goR, and_assoc]
theorem sgnD_ne {f : FracD} (h : sgnD f ≠ 0) : okF f = true ∧ qOf f ≠ 0 := by
 cases ho : okF f
 · exact absurd (sgnD_no ho) h
 · refine ⟨rfl, fun h0 => h ?_⟩
   simp [sgnD, ho, h0, sgQ]
theorem sgnD_ofQ_ne {q : Rat} (h : q ≠ 0) : sgnD (ofQ q) ≠ 0 := by rw [sgnD_ofQ]; exact fun h0 => h (sgQ_zero.1 h0)
def indI (v u : Int) : Rat := if u = v then 1 else 0
theorem dot_above {n : Int} {v : Int} : ∀ (l : List TermD) (last : Int), v ≤ last → goR n last l = true → dotS (indI v) l = 0
 | [], _, _, _ => rfl
 | t :: l, last, h, k => by
   have k' := goR_cons.1 k
   have ih := dot_above (n := n) (v := v) l t.v (by omega) k'.2.2.2
   simp only [dotS, ih]
   rw [show indI v t.v = 0 from if_neg (by omega)]; grind
theorem dot_head {n : Int} {last : Int} {t : TermD} {l : List TermD} (k : goR n last (t :: l) = true) : dotS (indI t.v) (t :: l) = qOf t.f := by
 have k' := goR_cons.1 k
 simp only [dotS, dot_above l t.v (Int.le_refl _) k'.2.2.2, indI, if_true]; grind
theorem goR_ext {n m : Int} : ∀ (a b : List TermD) (la lb : Int), goR n la a = true → goR m lb b = true → (∀ g, dotS g a = dotS g b) → a = b
 | [], [], _, _, _, _, _ => rfl
 | [], y :: b, _, lb, _, hb, h => by
   have := h (indI y.v)
   rw [dot_head hb] at this
   exact absurd this.symm (sgnD_ne (goR_cons.1 hb).2.2.1).2
 | x :: a, [], la, _, ha, _, h => by
   have := h (indI x.v)
   rw [dot_head ha] at this
   exact absurd this (sgnD_ne (goR_cons.1 ha).2.2.1).2
 | x :: a, y :: b, la, lb, ha, hb, h => by
   have ha' := goR_cons.1 ha
   have hb' := goR_cons.1 hb
   have fx := sgnD_ne ha'.2.2.1
   have fy := sgnD_ne hb'.2.2.1
   rcases Int.lt_trichotomy x.v y.v with hv | hv | hv
   · have := h (indI x.v)
     rw [dot_head ha, dot_above (n := m) (y :: b) x.v (Int.le_refl _) (goR_cons.2 ⟨hv, hb'.2⟩)] at this
     exact absurd this fx.2
   · have hq := h (indI x.v)
     rw [dot_head ha, hv, dot_head hb] at hq
     have he : x = y := by
      cases x with | mk u f => cases y with | mk w g =>
      dsimp only at hv hq fx fy
      rw [okF_eq fx.1, okF_eq fy.1, hq, hv]
     subst he
     congr 1
     refine goR_ext a b x.v x.v ha'.2.2.2 hb'.2.2.2 fun g => ?_
     have := h g
     simp only [dotS] at this
     grind
   · have := h (indI y.v)
     rw [dot_head hb, dot_above (n := n) (x :: a) y.v (Int.le_refl _) (goR_cons.2 ⟨hv, ha'.2⟩)] at this
     exact absurd this.symm fy.2
theorem rightT_ext {n m : Int} {a b : List TermD} (ha : rightT a n = true) (hb : rightT b m = true) (h : ∀ g, dotS g a = dotS g b) : a = b := by
 simp only [rightT, Bool.and_eq_true] at ha hb
 exact goR_ext a b _ _ ha.2 hb.2 h
theorem plusD_dot {a b : List TermD} (ha : rightT a 1500 = true) (hb : rightT b 1500 = true) (g : Int → Rat) : dotS g (plusD a b) = dotS g a + dotS g b := by
 rw [plusD_yes ha hb, sumT_dot]
theorem valueD_yes {l : List TermD} {x : List FracD} (h : (rightT l x.length && okP x) = true) : valueD l x = (ofQ (dotD l x), true) := by unfold valueD; rw [h]; rfl
set_option maxHeartbeats 16000000
theorem dotS_lin (p q : Rat) (g h : Int → Rat) : ∀ l : List TermD, dotS (fun v => p * g v + q * h v) l = p * dotS g l + q * dotS h l
 | [] => by simp only [dotS]; grind
 | t :: l => by simp only [dotS, dotS_lin p q g h l]; grind
theorem fitsK_iff {k : Int} {d : Rat} (h0 : 0 ≤ k) (h3 : k < 3) : fitsK k (sgQ d) = true ↔ (k = 0 → 0 ≤ d) ∧ (k = 1 → d ≤ 0) ∧ (k = 2 → d = 0) := by
 have hk : k = 0 ∨ k = 1 ∨ k = 2 := by omega
 rcases sgQ_cases d with ⟨h, e⟩ | ⟨h, e⟩ | ⟨h, e⟩ <;> rw [e] <;> rcases hk with rfl | rfl | rfl <;> simp [fitsK] <;> grind
theorem sgnD_nonneg {f : FracD} (h : okF f = true) : 0 ≤ sgnD f ↔ 0 ≤ qOf f := by
 have e : sgnD f = sgQ (qOf f) := by simp [sgnD, h]
 rw [e]
 rcases sgQ_cases (qOf f) with ⟨h, g⟩ | ⟨h, g⟩ | ⟨h, g⟩ <;> rw [g] <;> constructor <;> intro h1 <;> grind
end Go.Proofs.Ytbnbpfjfkedbaaa
