/-
  dual.multipliers, Signed, add, below.
-/
import Derived.Test.YtbnbpfjfkedbaaaPDualP
namespace Go.Proofs.Ytbnbpfjfkedbaaa
set_option linter.unusedVariables false
set_option linter.unusedSimpArgs false
set_option linter.unusedSectionVars false
open Go Go.RowKit
attribute [local go_sem] opsL_nil opsL_go opsL_guard gSel_tt gSel_ff gSel_tf gSel_ft stepR_some stepR_none callS_some callE_some runL_nil runL_go runL_guard gSelE_tt gSelE_ff gSelE_tf gSelE_ft stepE_some stepE_none opF callD rd constD putT upd_get guardL gOf_bool gOf_undef fieldAddrF fieldF loadF storeF indexAddrF indexF sliceF strSliceF bound buildF fillF buildSliceF elemsF allocF makeSliceF lenF elemsOf appendF minmaxF convertF boxF ldE blkAt spliceE D.cells? D.isCell Res.pure ov TyI.agg binD unD boolD initT thenA inBlockA argD argDs refsD refsL killW datJ datJs endA_ret endA_normal endR_some oneD_one oneD_two oneD_three oneD_four resDs resD fzT Value.oneCell' strip tabT tabM
attribute [local go_sem] List.map Nat.reduceEqDiff Nat.reduceBEq List.getElem?_cons_zero List.getElem?_cons_succ List.getElem?_nil Option.getD_some Option.getD_none true_and and_true true_or or_true false_or or_false and_self Nat.add_zero Nat.zero_add List.length_nil List.length_cons forall_const ite_true ite_false Bool.or_self Bool.false_eq_true Option.map_some Option.map_none beq_self_eq_true Nat.reduceAdd Nat.reduceSub Nat.reduceMul reduceCtorEq List.getElem?_toArray Bool.not_true Bool.not_false decide_eq_true_eq decide_true decide_false Nat.reduceLeDiff Nat.reduceLT Bool.or_false Bool.or_true Bool.and_true Bool.and_false Bool.false_and Bool.true_and Bool.true_beq Bool.false_beq beq_true beq_false Bool.not_eq_true List.drop_succ_cons List.take_succ_cons List.drop_zero List.take_zero List.length_map List.getElem?_map List.length_append List.all_cons List.all_nil List.append_nil List.nil_append List.cons_append List.set_cons_zero List.set_cons_succ Int.toNat_natCast Int.toNat_zero Option.isSome_some Option.isSome_none Array.size_empty ByteArray.size_empty Int.reduceToNat Int.reduceAdd Int.reduceSub Int.reduceLT Int.reduceLE Int.reduceEq Int.reduceNe Int.reduceBEq Int.reduceNeg List.forall_mem_cons List.not_mem_nil false_implies List.forall_mem_map implies_true Nat.reduceBNe Int.cast_ofNat_Int Int.reduceMul Int.reduceGE Int.reduceGT wrap_in ty_2 ty_3 ty_4 ty_5 ty_6 ty_7 ty_8 ty_9 ty_10 ty_11 ty_12 ty_13 ty_14 ty_18 ty_19 ty_21 ty_22 ty_23 ty_24 ty_25 ty_26 ty_27 ty_28 ty_29 ty_30 ty_34 ty_37 ty_41 ty_42 ty_49 ty_51 ty_53 ty_54 ty_55 ty_57 ty_58 ty_59 ty_60 ty_61 ty_62 ty_63 ty_64 ty_65 ty_66 ty_69 ty_70 ty_118 ty_119 ty_129 ty_130 ty_131 ty_132 ty_134 ty_139 ty_140 ty_141 ty_142 ty_145 ty_146 ty_162 ty_163 ty_173 ty_174 ty_175 ty_176 ty_177 ty_178 ty_179 ty_180 ty_183 ty_184 ty_185 ty_186
set_option maxRecDepth 100000
set_option maxHeartbeats 4000000
def tnF (f : FracD) : Prop := (szF f : Int) ≤ 262144
def tnT (l : List TermD) : Prop := (l.length : Int) ≤ 64 ∧ ∀ t ∈ l, tnF t.f
def tnFs (l : List FracD) : Prop := (l.length : Int) ≤ 64 ∧ ∀ f ∈ l, tnF f
def tnW (w : RowD) : Prop := tnT w.t ∧ tnF w.v
def tnS (s : SysD) : Prop := (s.r.length : Int) ≤ 64 ∧ ∀ w ∈ s.r, tnW w
theorem tnF.sm {f : FracD} (h : tnF f) : smF f := by unfold tnF at h; unfold smF; omega
theorem tnT.sm {l : List TermD} (h : tnT l) : smT l := ⟨by have := h.1; omega, fun t ht => (h.2 t ht).sm⟩
theorem tnFs.sm {l : List FracD} (h : tnFs l) : smFs l := ⟨by have := h.1; omega, fun t ht => (h.2 t ht).sm⟩
theorem tnW.sm {w : RowD} (h : tnW w) : smW w := ⟨h.1.sm, h.2.sm⟩
theorem tnS.sm {s : SysD} (h : tnS s) : smS s := ⟨by have := h.1; omega, fun t ht => (h.2 t ht).sm⟩
structure BelowX where
 a : List TermD
 b : List TermD
 l : Int
def wkT (l : List TermD) : Prop := (l.length : Int) ≤ 4096 ∧ ∀ t ∈ l, (szF t.f : Int) ≤ 549755813888
theorem smT.wk {l : List TermD} (h : smT l) : wkT l := ⟨h.1, fun t ht => smF_i (h.2 t ht)⟩
set_option maxHeartbeats 8000000
def tabL (n : Nat) (c : Nat → List D) : List (List D) := (List.range n).map c
theorem tab_len (n : Nat) (c : Nat → List D) : (tabL n c).length = n := by simp [tabL]
theorem tab_get {n k : Nat} (c : Nat → List D) (h : k < n) : (tabL n c)[k]? = some (c k) := by simp [tabL, h]
theorem tab_congr {n : Nat} {c d : Nat → List D} (h : ∀ u, u < n → c u = d u) : tabL n c = tabL n d := List.map_congr_left fun u hu => h u (List.mem_range.1 hu)
theorem tab_set {n k : Nat} (c : Nat → List D) (x : List D) : (tabL n c).set k x = tabL n (fun u => if u = k then x else c u) := by
 apply List.ext_getElem
 · simp [tabL]
 · intro i h1 h2
   simp only [tabL, List.length_map, List.length_range] at h2
   rw [List.getElem_set]
   simp only [tabL, List.getElem_map, List.getElem_range]
   by_cases e : k = i
   · subst e; simp
   · rw [if_neg e, if_neg (Ne.symm e)]
theorem tab_rep (n : Nat) (z : List D) : List.replicate n z = tabL n (fun _ => z) := by
 unfold tabL; rw [List.map_const', List.length_range]
abbrev zc : List D := [dI 0, .nil, dI 0, .nil]
def fillL (n k : Nat) : List (List D) := tabL n (fun v => if v < k then cF (ofQ 0) else zc)
theorem fill_zero (n : Nat) : fillL n 0 = List.replicate n zc := by rw [tab_rep]; exact tab_congr fun u _ => by rw [if_neg (by omega)]
theorem fill_len (n k : Nat) : (fillL n k).length = n := tab_len _ _
theorem fill_set (n k : Nat) : (fillL n k).set k (cF (ofQ 0)) = fillL n (k + 1) := by
 unfold fillL
 rw [tab_set]
 refine tab_congr fun u _ => ?_
 by_cases h : u = k
 · rw [if_pos h, if_pos (by omega)]
 · rw [if_neg h]
   by_cases h2 : u < k
   · rw [if_pos h2, if_pos (by omega)]
   · rw [if_neg h2, if_neg (by omega)]
def ratL (n : Nat) (c : Nat → Rat) : List (List D) := tabL n (fun v => cF (ofQ (c v)))
theorem rat_len (n : Nat) (c : Nat → Rat) : (ratL n c).length = n := tab_len _ _
theorem rat_get {n k : Nat} (c : Nat → Rat) (h : k < n) : (ratL n c)[k]? = some (cF (ofQ (c k))) := tab_get _ h
theorem rat_set {n k : Nat} (c : Nat → Rat) (q : Rat) : (ratL n c).set k (cF (ofQ q)) = ratL n (fun u => if u = k then q else c u) := by
 unfold ratL
 rw [tab_set]
 refine tab_congr fun u _ => ?_
 by_cases h : u = k <;> simp [h]
theorem rat_congr {n : Nat} {c d : Nat → Rat} (h : ∀ u, u < n → c u = d u) : ratL n c = ratL n d := tab_congr fun u hu => by rw [h u hu]
theorem fill_all (n : Nat) : fillL n n = ratL n (fun _ => 0) := tab_congr fun u hu => by rw [if_pos hu]
theorem dot_take_succ {g : Int → Rat} {l : List TermD} {k : Nat} {t : TermD} (hx : l[k]? = some t) : dotS g (l.take (k + 1)) = dotS g (l.take k) + qOf t.f * g t.v := by
 rw [List.take_add_one, hx, Option.toList_some, dotS_append]; simp only [dotS]; grind
end Go.Proofs.Ytbnbpfjfkedbaaa
