/-
  What is small; the examples' helpers: of, term, holds, mixed.
-/
import Derived.Test.YtkddoopknapemaaPLinA
import Derived.Test.YtkddoopknapemaaPConv
namespace Go.Proofs.Ytkddoopknapemaa
set_option linter.unusedVariables false
set_option linter.unusedSimpArgs false
set_option linter.unusedSectionVars false
open Go Go.RowKit
attribute [local go_sem] opsL_nil opsL_go opsL_guard gSel_tt gSel_ff gSel_tf gSel_ft stepR_some stepR_none callS_some callE_some runL_nil runL_go runL_guard gSelE_tt gSelE_ff gSelE_tf gSelE_ft stepE_some stepE_none opF callD rd constD putT upd_get guardL gOf_bool gOf_undef fieldAddrF fieldF loadF storeF indexAddrF indexF sliceF strSliceF bound buildF fillF buildSliceF elemsF allocF makeSliceF lenF elemsOf appendF minmaxF convertF boxF ldE blkAt spliceE D.cells? D.isCell Res.pure ov TyI.agg binD unD boolD initT thenA inBlockA argD argDs refsD refsL killW datJ datJs endA_ret endA_normal endR_some oneD_one oneD_two oneD_three oneD_four resDs resD fzT Value.oneCell' strip tabT tabM
attribute [local go_sem] List.map Nat.reduceEqDiff Nat.reduceBEq List.getElem?_cons_zero List.getElem?_cons_succ List.getElem?_nil Option.getD_some Option.getD_none true_and and_true true_or or_true false_or or_false and_self Nat.add_zero Nat.zero_add List.length_nil List.length_cons forall_const ite_true ite_false Bool.or_self Bool.false_eq_true Option.map_some Option.map_none beq_self_eq_true Nat.reduceAdd Nat.reduceSub Nat.reduceMul reduceCtorEq List.getElem?_toArray Bool.not_true Bool.not_false decide_eq_true_eq decide_true decide_false Nat.reduceLeDiff Nat.reduceLT Bool.or_false Bool.or_true Bool.and_true Bool.and_false Bool.false_and Bool.true_and Bool.true_beq Bool.false_beq beq_true beq_false Bool.not_eq_true List.drop_succ_cons List.take_succ_cons List.drop_zero List.take_zero List.length_map List.getElem?_map List.length_append List.all_cons List.all_nil List.append_nil List.nil_append List.cons_append List.set_cons_zero List.set_cons_succ Int.toNat_natCast Int.toNat_zero Option.isSome_some Option.isSome_none Array.size_empty ByteArray.size_empty Int.reduceToNat Int.reduceAdd Int.reduceSub Int.reduceLT Int.reduceLE Int.reduceEq Int.reduceNe Int.reduceBEq Int.reduceNeg List.forall_mem_cons List.not_mem_nil false_implies List.forall_mem_map implies_true Nat.reduceBNe Int.cast_ofNat_Int Int.reduceMul Int.reduceGE Int.reduceGT wrap_in ty_2 ty_3 ty_4 ty_5 ty_6 ty_7 ty_8 ty_9 ty_10 ty_11 ty_12 ty_13 ty_14 ty_18 ty_19 ty_21 ty_22 ty_23 ty_24 ty_25 ty_26 ty_27 ty_28 ty_29 ty_30 ty_31 ty_32 ty_37 ty_38 ty_41 ty_47 ty_65 ty_66 ty_67 ty_68 ty_77 ty_78 ty_115 ty_116 ty_124 ty_125 ty_126 ty_127 ty_130 ty_131 ty_137 ty_138 ty_144 ty_145 ty_146 ty_147 ty_148 ty_150 ty_151 ty_152 ty_155 ty_156 ty_157 ty_158
set_option maxRecDepth 100000
set_option maxHeartbeats 2000000
def fewF (n : Int) (f : FracD) : Bool := decide ((f.p.d.length : Int) ≤ n) && decide ((f.q.d.length : Int) ≤ n)
def fewT (l : List TermD) (most n : Int) : Bool := decide ((l.length : Int) ≤ most) && l.all (fun t => fewF n t.f)
def fewP (x : List FracD) (most n : Int) : Bool := decide ((x.length : Int) ≤ most) && x.all (fewF n)
def fewS (s : SysD) (vars rows n : Int) : Bool := decide (s.n ≤ vars) && decide ((s.r.length : Int) ≤ rows) && s.r.all (fun w => fewT w.t vars n && fewF n w.v)
theorem fewF_sz {n : Int} {f : FracD} (h : fewF n f = true) : (szF f : Int) ≤ n := by
 simp only [fewF, Bool.and_eq_true, decide_eq_true_eq] at h
 unfold szF; omega
theorem fewT_sz {l : List TermD} {most n : Int} (h : fewT l most n = true) : (l.length : Int) ≤ most ∧ ∀ t ∈ l, (szF t.f : Int) ≤ n := by
 simp only [fewT, Bool.and_eq_true, decide_eq_true_eq] at h
 exact ⟨h.1, fun t ht => fewF_sz (List.all_eq_true.1 h.2 t ht)⟩
theorem fewT_sm {l : List TermD} {most n : Int} (hm : most ≤ 4096) (hn : n ≤ 4194304) (h : fewT l most n = true) : smT l := by
 obtain ⟨h1, h2⟩ := fewT_sz h
 exact ⟨by omega, fun t ht => by have := h2 t ht; unfold smF; omega⟩
theorem fewP_sz {x : List FracD} {most n : Int} (h : fewP x most n = true) : (x.length : Int) ≤ most ∧ ∀ f ∈ x, (szF f : Int) ≤ n := by
 simp only [fewP, Bool.and_eq_true, decide_eq_true_eq] at h
 exact ⟨h.1, fun t ht => fewF_sz (List.all_eq_true.1 h.2 t ht)⟩
theorem fewP_sm {x : List FracD} {most n : Int} (hm : most ≤ 4096) (hn : n ≤ 4194304) (h : fewP x most n = true) : smFs x := by
 obtain ⟨h1, h2⟩ := fewP_sz h
 exact ⟨by omega, fun t ht => by have := h2 t ht; unfold smF; omega⟩
theorem fewT_c (l : List TermD) (most n : Int) (hm : 0 ≤ most ∧ most ≤ 4096) : ContractN Try.prog 22 [encTs l, dI most, dI n] (dB (fewT l most n)) := by
 refine Contract.toN ?_ rfl
 refine Contract.ofA (CallA.inline Try.func22 rfl (by kernel_rfl) (by kernel_rfl) (by kernel_rfl) ?_)
 rw [Try.ntmps22]
 have hres := Try.results22
 refine aGo hres ?_
 repeat (guard_target =~ ∀ _ : St → Prop, _; intro K hK)
 refine aLoopT (fun (k : Nat) => [(0, encTs l), (1, dI most), (2, dI n), (7, dI k)]) (fun _ => []) 0 0 (fun k => k ≤ l.length ∧ (k : Int) ≤ most + 1 ∧ (l.take k).all (fun t => fewF n t.f) = true) (fun k => l.length - k) 0 ⟨by omega, by omega, rfl⟩ ?_ ?_
 · exact leGo trivial
 · rintro k ⟨hk, hk2, hg⟩
   have hw : IntKind.i64.wrap ((k : Int) + 1) = (k : Int) + 1 := wrap_in (by omega) (by omega)
   have h0 : (0 : Int) ≤ k := by omega
   by_cases h1 : (k : Int) < l.length
   · by_cases h2 : (k : Int) ≤ most
     · obtain ⟨t, hx⟩ : ∃ e, l[k]? = some e := ⟨_, List.getElem?_eq_getElem (by omega)⟩
       have hc := (rfew_c t.f n).toN rfl
       have hd : (decide ((t.f.p.d.length : Int) ≤ n) && decide ((t.f.q.d.length : Int) ≤ n)) = fewF n t.f := rfl
       rw [hd] at hc
       cases h3 : fewF n t.f
       · rw [h3] at hc
         refine aGo (cj4 hres h0 h1 (cj3 h2 hx hw)) ?_
         repeat (guard_target =~ ∀ _ : St → Prop, _; intro K hK)
         exact bool_eq (by simp only [fewT, all_not (p := fun t : TermD => fewF n t.f) hx h3, Bool.and_false])
       · rw [h3] at hc
         refine aGo (cj4 hres h0 h1 (cj3 h2 hx hw)) ?_
         repeat (guard_target =~ ∀ _ : St → Prop, _; intro K hK)
         exact loop_end (k + 1) ⟨by omega, by omega, all_take_succ hx hg h3⟩ (by omega) (by exact leGo trivial)
     · have h3 : ¬ (l.length : Int) ≤ most := by omega
       refine aGo (cj4 hres h1 h2 h3) ?_
       repeat (guard_target =~ ∀ _ : St → Prop, _; intro K hK)
       exact bool_eq (by simp [fewT, h3])
   · rw [List.take_of_length_le (by omega)] at hg
     refine aGo (cj2 hres h1) ?_
     repeat (guard_target =~ ∀ _ : St → Prop, _; intro K hK)
     exact bool_eq (by simp only [fewT, hg, Bool.and_true])
theorem fewP_c (x : List FracD) (most n : Int) (hm : 0 ≤ most ∧ most ≤ 4096) : ContractN Try.prog 17 [encFs x, dI most, dI n] (dB (fewP x most n)) := by
 refine Contract.toN ?_ rfl
 refine Contract.ofA (CallA.inline Try.func17 rfl (by kernel_rfl) (by kernel_rfl) (by kernel_rfl) ?_)
 rw [Try.ntmps17]
 have hres := Try.results17
 refine aGo hres ?_
 repeat (guard_target =~ ∀ _ : St → Prop, _; intro K hK)
 refine aLoopT (fun (k : Nat) => [(0, encFs x), (1, dI most), (2, dI n), (7, dI k)]) (fun _ => []) 0 0 (fun k => k ≤ x.length ∧ (k : Int) ≤ most + 1 ∧ (x.take k).all (fewF n) = true) (fun k => x.length - k) 0 ⟨by omega, by omega, rfl⟩ ?_ ?_
 · exact leGo trivial
 · rintro k ⟨hk, hk2, hg⟩
   have hw : IntKind.i64.wrap ((k : Int) + 1) = (k : Int) + 1 := wrap_in (by omega) (by omega)
   have h0 : (0 : Int) ≤ k := by omega
   by_cases h1 : (k : Int) < x.length
   · by_cases h2 : (k : Int) ≤ most
     · obtain ⟨f, hx⟩ : ∃ e, x[k]? = some e := ⟨_, List.getElem?_eq_getElem (by omega)⟩
       have hc := (rfew_c f n).toN rfl
       have hd : (decide ((f.p.d.length : Int) ≤ n) && decide ((f.q.d.length : Int) ≤ n)) = fewF n f := rfl
       rw [hd] at hc
       cases h3 : fewF n f
       · rw [h3] at hc
         refine aGo (cj4 hres h0 h1 (cj3 h2 hx hw)) ?_
         repeat (guard_target =~ ∀ _ : St → Prop, _; intro K hK)
         exact bool_eq (by simp only [fewP, all_not hx h3, Bool.and_false])
       · rw [h3] at hc
         refine aGo (cj4 hres h0 h1 (cj3 h2 hx hw)) ?_
         repeat (guard_target =~ ∀ _ : St → Prop, _; intro K hK)
         exact loop_end (k + 1) ⟨by omega, by omega, all_take_succ hx hg h3⟩ (by omega) (by exact leGo trivial)
     · have h3 : ¬ (x.length : Int) ≤ most := by omega
       refine aGo (cj4 hres h1 h2 h3) ?_
       repeat (guard_target =~ ∀ _ : St → Prop, _; intro K hK)
       exact bool_eq (by simp [fewP, h3])
   · rw [List.take_of_length_le (by omega)] at hg
     refine aGo (cj2 hres h1) ?_
     repeat (guard_target =~ ∀ _ : St → Prop, _; intro K hK)
     exact bool_eq (by simp only [fewP, hg, Bool.and_true])
theorem fewS_c (s : SysD) (vars rows n : Int) (hm : 0 ≤ vars ∧ vars ≤ 4096) (hr : 0 ≤ rows ∧ rows ≤ 4096) : ContractN Try.prog 37 [encS s, dI vars, dI rows, dI n] (dB (fewS s vars rows n)) := by
 refine Contract.toN ?_ rfl
 refine Contract.ofA (CallA.inline Try.func37 rfl (by kernel_rfl) (by kernel_rfl) (by kernel_rfl) ?_)
 rw [Try.ntmps37]
 have hres := Try.results37
 refine aGo hres ?_
 repeat (guard_target =~ ∀ _ : St → Prop, _; intro K hK)
 refine aLoopT (fun (k : Nat) => [(1, dI vars), (2, dI rows), (3, dI n), (4, .lp 0 0 0 0), (9, dI k)]) (fun _ => [(0, ⟨24, 0, 2, [cS s], 0, false⟩)]) 1 0 (fun k => k ≤ s.r.length ∧ (k : Int) ≤ rows + 1 ∧ (s.r.take k).all (fun w => fewT w.t vars n && fewF n w.v) = true) (fun k => s.r.length - k) 0 ⟨by omega, by omega, rfl⟩ ?_ ?_
 · exact leGo trivial
 · rintro k ⟨hk, hk2, hg⟩
   have hw : IntKind.i64.wrap ((k : Int) + 1) = (k : Int) + 1 := wrap_in (by omega) (by omega)
   have h0 : (0 : Int) ≤ k := by omega
   by_cases h1 : (k : Int) < s.r.length
   · by_cases h2 : (k : Int) ≤ rows
     · obtain ⟨w, hx⟩ : ∃ e, s.r[k]? = some e := ⟨_, List.getElem?_eq_getElem (by omega)⟩
       have k1 := fewT_c w.t vars n hm
       have k2 := (rfew_c w.v n).toN rfl
       have hd : (decide ((w.v.p.d.length : Int) ≤ n) && decide ((w.v.q.d.length : Int) ≤ n)) = fewF n w.v := rfl
       rw [hd] at k2
       have bad : (fewT w.t vars n && fewF n w.v) = false → D.v (.bool false) = dB (fewS s vars rows n) := fun h => bool_eq (by simp only [fewS, all_not (p := fun w : RowD => fewT w.t vars n && fewF n w.v) hx h, Bool.and_false])
       cases h3 : fewT w.t vars n
       · rw [h3] at k1
         refine aGo (cj4 hres h0 h1 (cj3 h2 hx hw)) ?_
         repeat (guard_target =~ ∀ _ : St → Prop, _; intro K hK)
         exact bad (by rw [h3]; rfl)
       rw [h3] at k1
       cases h4 : fewF n w.v
       · rw [h4] at k2
         refine aGo (cj4 hres h0 h1 (cj3 h2 hx hw)) ?_
         repeat (guard_target =~ ∀ _ : St → Prop, _; intro K hK)
         exact bad (by rw [h4, Bool.and_false])
       · rw [h4] at k2
         refine aGo (cj4 hres h0 h1 (cj3 h2 hx hw)) ?_
         repeat (guard_target =~ ∀ _ : St → Prop, _; intro K hK)
         exact loop_end (k + 1) ⟨by omega, by omega, all_take_succ hx hg (by rw [h3, h4]; rfl)⟩ (by omega) (by exact leGo trivial)
     · have h3 : ¬ (s.r.length : Int) ≤ rows := by omega
       by_cases h4 : s.n ≤ vars
       · refine aGo (cj4 hres h1 h2 (cj2 h3 h4)) ?_
         repeat (guard_target =~ ∀ _ : St → Prop, _; intro K hK)
         exact bool_eq (by simp [fewS, h3])
       · refine aGo (cj4 hres h1 h2 (cj2 h3 h4)) ?_
         repeat (guard_target =~ ∀ _ : St → Prop, _; intro K hK)
         exact bool_eq (by simp [fewS, h4])
   · rw [List.take_of_length_le (by omega)] at hg
     by_cases h4 : s.n ≤ vars
     · refine aGo (cj3 hres h1 h4) ?_
       repeat (guard_target =~ ∀ _ : St → Prop, _; intro K hK)
       exact bool_eq (by simp only [fewS, hg, h4, decide_true, Bool.and_true, Bool.true_and])
     · refine aGo (cj3 hres h1 h4) ?_
       repeat (guard_target =~ ∀ _ : St → Prop, _; intro K hK)
       exact bool_eq (by simp [fewS, h4])
theorem szQ_frac (p q : Int) (hq : q ≠ 0) (p1 : -9223372036854775808 ≤ p) (p2 : p ≤ 9223372036854775807) (q1 : -9223372036854775808 ≤ q) (q2 : q ≤ 9223372036854775807) : szQ (Rat.divInt p q) ≤ 4 := by
 have h1 := szQ_divInt p q hq
 have h2 := szZ_i64 p p1 (by omega)
 have h3 := szZ_i64 q q1 (by omega)
 omega
abbrev q1 (n : Int) : Rat := Rat.divInt n 1
set_option maxHeartbeats 4000000
abbrev fq (n : Int) : FracD := ofQ (q1 n)
set_option maxHeartbeats 8000000
theorem plusF_sz {A B : Nat} : ∀ (n : Nat) (a b : List TermD), (∀ t ∈ a, szF t.f ≤ A ∧ okF t.f = true) → (∀ t ∈ b, szF t.f ≤ B ∧ okF t.f = true) → (plusF n a b).length ≤ a.length + b.length ∧ ∀ t ∈ plusF n a b, szF t.f ≤ A + B + 1 ∧ okF t.f = true
 | 0, a, b, _, _ => ⟨by simp [plusF], fun t ht => by simp [plusF] at ht⟩
 | _ + 1, [], [], _, _ => ⟨by simp [plusF], fun t ht => by simp [plusF] at ht⟩
 | n + 1, x :: a, [], ha, hb => by
   obtain ⟨h1, h2⟩ := plusF_sz n a [] (fun t ht => ha t (List.mem_cons_of_mem _ ht)) hb
   refine ⟨by simp only [plusF, List.length_cons, List.length_nil] at *; omega, fun t ht => ?_⟩
   simp only [plusF] at ht
   rcases List.mem_cons.1 ht with rfl | ht
   · have := ha t List.mem_cons_self; exact ⟨by omega, this.2⟩
   · exact h2 t ht
 | n + 1, [], y :: b, ha, hb => by
   obtain ⟨h1, h2⟩ := plusF_sz n [] b ha (fun t ht => hb t (List.mem_cons_of_mem _ ht))
   refine ⟨by simp only [plusF, List.length_cons, List.length_nil] at *; omega, fun t ht => ?_⟩
   simp only [plusF] at ht
   rcases List.mem_cons.1 ht with rfl | ht
   · have := hb t List.mem_cons_self; exact ⟨by omega, this.2⟩
   · exact h2 t ht
 | n + 1, x :: a, y :: b, ha, hb => by
   have hx := ha x List.mem_cons_self
   have hy := hb y List.mem_cons_self
   have ha' : ∀ t ∈ a, szF t.f ≤ A ∧ okF t.f = true := fun t ht => ha t (List.mem_cons_of_mem _ ht)
   have hb' : ∀ t ∈ b, szF t.f ≤ B ∧ okF t.f = true := fun t ht => hb t (List.mem_cons_of_mem _ ht)
   simp only [plusF]
   split
   · obtain ⟨h1, h2⟩ := plusF_sz n a (y :: b) ha' hb
     refine ⟨by simp only [List.length_cons] at *; omega, fun t ht => ?_⟩
     rcases List.mem_cons.1 ht with rfl | ht
     · exact ⟨by omega, hx.2⟩
     · exact h2 t ht
   · split
     · obtain ⟨h1, h2⟩ := plusF_sz n (x :: a) b ha hb'
       refine ⟨by simp only [List.length_cons] at *; omega, fun t ht => ?_⟩
       rcases List.mem_cons.1 ht with rfl | ht
       · exact ⟨by omega, hy.2⟩
       · exact h2 t ht
     · obtain ⟨h1, h2⟩ := plusF_sz n a b ha' hb'
       split
       · exact ⟨by simp only [List.length_cons]; omega, h2⟩
       · refine ⟨by simp only [List.length_cons]; omega, fun t ht => ?_⟩
         rcases List.mem_cons.1 ht with rfl | ht
         · refine ⟨?_, okF_ofQ _⟩
           have z := szQ_add (qOf x.f) (qOf y.f)
           rw [szF_ok hx.2, szF_ok hy.2] at z
           show szF (ofQ _) ≤ _
           rw [szQ_ofQ]; omega
         · exact h2 t ht
theorem plusD_sz {a b : List TermD} {A B : Nat} (ha : ∀ t ∈ a, szF t.f ≤ A) (hb : ∀ t ∈ b, szF t.f ≤ B) : (plusD a b).length ≤ a.length + b.length ∧ ∀ t ∈ plusD a b, szF t.f ≤ A + B + 1 ∧ okF t.f = true := by
 unfold plusD
 split
 · rename_i h
   simp only [Bool.and_eq_true] at h
   exact plusF_sz _ a b (fun t ht => ⟨ha t ht, (rightT_mem h.1 ht).2.2.1⟩) (fun t ht => ⟨hb t ht, (rightT_mem h.2 ht).2.2.1⟩)
 · exact ⟨by simp, fun t ht => by simp at ht⟩
theorem timesD_sz {a : List TermD} {f : FracD} {A B : Nat} (ha : ∀ t ∈ a, szF t.f ≤ A) (hf : szF f ≤ B) : (timesD a f).length ≤ a.length ∧ ∀ t ∈ timesD a f, szF t.f ≤ A + B ∧ okF t.f = true := by
 unfold timesD
 split
 · rename_i h
   simp only [Bool.and_eq_true] at h
   refine ⟨by simp, fun t ht => ?_⟩
   obtain ⟨u, hu, rfl⟩ := List.mem_map.1 ht
   refine ⟨?_, okF_ofQ _⟩
   have z := szQ_mul (qOf u.f) (qOf f)
   rw [szF_ok (rightT_mem h.1 hu).2.2.1, szF_ok (sgnD_ok h.2)] at z
   show szF (ofQ _) ≤ _
   rw [szQ_ofQ]
   have := ha u hu
   omega
 · exact ⟨by simp, fun t ht => by simp at ht⟩
theorem fewT_nat {l : List TermD} {most n : Int} (N : Nat) (hN : n ≤ N) (h : fewT l most n = true) : ∀ t ∈ l, szF t.f ≤ N := fun t ht => by have := (fewT_sz h).2 t ht; omega
theorem fewP_nat {l : List FracD} {most n : Int} (N : Nat) (hN : n ≤ N) (h : fewP l most n = true) : ∀ t ∈ l, szF t ≤ N := fun t ht => by have := (fewP_sz h).2 t ht; omega
theorem szF_value (l : List TermD) (x : List FracD) (hs : smT l) (hx : smFs x) : (szF (valueD l x).1 : Int) ≤ 34359750000 := by
 unfold valueD
 split
 · rename_i h
   simp only [Bool.and_eq_true] at h
   have := szQ_dot' hs hx h.1 h.2 (Nat.le_refl _)
   rw [List.take_length] at this
   exact this
 · show (szF zF : Int) ≤ _
   decide
theorem sameF_self (f : FracD) : sameF f f = true := by cases f; simp [sameF, sameB_iff]
theorem sameF_iff {f g : FracD} : sameF f g = true ↔ f = g := by
 cases f; cases g
 simp [sameF, sameB_iff]
def dotS (g : Int → Rat) : List TermD → Rat
 | [] => 0
 | t :: l => qOf t.f * g t.v + dotS g l
theorem dotS_append (g : Int → Rat) : ∀ l m : List TermD, dotS g (l ++ m) = dotS g l + dotS g m
 | [], m => by simp [dotS]; grind
 | t :: l, m => by simp only [List.cons_append, dotS, dotS_append g l m]; grind
theorem foldl_dot (g : Int → Rat) : ∀ (l : List TermD) (z : Rat), l.foldl (fun a t => a + qOf t.f * g t.v) z = z + dotS g l
 | [], z => by simp only [List.foldl_nil, dotS]; grind
 | t :: l, z => by simp only [List.foldl_cons, dotS]; rw [foldl_dot g l]; grind
theorem dotD_eq (l : List TermD) (x : List FracD) : dotD l x = dotS (atP x) l := by
 unfold dotD; rw [foldl_dot]; grind
theorem plusF_dot (g : Int → Rat) : ∀ (n : Nat) (a b : List TermD), a.length + b.length ≤ n → dotS g (plusF n a b) = dotS g a + dotS g b
 | 0, a, b, h => by
   obtain rfl : a = [] := List.eq_nil_of_length_eq_zero (by omega)
   obtain rfl : b = [] := List.eq_nil_of_length_eq_zero (by have : ([] : List TermD).length = 0 := rfl; omega)
   simp only [plusF, dotS]; grind
 | n + 1, [], [], _ => by simp only [plusF, dotS]; grind
 | n + 1, x :: a, [], h => by simp only [plusF, dotS, plusF_dot g n a [] (by simp at h ⊢; omega)]; grind
 | n + 1, [], y :: b, h => by simp only [plusF, dotS, plusF_dot g n [] b (by simp at h ⊢; omega)]; grind
 | n + 1, x :: a, y :: b, h => by
   simp only [List.length_cons] at h
   simp only [plusF]
   split
   · simp only [dotS, plusF_dot g n a (y :: b) (by simp; omega)]; grind
   · split
     · simp only [dotS, plusF_dot g n (x :: a) b (by simp; omega)]; grind
     · have hv : x.v = y.v := by omega
       split
       · rename_i hz
         rw [plusF_dot g n a b (by omega)]
         simp only [dotS, hv]
         have : qOf x.f * g y.v + qOf y.f * g y.v = 0 := by rw [← Rat.add_mul, hz, Rat.zero_mul]
         grind
       · simp only [dotS, plusF_dot g n a b (by omega), hv, qOf_ofQ]
         grind
theorem sumT_dot (g : Int → Rat) (a b : List TermD) : dotS g (sumT a b) = dotS g a + dotS g b := plusF_dot g _ a b (Nat.le_refl _)
theorem mul_dot (g : Int → Rat) (f : FracD) : ∀ l : List TermD, dotS g (l.map (mulT f)) = qOf f * dotS g l
 | [] => by simp only [List.map_nil, dotS]; grind
 | t :: l => by simp only [List.map_cons, dotS, mulT, qOf_ofQ, mul_dot g f l]; grind
theorem goR_cons {n last : Int} {t : TermD} {l : List TermD} : goR n last (t :: l) = true ↔ last < t.v ∧ t.v < n ∧ sgnD t.f ≠ 0 ∧ goR n t.v l = true := by
 simp [goR, and_assoc]
theorem goR_low {n last last' : Int} (h : last' ≤ last) : ∀ {l : List TermD}, goR n last l = true → goR n last' l = true
 | [], _ => rfl
 | t :: l, k => by
   rw [goR_cons] at k ⊢
   exact ⟨by omega, k.2.1, k.2.2.1, k.2.2.2⟩
theorem goR_high {n n' last : Int} (h : n ≤ n') : ∀ {l : List TermD} {last : Int}, goR n last l = true → goR n' last l = true
 | [], _, _ => rfl
 | t :: l, _, k => by
   rw [goR_cons] at k ⊢
   exact ⟨k.1, by omega, k.2.2.1, goR_high (last := t.v) h k.2.2.2⟩
theorem rightT_high {n n' : Int} (h : n ≤ n') {l : List TermD} (k : rightT l n = true) : rightT l n' = true := by
 simp only [rightT, Bool.and_eq_true, decide_eq_true_eq] at k ⊢
 exact ⟨by omega, goR_high (last := -1) h k.2⟩
theorem sgnD_ne {f : FracD} (h : sgnD f ≠ 0) : okF f = true ∧ qOf f ≠ 0 := by
 cases ho : okF f
 · exact absurd (sgnD_no ho) h
 · refine ⟨rfl, fun h0 => h ?_⟩
   simp [sgnD, ho, h0, sgQ]
theorem sgnD_ofQ_ne {q : Rat} (h : q ≠ 0) : sgnD (ofQ q) ≠ 0 := by rw [sgnD_ofQ]; exact fun h0 => h (sgQ_zero.1 h0)
theorem plusF_right {n : Int} : ∀ (k : Nat) (last : Int) (a b : List TermD), goR n last a = true → goR n last b = true → goR n last (plusF k a b) = true
 | 0, _, _, _, _, _ => rfl
 | _ + 1, _, [], [], _, _ => rfl
 | k + 1, last, x :: a, [], ha, hb => by
   rw [goR_cons] at ha
   simp only [plusF]
   exact goR_cons.2 ⟨ha.1, ha.2.1, ha.2.2.1, plusF_right k x.v a [] ha.2.2.2 rfl⟩
 | k + 1, last, [], y :: b, ha, hb => by
   rw [goR_cons] at hb
   simp only [plusF]
   exact goR_cons.2 ⟨hb.1, hb.2.1, hb.2.2.1, plusF_right k y.v [] b rfl hb.2.2.2⟩
 | k + 1, last, x :: a, y :: b, ha, hb => by
   have ha' := goR_cons.1 ha
   have hb' := goR_cons.1 hb
   simp only [plusF]
   split
   · exact goR_cons.2 ⟨ha'.1, ha'.2.1, ha'.2.2.1, plusF_right k x.v a (y :: b) ha'.2.2.2 (goR_cons.2 ⟨by assumption, hb'.2.1, hb'.2.2.1, hb'.2.2.2⟩)⟩
   · split
     · exact goR_cons.2 ⟨hb'.1, hb'.2.1, hb'.2.2.1, plusF_right k y.v (x :: a) b (goR_cons.2 ⟨by assumption, ha'.2.1, ha'.2.2.1, ha'.2.2.2⟩) hb'.2.2.2⟩
     · have hv : x.v = y.v := by omega
       split
       · exact plusF_right k last a b (goR_low (by omega) ha'.2.2.2) (goR_low (by omega) hb'.2.2.2)
       · rename_i hz
         exact goR_cons.2 ⟨ha'.1, ha'.2.1, sgnD_ofQ_ne hz, plusF_right k x.v a b ha'.2.2.2 (goR_low (by omega) hb'.2.2.2)⟩
theorem mul_right {n : Int} {f : FracD} (hf : sgnD f ≠ 0) : ∀ (l : List TermD) (last : Int), goR n last l = true → goR n last (l.map (mulT f)) = true
 | [], _, _ => rfl
 | t :: l, last, h => by
   have h' := goR_cons.1 h
   rw [List.map_cons]
   refine goR_cons.2 ⟨h'.1, h'.2.1, sgnD_ofQ_ne ?_, mul_right hf l t.v h'.2.2.2⟩
   have h1 := (sgnD_ne h'.2.2.1).2
   have h2 := (sgnD_ne hf).2
   exact fun h0 => (Rat.mul_eq_zero.1 h0).elim h1 h2
def indI (v u : Int) : Rat := if u = v then 1 else 0
theorem dot_above {n : Int} {v : Int} : ∀ (l : List TermD) (last : Int), v ≤ last → goR n last l = true → dotS (indI v) l = 0
 | [], _, _, _ => rfl
 | t :: l, last, h, k => by
   have k' := goR_cons.1 k
   have ih := dot_above (n := n) (v := v) l t.v (by omega) k'.2.2.2
   simp only [dotS, ih]
   rw [show indI v t.v = 0 from if_neg (by omega)]; grind
theorem dot_head {n : Int} {last : Int} {t : TermD} {l : List TermD} (k : goR n last (t :: l) = true) : dotS (indI t.v) (t :: l) = qOf t.f := by
 have k' := goR_cons.1 k
 simp only [dotS, dot_above l t.v (Int.le_refl _) k'.2.2.2, indI, if_true]; grind
theorem goR_ext {n m : Int} : ∀ (a b : List TermD) (la lb : Int), goR n la a = true → goR m lb b = true → (∀ g, dotS g a = dotS g b) → a = b
 | [], [], _, _, _, _, _ => rfl
 | [], y :: b, _, lb, _, hb, h => by
   have := h (indI y.v)
   rw [dot_head hb] at this
   exact absurd this.symm (sgnD_ne (goR_cons.1 hb).2.2.1).2
 | x :: a, [], la, _, ha, _, h => by
   have := h (indI x.v)
   rw [dot_head ha] at this
   exact absurd this (sgnD_ne (goR_cons.1 ha).2.2.1).2
 | x :: a, y :: b, la, lb, ha, hb, h => by
   have ha' := goR_cons.1 ha
   have hb' := goR_cons.1 hb
   have fx := sgnD_ne ha'.2.2.1
   have fy := sgnD_ne hb'.2.2.1
   rcases Int.lt_trichotomy x.v y.v with hv | hv | hv
   · have := h (indI x.v)
     rw [dot_head ha, dot_above (n := m) (y :: b) x.v (Int.le_refl _) (goR_cons.2 ⟨hv, hb'.2⟩)] at this
     exact absurd this fx.2
   · have hq := h (indI x.v)
     rw [dot_head ha, hv, dot_head hb] at hq
     have he : x = y := by
      cases x with | mk u f => cases y with | mk w g =>
      dsimp only at hv hq fx fy
      rw [okF_eq fx.1, okF_eq fy.1, hq, hv]
     subst he
     congr 1
     refine goR_ext a b x.v x.v ha'.2.2.2 hb'.2.2.2 fun g => ?_
     have := h g
     simp only [dotS] at this
     grind
   · have := h (indI y.v)
     rw [dot_head hb, dot_above (n := n) (x :: a) y.v (Int.le_refl _) (goR_cons.2 ⟨hv, ha'.2⟩)] at this
     exact absurd this.symm fy.2
theorem rightT_ext {n m : Int} {a b : List TermD} (ha : rightT a n = true) (hb : rightT b m = true) (h : ∀ g, dotS g a = dotS g b) : a = b := by
 simp only [rightT, Bool.and_eq_true] at ha hb
 exact goR_ext a b _ _ ha.2 hb.2 h
theorem rightT_plus {n : Int} {a b : List TermD} (hn : n ≤ 1500) (ha : rightT a n = true) (hb : rightT b n = true) : rightT (plusD a b) n = true := by
 rw [plusD_yes (rightT_high hn ha) (rightT_high hn hb)]
 simp only [rightT, Bool.and_eq_true] at ha hb ⊢
 exact ⟨ha.1, plusF_right _ _ a b ha.2 hb.2⟩
theorem plusD_dot {a b : List TermD} (ha : rightT a 1500 = true) (hb : rightT b 1500 = true) (g : Int → Rat) : dotS g (plusD a b) = dotS g a + dotS g b := by
 rw [plusD_yes ha hb, sumT_dot]
theorem rightT_times {n : Int} {a : List TermD} {f : FracD} (ha : rightT a n = true) : rightT (timesD a f) n = true := by
 unfold timesD
 have h0 : decide (0 ≤ n) = true := by simp only [rightT, Bool.and_eq_true] at ha; exact ha.1
 split
 · rename_i h
   simp only [Bool.and_eq_true, bne_iff_ne] at h
   simp only [rightT, Bool.and_eq_true] at ha ⊢
   exact ⟨ha.1, mul_right h.2 a _ ha.2⟩
 · simp [rightT, goR]; simpa using h0
theorem timesD_dot {a : List TermD} {f : FracD} (ha : rightT a 1500 = true) (hf : okF f = true) (g : Int → Rat) : dotS g (timesD a f) = qOf f * dotS g a := by
 unfold timesD
 rw [ha, Bool.true_and]
 split
 · exact mul_dot g f a
 · rename_i h
   have h0 : qOf f = 0 := by
    have : sgnD f = 0 := by simpa using h
    simp only [sgnD, hf, if_true] at this
    exact sgQ_zero.1 this
   rw [h0]; simp only [dotS]; grind
theorem valueD_yes {l : List TermD} {x : List FracD} (h : (rightT l x.length && okP x) = true) : valueD l x = (ofQ (dotD l x), true) := by unfold valueD; rw [h]; rfl
set_option maxHeartbeats 16000000
def mixD (p : Rat) (x y : List FracD) : List FracD := List.zipWith (fun f g => ofQ (p * qOf f + (1 - p) * qOf g)) x y
theorem zip_take_succ {α β γ : Type} (g : α → β → γ) {l : List α} {m : List β} {k : Nat} {x : α} {y : β} (hx : l[k]? = some x) (hy : m[k]? = some y) : List.zipWith g (l.take (k + 1)) (m.take (k + 1)) = List.zipWith g (l.take k) (m.take k) ++ [g x y] := by
 have h1 : k < l.length := (List.getElem?_eq_some_iff.1 hx).1
 have h2 : k < m.length := (List.getElem?_eq_some_iff.1 hy).1
 rw [List.take_add_one, List.take_add_one, hx, hy, Option.toList_some, Option.toList_some, List.zipWith_append (by simp; omega)]
 rfl
def mixK (p : Rat) (x y : List FracD) (k : Nat) : List FracD := mixD p (x.take k) (y.take k)
theorem mixK_succ {p : Rat} {x y : List FracD} {k : Nat} {f g : FracD} (hx : x[k]? = some f) (hy : y[k]? = some g) : mixK p x y (k + 1) = mixK p x y k ++ [ofQ (p * qOf f + (1 - p) * qOf g)] := zip_take_succ _ hx hy
theorem mixK_zero (p : Rat) (x y : List FracD) : mixK p x y 0 = [] := rfl
theorem mixK_len (p : Rat) (x y : List FracD) (k : Nat) : (mixK p x y k).length ≤ x.length := by
 unfold mixK mixD; rw [List.length_zipWith, List.length_take]; omega
theorem mixK_all (p : Rat) {x y : List FracD} (h : x.length = y.length) : mixK p x y x.length = mixD p x y := by
 unfold mixK; rw [List.take_length, h, List.take_length]
theorem fz_fracs (m : Mem) (n : Nat) (l : List FracD) : D.sl (List.map (List.map (fzT true m (n + 1))) (List.map cF l)) = encFs l := by rw [map_map_id (fun _ => rfl)]
theorem at_mix {p : Rat} {x y : List FracD} (hl : x.length = y.length) (v : Int) : atP (mixD p x y) v = p * atP x v + (1 - p) * atP y v := by
 unfold atP mixD
 rw [List.getElem?_zipWith]
 cases hx : x[v.toNat]? with
 | none =>
   have : y[v.toNat]? = none := List.getElem?_eq_none (by have := List.getElem?_eq_none_iff.1 hx; omega)
   rw [this]
   have : qOf zF = 0 := by decide +kernel
   simp only [Option.getD_none, this]; grind
 | some f =>
   have hlt := (List.getElem?_eq_some_iff.1 hx).1
   rw [List.getElem?_eq_getElem (by omega : v.toNat < y.length)]
   simp only [Option.getD_some, qOf_ofQ]
theorem dotS_lin (p q : Rat) (g h : Int → Rat) : ∀ l : List TermD, dotS (fun v => p * g v + q * h v) l = p * dotS g l + q * dotS h l
 | [] => by simp only [dotS]; grind
 | t :: l => by simp only [dotS, dotS_lin p q g h l]; grind
theorem fitsK_iff {k : Int} {d : Rat} (h0 : 0 ≤ k) (h3 : k < 3) : fitsK k (sgQ d) = true ↔ (k = 0 → 0 ≤ d) ∧ (k = 1 → d ≤ 0) ∧ (k = 2 → d = 0) := by
 have hk : k = 0 ∨ k = 1 ∨ k = 2 := by omega
 rcases sgQ_cases d with ⟨h, e⟩ | ⟨h, e⟩ | ⟨h, e⟩ <;> rw [e] <;> rcases hk with rfl | rfl | rfl <;> simp [fitsK] <;> grind
theorem fits_mix {k : Int} {d e p : Rat} (h0 : 0 ≤ k) (h3 : k < 3) (p0 : 0 ≤ p) (p1 : p ≤ 1) (hd : fitsK k (sgQ d) = true) (he : fitsK k (sgQ e) = true) : fitsK k (sgQ (p * d + (1 - p) * e)) = true := by
 rw [fitsK_iff h0 h3] at *
 refine ⟨fun h => ?_, fun h => ?_, fun h => ?_⟩
 · have a := Rat.mul_nonneg p0 (hd.1 h)
   have b := Rat.mul_nonneg (a := 1 - p) (by grind) (he.1 h)
   grind
 · have a := Rat.mul_nonneg p0 (by have := hd.2.1 h; grind : 0 ≤ -d)
   have b := Rat.mul_nonneg (a := 1 - p) (by grind) (by have := he.2.1 h; grind : 0 ≤ -e)
   grind
 · rw [hd.2.2 h, he.2.2 h]; grind
theorem sgnD_nonneg {f : FracD} (h : okF f = true) : 0 ≤ sgnD f ↔ 0 ≤ qOf f := by
 have e : sgnD f = sgQ (qOf f) := by simp [sgnD, h]
 rw [e]
 rcases sgQ_cases (qOf f) with ⟨h, g⟩ | ⟨h, g⟩ | ⟨h, g⟩ <;> rw [g] <;> constructor <;> intro h1 <;> grind
theorem holds_mix {s : SysD} {x y : List FracD} {p : Rat} (hx : holdsS s x = true) (hy : holdsS s y = true) (p0 : 0 ≤ p) (p1 : p ≤ 1) : holdsS s (mixD p x y) = true := by
 simp only [holdsS, Bool.and_eq_true, decide_eq_true_eq] at hx hy ⊢
 obtain ⟨⟨⟨⟨hr, ln⟩, ox⟩, nx⟩, rx⟩ := hx
 obtain ⟨⟨⟨⟨_, ln'⟩, oy⟩, ny⟩, ry⟩ := hy
 have hl : x.length = y.length := by omega
 refine ⟨⟨⟨⟨hr, by unfold mixD; rw [List.length_zipWith]; omega⟩, ?_⟩, ?_⟩, ?_⟩
 · refine List.all_eq_true.2 fun f hf => ?_
   obtain ⟨i, hi⟩ := List.getElem?_of_mem hf
   unfold mixD at hi
   rw [List.getElem?_zipWith] at hi
   split at hi
   · cases hi; exact okF_ofQ _
   · cases hi
 · refine List.all_eq_true.2 fun f hf => ?_
   obtain ⟨i, hi⟩ := List.getElem?_of_mem hf
   unfold mixD at hi
   rw [List.getElem?_zipWith] at hi
   split at hi
   · rename_i a b ha hb
     cases hi
     have na := of_decide_eq_true ((List.all_eq_true.1 nx) a (mem_at ha))
     have nb := of_decide_eq_true ((List.all_eq_true.1 ny) b (mem_at hb))
     have oa := (List.all_eq_true.1 ox) a (mem_at ha)
     have ob := (List.all_eq_true.1 oy) b (mem_at hb)
     rw [sgnD_nonneg oa] at na
     rw [sgnD_nonneg ob] at nb
     refine decide_eq_true ((sgnD_nonneg (okF_ofQ _)).2 ?_)
     rw [qOf_ofQ]
     have u := Rat.mul_nonneg p0 na
     have v := Rat.mul_nonneg (a := 1 - p) (by grind) nb
     grind
   · cases hi
 · refine List.all_eq_true.2 fun w hw => ?_
   have hwr := rightS_mem hr hw
   simp only [rightW, Bool.and_eq_true, decide_eq_true_eq] at hwr
   have a := (List.all_eq_true.1 rx) w hw
   have b := (List.all_eq_true.1 ry) w hw
   unfold holdsW at a b ⊢
   have e : dotD w.t (mixD p x y) - qOf w.v = p * (dotD w.t x - qOf w.v) + (1 - p) * (dotD w.t y - qOf w.v) := by
    rw [dotD_eq, dotD_eq, dotD_eq, show atP (mixD p x y) = fun v => p * atP x v + (1 - p) * atP y v from funext (at_mix hl), dotS_lin]
    grind
   rw [e]
   exact fits_mix hwr.1.1.2 hwr.1.2 p0 p1 a b
theorem divInt_unit {p q : Int} (h0 : 0 ≤ p) (h1 : p ≤ q) (hq : 0 < q) : 0 ≤ Rat.divInt p q ∧ Rat.divInt p q ≤ 1 := by
 have key : ∀ r : Int, 0 ≤ r → 0 ≤ Rat.divInt r q := by
  intro r hr
  have h := sgQ_divInt (p := r) hq
  rcases sgQ_cases (Rat.divInt r q) with ⟨h1, h2⟩ | ⟨h1, h2⟩ | ⟨h1, h2⟩
  · rw [h2] at h
    have := Int.sign_nonneg_iff.2 hr
    omega
  · grind
  · grind
 have hq' : (q : Rat) ≠ 0 := by exact_mod_cast (by omega : q ≠ 0)
 refine ⟨key p h0, ?_⟩
 have h2 := key (q - p) (by omega)
 have e : Rat.divInt (q - p) q = 1 - Rat.divInt p q := by
  rw [Rat.divInt_eq_div, Rat.divInt_eq_div, Rat.intCast_sub]
  have : (q : Rat) / q = 1 := by rw [Rat.div_def, Rat.mul_inv_cancel _ hq']
  grind
 grind
end Go.Proofs.Ytkddoopknapemaa
