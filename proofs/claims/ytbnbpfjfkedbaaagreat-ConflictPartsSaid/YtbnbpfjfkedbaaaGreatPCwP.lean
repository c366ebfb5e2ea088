/-
  Layer 12: the law ConflictParts.
-/
import Derived.Test.YtbnbpfjfkedbaaaGreatPCwL
namespace Go.Proofs.YtbnbpfjfkedbaaaGreat
set_option linter.unusedVariables false
set_option linter.unusedSimpArgs false
set_option linter.unusedSectionVars false
open Go Go.RowKit
attribute [local go_sem] opsL_nil opsL_go opsL_guard gSel_tt gSel_ff gSel_tf gSel_ft stepR_some stepR_none callS_some callE_some runL_nil runL_go runL_guard gSelE_tt gSelE_ff gSelE_tf gSelE_ft stepE_some stepE_none opF callD rd constD putT upd_get guardL gOf_bool gOf_undef fieldAddrF fieldF loadF storeF indexAddrF indexF sliceF strSliceF bound buildF fillF buildSliceF elemsF allocF makeSliceF lenF elemsOf appendF minmaxF convertF boxF ldE blkAt spliceE D.cells? D.isCell Res.pure ov TyI.agg binD unD boolD initT thenA inBlockA argD argDs refsD refsL killW datJ datJs endA_ret endA_normal endR_some oneD_one oneD_two oneD_three oneD_four resDs resD fzT Value.oneCell' strip tabT tabM
attribute [local go_sem] List.map Nat.reduceEqDiff Nat.reduceBEq List.getElem?_cons_zero List.getElem?_cons_succ List.getElem?_nil Option.getD_some Option.getD_none true_and and_true true_or or_true false_or or_false and_self Nat.add_zero Nat.zero_add List.length_nil List.length_cons forall_const ite_true ite_false Bool.or_self Bool.false_eq_true Option.map_some Option.map_none beq_self_eq_true Nat.reduceAdd Nat.reduceSub Nat.reduceMul reduceCtorEq List.getElem?_toArray Bool.not_true Bool.not_false decide_eq_true_eq decide_true decide_false Nat.reduceLeDiff Nat.reduceLT Bool.or_false Bool.or_true Bool.and_true Bool.and_false Bool.false_and Bool.true_and Bool.true_beq Bool.false_beq beq_true beq_false Bool.not_eq_true List.drop_succ_cons List.take_succ_cons List.drop_zero List.take_zero List.length_map List.getElem?_map List.length_append List.all_cons List.all_nil List.append_nil List.nil_append List.cons_append List.set_cons_zero List.set_cons_succ Int.toNat_natCast Int.toNat_zero Option.isSome_some Option.isSome_none Array.size_empty ByteArray.size_empty Int.reduceToNat Int.reduceAdd Int.reduceSub Int.reduceLT Int.reduceLE Int.reduceEq Int.reduceNe Int.reduceBEq Int.reduceNeg List.forall_mem_cons List.not_mem_nil false_implies List.forall_mem_map implies_true Nat.reduceBNe Int.cast_ofNat_Int Int.reduceMul Int.reduceGE Int.reduceGT wrap_in ty_2 ty_3 ty_4 ty_5 ty_6 ty_7 ty_8 ty_9 ty_10 ty_11 ty_12 ty_13 ty_14 ty_18 ty_19 ty_21 ty_22 ty_23 ty_24 ty_25 ty_26 ty_27 ty_28 ty_29 ty_30 ty_35 ty_44 ty_45 ty_46 ty_67 ty_68 ty_71 ty_74 ty_75 ty_76 ty_77 ty_78 ty_79 ty_133 ty_134 ty_136 ty_137 ty_138 ty_139 ty_141 ty_142 ty_157 ty_158 ty_167 ty_168 ty_169 ty_170 ty_171 ty_173 ty_174 ty_175 ty_178 ty_179 ty_180 ty_181
set_option maxRecDepth 100000
set_option maxHeartbeats 32000000
theorem ints_of_asc {rows : List Int} {n : Int} (h : ascR rows n = true) : ∃ L : List Nat, rows = ints L := by
 refine ⟨rows.map Int.toNat, ?_⟩
 rw [ints, List.map_map]
 refine List.ext_getElem? fun k => ?_
 rw [List.getElem?_map]
 cases hk : rows[k]? with
 | none => rfl
 | some x =>
   have := asc_ge h k x hk
   simp only [Option.map_some, Function.comp, Option.some.injEq]
   omega
theorem part_few {s : SysD} (h : fewS s 5 8 4 = true) {L : List Nat} (hl : L.length ≤ 8) : fewS (partD s L) 5 8 4 = true := by
 have hp := part_len s L
 simp only [fewS, Bool.and_eq_true, decide_eq_true_eq, List.all_eq_true] at h ⊢
 obtain ⟨⟨a, b⟩, d⟩ := h
 refine ⟨⟨a, by omega⟩, fun w hw => ?_⟩
 obtain ⟨i, _, hi⟩ := part_mem.1 hw
 exact d w (List.mem_of_getElem? hi)
def eachB (s : SysD) (x : List FracD) (L : List Nat) (k : Nat) : Bool := holdsS (partD s []) x && (L.take k).all fun i => holdsS (partD s [i]) x
theorem each_succ {s : SysD} {x : List FracD} {L : List Nat} {k i : Nat} (h : L[k]? = some i) : eachB s x L (k + 1) = (eachB s x L k && holdsS (partD s [i]) x) := by
 unfold eachB
 rw [List.take_add_one, h, List.all_append]
 simp [Bool.and_assoc]
theorem each_all {s : SysD} (hs : rightS s = true) {x : List FracD} {L : List Nat} (hl : L.length ≤ 6000) : eachB s x L L.length = holdsS (partD s L) x := by
 rw [Bool.eq_iff_iff, part_holds hs hl]
 unfold eachB
 rw [List.take_length, Bool.and_eq_true, part_holds hs (by simp), List.all_eq_true]
 constructor
 · rintro ⟨⟨a, _⟩, b⟩
   refine ⟨a, fun i hi w hw => ?_⟩
   exact ((part_holds hs (by simp) x).1 (b i hi)).2 i (by simp) w hw
 · rintro ⟨a, b⟩
   refine ⟨⟨a, fun i hi => by cases hi⟩, fun i hi => (part_holds hs (by simp) x).2 ⟨a, fun j hj w hw => ?_⟩⟩
   rw [List.mem_singleton.1 hj] at hw
   exact b i hi w hw
theorem check_no {s : SysD} (hs : rightS s = true) {x : List FracD} {L : List Nat} (hl : L.length ≤ 6000) {y : List FracD} (hw : holdsS (partD s L) x = true) : check12 s (ints L) y = false := by
 cases h : check12 s (ints L) y with
 | false => rfl
 | true =>
   simp only [check12, Bool.and_eq_true] at h
   obtain ⟨h1, h2, h3⟩ := h
   obtain ⟨hb, hr⟩ := (part_holds hs hl x).1 hw
   obtain ⟨p, hp, p1, p2⟩ := refutes_used h1 (x := x) hb.l hb.o hb.n
   obtain ⟨i, hi⟩ := List.getElem?_of_mem hp
   rw [List.getElem?_zip_eq_some] at hi
   obtain ⟨i1, i2⟩ := hi
   have := List.all_eq_true.1 h3 i (List.mem_range.2 (List.getElem?_eq_some_iff.1 i2).1)
   simp only [coverI, zeroAt, i2, Option.map_some, Option.getD_some, Bool.or_eq_true, decide_eq_true_eq] at this
   rcases this with h | h
   · exact absurd h p1
   · rw [hr i (hasI_ints.1 h) p.1 i1] at p2; cases p2
theorem parts12_c (k0 : Contract Tryz.prog 18 [] (dB true)) (s : SysD) (rows : List Int) (x y : List FracD) : Contract Tryz.prog 7 [encS s, encInts rows, encFs x, encFs y] (dB true) := by
 have hres := Tryz.results7
 have q1 := few12_c s
 cases h1 : fewS s 5 8 4
 · rw [h1] at q1
   refine Contract.ofA (CallA.inline Tryz.func7 rfl (by kernel_rfl) (by kernel_rfl) (by kernel_rfl) ?_)
   rw [Tryz.ntmps7]
   exact aGo hres trivial
 rw [h1] at q1
 have q2 := lrightS_c s (few12_sm h1).sm
 cases h2 : rightS s
 · rw [h2] at q2
   refine Contract.ofA (CallA.inline Tryz.func7 rfl (by kernel_rfl) (by kernel_rfl) (by kernel_rfl) ?_)
   rw [Tryz.ntmps7]
   exact aGo hres trivial
 rw [h2] at q2
 have c : Conf s := ⟨h2, h1⟩
 obtain ⟨_, h8, _⟩ := few12_rows h1
 have q3 := list12_c rows s.r.length (by omega)
 cases h3 : ascR rows s.r.length
 · rw [h3] at q3
   refine Contract.ofA (CallA.inline Tryz.func7 rfl (by kernel_rfl) (by kernel_rfl) (by kernel_rfl) ?_)
   rw [Tryz.ntmps7]
   exact aGo hres trivial
 rw [h3] at q3
 obtain ⟨L, rfl⟩ := ints_of_asc h3
 obtain ⟨hl, hlt⟩ := asc_ints h3
 have hlen : ((ints L).length : Int) ≤ 1099511627776 := by simp [ints]; omega
 have q4 := shorts9_c x 8 (by decide)
 cases h4 : fewP x 8 6
 · rw [h4] at q4
   refine Contract.ofA (CallA.inline Tryz.func7 rfl (by kernel_rfl) (by kernel_rfl) (by kernel_rfl) ?_)
   rw [Tryz.ntmps7]
   exact aGo hres trivial
 rw [h4] at q4
 have q5 := shorts9_c y 12 (by decide)
 cases h5 : fewP y 12 6
 · rw [h5] at q5
   refine Contract.ofA (CallA.inline Tryz.func7 rfl (by kernel_rfl) (by kernel_rfl) (by kernel_rfl) ?_)
   rw [Tryz.ntmps7]
   exact aGo hres trivial
 rw [h5] at q5
 have sx := fewP_sm (by decide) (by decide) h4
 have ty : tnFs y := ⟨by have := (fewP_sz h5).1; omega, fun f hf => by have := (fewP_sz h5).2 f hf; unfold tnF; omega⟩
 have q6 := part12_c s (ints L) (few12_sm c.f) hlen
 rw [part12_ints c.r h3] at q6
 have q7 := part12_c s [] (few12_sm c.f) (by decide)
 rw [show part12 s [] = partD s [] by have := part12_ints c.r (L := []) (show ascR (ints []) s.r.length = true from rfl); exact this] at q7
 have q8 := lholds_c (partD s []) x (few12_sm (part_few h1 (L := []) (by decide))).sm sx
 have hpl : ((partD s L).r.length : Int) = L.length := by rw [part_length hlt]
 have hn1 : (s.n != s.n) = false := by simp
 have hn2 : (((partD s L).r.length : Int) != L.length) = false := by rw [hpl]; simp
 have en : (partD s L).n = s.n := rfl
 have hn3 : ((L.length : Int) != L.length) = false := by simp
 have e0 : eachB s x L 0 = holdsS (partD s []) x := by unfold eachB; rw [List.take_zero, List.all_nil, Bool.and_true]
 have eA := each_all c.r (x := x) (L := L) (by omega)
 refine Contract.ofA (CallA.inline Tryz.func7 rfl (by kernel_rfl) (by kernel_rfl) (by kernel_rfl) ?_)
 rw [Tryz.ntmps7]
 refine aGo (cj4 hres en hn1 (cj2 hpl hn3)) ?_
 repeat (guard_target =~ ∀ _ : St → Prop, _; intro K hK)
 clear k0 q1 q2 q3 q4 q5 q6 q7 q8
 refine aLoopT (fun (k : Nat) => [(1, encInts (ints L)), (2, encFs x), (3, encFs y), (4, .lp 0 0 0 0), (9, dB true), (10, .lp 1 0 0 0), (11, dB (eachB s x L k)), (12, dI k)]) (fun _ => [(0, ⟨46, 0, 2, [cS s], 0, false⟩), (1, ⟨46, 0, 2, [cS (partD s L)], 0, false⟩)]) 2 0 (fun k => k ≤ L.length) (fun k => L.length - k) 0 (by omega) ?_ ?_
 · exact leGo e0
 rintro k hk
 have hw : IntKind.i64.wrap ((k : Int) + 1) = (k : Int) + 1 := wrap_in (by omega) (by omega)
 have k1 : (0 : Int) ≤ k := by omega
 by_cases h6 : (k : Int) < L.length
 · obtain ⟨i, hi⟩ : ∃ e, L[k]? = some e := ⟨_, List.getElem?_eq_getElem (by omega)⟩
   have E1 := each_succ (s := s) (x := x) hi
   cases hE : eachB s x L k
   · rw [hE, Bool.false_and] at E1
     refine aGo (cj4 hres k1 h6 (cj2 hE hw)) ?_
     repeat (guard_target =~ ∀ _ : St → Prop, _; intro K hK)
     exact loop_end (k + 1) (by omega) (by omega) (by exact leGo E1)
   · rw [hE, Bool.true_and] at E1
     have hasc1 : ascR (ints [i]) s.r.length = true := asc_of (by simp) fun j hj => by rw [List.mem_singleton.1 hj]; exact hlt i (mem_at hi)
     have q1 := part12_c s (ints [i]) (few12_sm c.f) (by simp [ints])
     rw [part12_ints c.r hasc1] at q1
     have q2 := lholds_c (partD s [i]) x (few12_sm (part_few h1 (L := [i]) (by simp))).sm sx
     rw [← E1] at q2
     have rt : ((k : Int) + 1).toNat = k + 1 := by omega
     have hle1 : (k : Int) ≤ (k : Int) + 1 := by omega
     have hle2 : (k : Int) + 1 ≤ L.length := by omega
     have hsl : List.drop k (List.take (k + 1) ((ints L).map fun x => [dI x])) = [[dI i]] := by
      refine List.ext_getElem? fun j => ?_
      rw [List.getElem?_drop, List.getElem?_take]
      match j with
      | 0 => rw [if_pos (by omega), Nat.add_zero, List.getElem?_map, List.getElem?_map, hi]; rfl
      | j + 1 => rw [if_neg (by omega)]; rfl
     refine aGo (cj4 hres k1 h6 (cj4 hE hw rt (cj3 hle1 hle2 hsl))) ?_
     repeat (guard_target =~ ∀ _ : St → Prop, _; intro K hK)
     exact loop_end (k + 1) (by omega) (by omega) (by exact leGo trivial)
 obtain rfl : k = L.length := by omega
 have q1 := lholds_c (partD s L) x (few12_sm (part_few h1 (L := L) (by omega))).sm sx
 have q2 := lholds_c s x (few12_sm h1).sm sx
 have tS : tnS s := by
  have := (c.fit (L := List.range s.r.length) (by rw [List.length_range]; exact h8)).tn
  rwa [part_range] at this
 have q3 := check12_c s (ints L) y tS ty hlen
 have hno := check_no c.r (x := x) (L := L) (by omega) (y := y)
 have hall : holdsS s x = true → holdsS (partD s L) x = true := fun h => part_all c.r x h (by omega)
 rw [← eA] at q1 hno hall
 cases hE : eachB s x L L.length
 · rw [hE] at q1
   have hS : holdsS s x = false := by
    cases h : holdsS s x with
    | false => rfl
    | true => rw [hall h] at hE; cases hE
   rw [hS] at q2
   exact aGo (cj3 hres h6 hE) trivial
 · rw [hE] at q1
   rw [hno hE] at q3
   cases hS : holdsS s x
   · rw [hS] at q2
     exact aGo (cj3 hres h6 hE) trivial
   · rw [hS] at q2
     exact aGo (cj3 hres h6 hE) trivial
end Go.Proofs.YtbnbpfjfkedbaaaGreat
