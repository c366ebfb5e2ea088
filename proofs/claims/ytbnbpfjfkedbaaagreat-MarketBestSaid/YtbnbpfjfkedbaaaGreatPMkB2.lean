/-
  Layer 44: the reference's division and worth; the law MarketBest.
-/
import Derived.Test.YtbnbpfjfkedbaaaGreatPMkD
namespace Go.Proofs.YtbnbpfjfkedbaaaGreat
set_option linter.unusedVariables false
set_option linter.unusedSimpArgs false
set_option linter.unusedSectionVars false
open Go Go.RowKit
attribute [local go_sem] opsL_nil opsL_go opsL_guard gSel_tt gSel_ff gSel_tf gSel_ft stepR_some stepR_none callS_some callE_some runL_nil runL_go runL_guard gSelE_tt gSelE_ff gSelE_tf gSelE_ft stepE_some stepE_none opF callD rd constD putT upd_get guardL gOf_bool gOf_undef fieldAddrF fieldF loadF storeF indexAddrF indexF sliceF strSliceF bound buildF fillF buildSliceF elemsF allocF makeSliceF lenF elemsOf appendF minmaxF convertF boxF ldE blkAt spliceE D.cells? D.isCell Res.pure ov TyI.agg binD unD boolD initT thenA inBlockA argD argDs refsD refsL killW datJ datJs endA_ret endA_normal endR_some oneD_one oneD_two oneD_three oneD_four resDs resD fzT Value.oneCell' strip tabT tabM
attribute [local go_sem] List.map Nat.reduceEqDiff Nat.reduceBEq List.getElem?_cons_zero List.getElem?_cons_succ List.getElem?_nil Option.getD_some Option.getD_none true_and and_true true_or or_true false_or or_false and_self Nat.add_zero Nat.zero_add List.length_nil List.length_cons forall_const ite_true ite_false Bool.or_self Bool.false_eq_true Option.map_some Option.map_none beq_self_eq_true Nat.reduceAdd Nat.reduceSub Nat.reduceMul reduceCtorEq List.getElem?_toArray Bool.not_true Bool.not_false decide_eq_true_eq decide_true decide_false Nat.reduceLeDiff Nat.reduceLT Bool.or_false Bool.or_true Bool.and_true Bool.and_false Bool.false_and Bool.true_and Bool.true_beq Bool.false_beq beq_true beq_false Bool.not_eq_true List.drop_succ_cons List.take_succ_cons List.drop_zero List.take_zero List.length_map List.getElem?_map List.length_append List.all_cons List.all_nil List.append_nil List.nil_append List.cons_append List.set_cons_zero List.set_cons_succ Int.toNat_natCast Int.toNat_zero Option.isSome_some Option.isSome_none Array.size_empty ByteArray.size_empty Int.reduceToNat Int.reduceAdd Int.reduceSub Int.reduceLT Int.reduceLE Int.reduceEq Int.reduceNe Int.reduceBEq Int.reduceNeg List.forall_mem_cons List.not_mem_nil false_implies List.forall_mem_map implies_true Nat.reduceBNe Int.cast_ofNat_Int Int.reduceMul Int.reduceGE Int.reduceGT wrap_in ty_2 ty_3 ty_4 ty_5 ty_6 ty_7 ty_8 ty_9 ty_10 ty_11 ty_12 ty_13 ty_14 ty_18 ty_19 ty_21 ty_22 ty_23 ty_24 ty_25 ty_26 ty_27 ty_28 ty_29 ty_30 ty_35 ty_44 ty_45 ty_46 ty_67 ty_68 ty_71 ty_74 ty_75 ty_76 ty_77 ty_78 ty_79 ty_133 ty_134 ty_136 ty_137 ty_138 ty_139 ty_141 ty_142 ty_157 ty_158 ty_167 ty_168 ty_169 ty_170 ty_171 ty_173 ty_174 ty_175 ty_178 ty_179 ty_180 ty_181
set_option maxRecDepth 100000
set_option maxHeartbeats 32000000
theorem rdot44_c (p : List FracD) (l : List Int) {B : Nat} (op : okP p = true) (hl : p.length ≤ 16) (hz : ∀ f ∈ p, szF f ≤ B) (hB : B ≤ 262144) (hw : l.length = p.length) (hn : ∀ x ∈ l, 0 ≤ x ∧ x ≤ 1125899906842624) : Contract Tryz.prog 57 [encFs p, encInts l] (encF (ofQ (costW p l))) := by
 have hres := Tryz.results57
 have kz := rint_c 0 (by decide) (by decide)
 obtain ⟨n, hN⟩ : ∃ n : Nat → Int, n = fun i => l[i]?.getD 0 := ⟨_, rfl⟩
 have hat : ∀ i x, l[i]? = some x → x = n i := fun i x h => by rw [hN]; simp only [h]; rfl
 have hnb : ∀ i, i < p.length → 0 ≤ n i ∧ n i ≤ 1125899906842624 := fun i hi => by
  have e : l[i]? = some (l[i]'(by omega)) := List.getElem?_eq_getElem (by omega)
  rw [← hat i _ e]; exact hn _ (List.getElem_mem _)
 unfold costW
 rw [← hN]
 have e0 : dotI p n 0 = ((0 : Int) : Rat) := rfl
 refine Contract.ofA (CallA.inline Tryz.func57 rfl (by kernel_rfl) (by kernel_rfl) (by kernel_rfl) ?_)
 rw [Tryz.ntmps57]
 refine aGo hres ?_
 repeat (guard_target =~ ∀ _ : St → Prop, _; intro K hK)
 refine aLoopT (fun (k : Nat) => [(0, encFs p), (1, encInts l), (4, .lp 0 0 0 0), (5, .lp 1 0 0 0), (6, dI k)]) (fun k => [(0, ⟨28, 0, 4, [zc], 0, false⟩), (1, ⟨28, 0, 4, [cF (ofQ (dotI p n k))], 0, false⟩)]) 2 0 (fun k => k ≤ p.length) (fun k => p.length - k) 0 (by omega) ?_ ?_
 · exact leGo e0
 rintro k hk
 have hwk : IntKind.i64.wrap ((k : Int) + 1) = (k : Int) + 1 := wrap_in (by omega) (by omega)
 have h0 : (0 : Int) ≤ k := by omega
 by_cases h1 : (k : Int) < p.length
 · have h2 : (k : Int) < l.length := by omega
   obtain ⟨f, hx⟩ : ∃ e, p[k]? = some e := ⟨_, List.getElem?_eq_getElem (by omega)⟩
   obtain ⟨x, hy⟩ : ∃ e, l[k]? = some e := ⟨_, List.getElem?_eq_getElem (by omega)⟩
   obtain rfl := hat k x hy
   have o := List.all_eq_true.1 op f (mem_at hx)
   have z := hz f (mem_at hx)
   obtain ⟨n0, n1⟩ := hnb k (by omega)
   have sn := szI_le (n k) n0 n1
   have sm := szQ_mul (qOf f) (n k : Rat)
   rw [szF_ok o] at sm
   have ss := dotI_sz op hz (fun i hi => szI_le (n i) (hnb i hi).1 (hnb i hi).2) k hk
   have sk : k * (B + 4 + 1) ≤ 16 * (B + 4 + 1) := Nat.mul_le_mul_right _ (by omega)
   have ki := rint_c (n k) (by omega) (by omega)
   have km := rmulF_c f (ofQ (n k : Rat)) (by omega) (by rw [szF_ofQ]; omega)
   have em : mulD f (ofQ (n k : Rat)) = (ofQ (qOf f * (n k : Rat)), 0) := by rw [okF_eq o, mulD_ofQ, qOf_ofQ]
   rw [em] at km
   have ka := raddF_c (ofQ (dotI p n k)) (ofQ (qOf f * (n k : Rat))) (by rw [szF_ofQ]; omega) (by rw [szF_ofQ]; omega)
   rw [addD_ofQ, ← dotI_succ p n hx] at ka
   refine aGo (cj4 hres h0 h1 (cj4 h2 hx hy hwk)) ?_
   repeat (guard_target =~ ∀ _ : St → Prop, _; intro K hK)
   exact loop_end (k + 1) (by omega) (by omega) (by exact leGo trivial)
 · obtain rfl : k = p.length := by omega
   exact aGo (cj2 hres h1) trivial
def wantsL (offers : List OffD) (k : Nat) : List Int := (List.range offers.length).map (wantI offers k)
def bidsL (offers : List OffD) : List Int := (List.range offers.length).map (bidI offers)
section
variable {supply : List Int} {offers : List OffD} (R : RightM supply offers)
include R
theorem rwants_c (m : Nat) (hm : m < supply.length) : Contract Tryz.prog 58 [encOfs offers, dI m] (encInts (wantsL offers m)) := by
 have hres := Tryz.results58
 have hn := R.n1
 obtain ⟨F, hF⟩ : ∃ F : Nat → List Int, F = fun n => (List.range n).map (wantI offers m) := ⟨_, rfl⟩
 have F0 : F 0 = [] := by rw [hF]; rfl
 have Fs : ∀ n, F (n + 1) = F n ++ [wantI offers m n] := fun n => by rw [hF]; simp only [List.range_succ, List.map_append]; rfl
 have Fl : ∀ n, (F n).length = n := fun n => by rw [hF]; simp
 have Fe : wantsL offers m = F offers.length := by rw [hF]; rfl
 have m0 : (0 : Int) ≤ m := by omega
 refine Contract.ofA (CallA.inline Tryz.func58 rfl (by kernel_rfl) (by kernel_rfl) (by kernel_rfl) ?_)
 rw [Tryz.ntmps58]
 refine aGo hres ?_
 repeat (guard_target =~ ∀ _ : St → Prop, _; intro K hK)
 refine aLe (le_row 5 3 1 rfl) ?_
 refine aLoopT (fun (k : Nat) => [(0, encOfs offers), (1, dI m), (5, .ls 0 k), (6, dI k)]) (fun k => [(0, ⟨3, k, 1, (F k).map fun x => [dI x], 0, false⟩)]) 1 0 (fun k => k ≤ offers.length) (fun k => offers.length - k) 0 (by omega) ?_ ?_
 · exact leGo F0
 rintro k hk
 have hw : IntKind.i64.wrap ((k : Int) + 1) = (k : Int) + 1 := wrap_in (by omega) (by omega)
 have k0 : (0 : Int) ≤ k := by omega
 by_cases h1 : (k : Int) < offers.length
 · obtain ⟨o, ho⟩ : ∃ e, offers[k]? = some e := ⟨_, List.getElem?_eq_getElem (by omega)⟩
   obtain ⟨hwt, w0, w1⟩ := R.want (k := m) ho hm
   have h1w : (m : Int) < o.wants.length := by have := (R.w o (mem_at ho)).1; omega
   have F1 := Fs k
   have F2 := Fl k
   refine aGo (cj4 hres k0 m0 (cj4 h1 h1w ho (cj3 hwt hw F2))) ?_
   repeat (guard_target =~ ∀ _ : St → Prop, _; intro K hK)
   exact loop_end (k + 1) (by omega) (by omega) (by exact leGo F1)
 · obtain rfl : k = offers.length := by omega
   refine aGo (cj2 hres h1) ?_
   repeat (guard_target =~ ∀ _ : St → Prop, _; intro K hK)
   rw [map_map_id (fun _ => rfl), Fe]
theorem rbids_c : Contract Tryz.prog 61 [encOfs offers] (encInts (bidsL offers)) := by
 have hres := Tryz.results61
 have hn := R.n1
 obtain ⟨F, hF⟩ : ∃ F : Nat → List Int, F = fun n => (List.range n).map (bidI offers) := ⟨_, rfl⟩
 have F0 : F 0 = [] := by rw [hF]; rfl
 have Fs : ∀ n, F (n + 1) = F n ++ [bidI offers n] := fun n => by rw [hF]; simp only [List.range_succ, List.map_append]; rfl
 have Fl : ∀ n, (F n).length = n := fun n => by rw [hF]; simp
 have Fe : bidsL offers = F offers.length := by rw [hF]; rfl
 refine Contract.ofA (CallA.inline Tryz.func61 rfl (by kernel_rfl) (by kernel_rfl) (by kernel_rfl) ?_)
 rw [Tryz.ntmps61]
 refine aGo hres ?_
 repeat (guard_target =~ ∀ _ : St → Prop, _; intro K hK)
 refine aLe (le_row 3 3 1 rfl) ?_
 refine aLoopT (fun (k : Nat) => [(0, encOfs offers), (3, .ls 0 k), (4, dI k)]) (fun k => [(0, ⟨3, k, 1, (F k).map fun x => [dI x], 0, false⟩)]) 1 0 (fun k => k ≤ offers.length) (fun k => offers.length - k) 0 (by omega) ?_ ?_
 · exact leGo F0
 rintro k hk
 have hw : IntKind.i64.wrap ((k : Int) + 1) = (k : Int) + 1 := wrap_in (by omega) (by omega)
 have k0 : (0 : Int) ≤ k := by omega
 by_cases h1 : (k : Int) < offers.length
 · obtain ⟨o, ho⟩ : ∃ e, offers[k]? = some e := ⟨_, List.getElem?_eq_getElem (by omega)⟩
   have eb := R.bid_at ho
   have F1 := Fs k
   have F2 := Fl k
   refine aGo (cj4 hres k0 h1 (cj4 ho hw F2 eb)) ?_
   repeat (guard_target =~ ∀ _ : St → Prop, _; intro K hK)
   exact loop_end (k + 1) (by omega) (by omega) (by exact leGo F1)
 · obtain rfl : k = offers.length := by omega
   refine aGo (cj2 hres h1) ?_
   repeat (guard_target =~ ∀ _ : St → Prop, _; intro K hK)
   rw [map_map_id (fun _ => rfl), Fe]
omit R in
theorem costW_range {x : List FracD} {f : Nat → Int} {n : Nat} (h : x.length = n) : costW x ((List.range n).map f) = dotI x f x.length := by
 unfold costW dotI
 refine sumN_congr _ fun i hi => ?_
 have : ((List.range n).map f)[i]? = some (f i) := by rw [List.getElem?_map, List.getElem?_range (by omega)]; rfl
 show atP x (i : Nat) * ((((List.range n).map f)[i]?.getD 0 : Int) : Rat) = _
 rw [this]; rfl
theorem worth44_c (x : List FracD) (ox : okP x = true) (lx : x.length = offers.length) (zx : ∀ f ∈ x, szF f ≤ 262144) : Contract Tryz.prog 17 [encOfs offers, encFs x] (encF (ofQ (worthI offers x))) := by
 have hres := Tryz.results17
 have hn := R.n1
 have k1 := rbids_c R
 have k2 := rdot44_c x (bidsL offers) ox (by omega) zx (Nat.le_refl _) (by simp [bidsL]; omega) (fun y hy => by
  obtain ⟨i, _, rfl⟩ := List.mem_map.1 hy
  exact R.pb i)
 rw [show costW x (bidsL offers) = worthI offers x from costW_range lx] at k2
 refine Contract.ofA (CallA.inline Tryz.func17 rfl (by kernel_rfl) (by kernel_rfl) (by kernel_rfl) ?_)
 rw [Tryz.ntmps17]
 exact aGo hres trivial
theorem division44_c (x : List FracD) (zx : ∀ f ∈ x, szF f ≤ 262144) (lx15 : x.length ≤ 15) : Contract Tryz.prog 15 [encInts supply, encOfs offers, encFs x] (dB (divB supply offers x)) := by
 have hres := Tryz.results15
 have hn := R.n1
 have hm := R.m1
 have e0 : divB supply offers x = (decide (x.length = offers.length) && (x.all shOk && (List.range supply.length).all (fitsM supply offers x))) := rfl
 generalize divB supply offers x = Z at e0 ⊢
 cases h1 : (x.length : Int) != offers.length
 rotate_left
 · refine Contract.ofA (CallA.inline Tryz.func15 rfl (by kernel_rfl) (by kernel_rfl) (by kernel_rfl) ?_)
   rw [Tryz.ntmps15]
   refine aGo (cj2 hres h1) ?_
   repeat (guard_target =~ ∀ _ : St → Prop, _; intro K hK)
   exact bool_eq (by rw [e0, decide_eq_false (by simp at h1; omega), Bool.false_and])
 have lx : x.length = offers.length := by simp at h1; omega
 rw [decide_eq_true lx, Bool.true_and] at e0
 refine Contract.ofA (CallA.inline Tryz.func15 rfl (by kernel_rfl) (by kernel_rfl) (by kernel_rfl) ?_)
 rw [Tryz.ntmps15]
 refine aGo (cj2 hres h1) ?_
 repeat (guard_target =~ ∀ _ : St → Prop, _; intro K hK)
 refine aLoopT (fun (k : Nat) => [(0, encInts supply), (1, encOfs offers), (2, encFs x), (7, dI k)]) (fun _ => []) 0 0 (fun k => k ≤ x.length ∧ (x.take k).all shOk = true) (fun k => x.length - k) 0 ⟨by omega, rfl⟩ ?_ ?_
 · exact leGo trivial
 rintro k ⟨hk, hg⟩
 have hw : IntKind.i64.wrap ((k : Int) + 1) = (k : Int) + 1 := wrap_in (by omega) (by omega)
 have k0 : (0 : Int) ≤ k := by omega
 by_cases h2 : (k : Int) < x.length
 · obtain ⟨f, hf⟩ : ∃ e, x[k]? = some e := ⟨_, List.getElem?_eq_getElem (by omega)⟩
   have zf := zx f (mem_at hf)
   have q1 := (rrightF_c f (by omega)).toN rfl
   have q2 := (rsignF_c f (by omega)).toN rfl
   have q3 := rint_c 1 (by decide) (by decide)
   have q4 := (rcompareF_c f (ofQ ((1 : Int) : Rat)) (by omega) (by decide +kernel)).toN rfl
   have bad : shOk f = false → D.v (.bool false) = dB Z := fun e => bool_eq (by rw [e0, all_not hf e]; rfl)
   cases h4 : okF f
   · rw [h4] at q1
     refine aGo (cj4 hres k0 h2 (cj2 hf hw)) ?_
     repeat (guard_target =~ ∀ _ : St → Prop, _; intro K hK)
     exact bad (by simp [shOk, h4])
   rw [h4] at q1
   by_cases h5 : sgnD f < 0
   · refine aGo (cj4 hres k0 h2 (cj3 hf hw h5)) ?_
     repeat (guard_target =~ ∀ _ : St → Prop, _; intro K hK)
     exact bad (by have := (sgn_lt h4).1 h5; simp only [shOk, h4, Bool.true_and, Bool.and_eq_false_iff, decide_eq_false_iff_not]; left; grind)
   by_cases h6 : cmpD f (ofQ ((1 : Int) : Rat)) > 0
   · refine aGo (cj4 hres k0 h2 (cj4 hf hw h5 h6)) ?_
     repeat (guard_target =~ ∀ _ : St → Prop, _; intro K hK)
     exact bad (by have := (cmp_gt h4 (okF_ofQ _)).1 h6; rw [qOf_ofQ] at this; simp only [shOk, h4, Bool.true_and, Bool.and_eq_false_iff, decide_eq_false_iff_not]; right; grind)
   refine aGo (cj4 hres k0 h2 (cj4 hf hw h5 h6)) ?_
   repeat (guard_target =~ ∀ _ : St → Prop, _; intro K hK)
   exact loop_end (k + 1) ⟨by omega, all_take_succ hf hg (by
    have a := mt (sgn_lt h4).2 h5
    have b := mt (cmp_gt h4 (okF_ofQ _)).2 h6
    rw [qOf_ofQ] at b
    simp only [shOk, h4, Bool.true_and, Bool.and_eq_true, decide_eq_true_eq]
    constructor <;> grind)⟩ (by omega) (by exact leGo trivial)
 obtain rfl : k = x.length := by omega
 rw [List.take_of_length_le (by omega)] at hg
 clear hk k0 hw
 rw [hg, Bool.true_and] at e0
 have ox := (shares_ok hg).1
 refine aGo (cj2 hres h2) ?_
 repeat (guard_target =~ ∀ _ : St → Prop, _; intro K hK)
 refine aLoopT (fun (k : Nat) => [(0, encInts supply), (1, encOfs offers), (2, encFs x), (8, dI k)]) (fun _ => []) 0 0 (fun k => k ≤ supply.length ∧ (List.range k).all (fitsM supply offers x) = true) (fun k => supply.length - k) 0 ⟨by omega, rfl⟩ ?_ ?_
 · exact leGo trivial
 rintro k ⟨hk, hg2⟩
 have hw : IntKind.i64.wrap ((k : Int) + 1) = (k : Int) + 1 := wrap_in (by omega) (by omega)
 have k0 : (0 : Int) ≤ k := by omega
 by_cases h3 : (k : Int) < supply.length
 · obtain ⟨s, hs⟩ : ∃ e, supply[k]? = some e := ⟨_, List.getElem?_eq_getElem (by omega)⟩
   have hsb := R.s s (mem_at hs)
   have ef : fitsM supply offers x k = decide (usedI offers x k ≤ (s : Rat)) := by unfold fitsM; rw [hs]; rfl
   have q1 := rwants_c R k (by omega)
   have q2 := rdot44_c x (wantsL offers k) ox (by omega) zx (Nat.le_refl _) (by simp [wantsL]; omega) (fun y hy => by
    obtain ⟨i, _, rfl⟩ := List.mem_map.1 hy
    exact ⟨(R.wb k i).1, by have := (R.wb k i).2; omega⟩)
   rw [show costW x (wantsL offers k) = usedI offers x k from costW_range lx] at q2
   have q3 := rint_c s (by omega) (by omega)
   have uz : (szQ (usedI offers x k) : Int) ≤ 4500000 := R.dot_sz ox (by omega) zx (Nat.le_refl _) (n := wantI offers k) (fun i => ⟨(R.wb k i).1, by have := (R.wb k i).2; omega⟩)
   have sz := szI_le s hsb.1 (by omega)
   have q4 := (rcompareF_c (ofQ (usedI offers x k)) (ofQ (s : Rat)) (by rw [szF_ofQ]; omega) (by rw [szF_ofQ]; omega)).toN rfl
   by_cases h4 : cmpD (ofQ (usedI offers x k)) (ofQ (s : Rat)) > 0
   · refine aGo (cj4 hres k0 h3 (cj3 hs hw h4)) ?_
     repeat (guard_target =~ ∀ _ : St → Prop, _; intro K hK)
     exact bool_eq (by
      have a := (cmp_gt (okF_ofQ _) (okF_ofQ _)).1 h4
      rw [qOf_ofQ, qOf_ofQ] at a
      rw [e0]
      refine (List.all_eq_false.2 ⟨k, List.mem_range.2 (by omega), ?_⟩).symm
      rw [ef]; simp; grind)
   · refine aGo (cj4 hres k0 h3 (cj3 hs hw h4)) ?_
     repeat (guard_target =~ ∀ _ : St → Prop, _; intro K hK)
     exact loop_end (k + 1) ⟨by omega, by
      have a := mt (cmp_gt (okF_ofQ _) (okF_ofQ _)).2 h4
      rw [qOf_ofQ, qOf_ofQ] at a
      rw [List.range_succ, List.all_append, hg2, Bool.true_and]
      simp only [List.all_cons, List.all_nil, Bool.and_true]
      rw [ef]; simp; grind⟩ (by omega) (by exact leGo trivial)
 · obtain rfl : k = supply.length := by omega
   refine aGo (cj2 hres h3) ?_
   repeat (guard_target =~ ∀ _ : St → Prop, _; intro K hK)
   exact bool_eq (by rw [e0, hg2])
end
theorem GoodD.top {supply : List Int} {offers : List OffD} {d : DealD} {x : List FracD} (g : GoodD supply offers d) (h : divB supply offers x = true) : cmpD (ofQ (worthI offers x)) d.v ≤ 0 := by
 obtain ⟨a, b, c⟩ := divB_iff.1 h
 have e := g.b.top c
 rw [g.v]
 have := mt (cmp_gt (okF_ofQ (worthI offers x)) (okF_ofQ ((mkt supply offers).worth fun i => atP d.x i))).1
 rw [qOf_ofQ, qOf_ofQ, worth_eq (supply := supply) a] at this
 have h2 := this (by grind)
 rw [worth_eq (supply := supply) a]
 omega
theorem marketBest_c (k0 : Contract Tryz.prog 8 [] (dB true)) (supply : List Int) (offers : List OffD) (d : DealD) (x : List FracD) : Contract Tryz.prog 3 [encInts supply, encOfs offers, encDl d, encFs x] (dB true) := by
 have hres := Tryz.results3
 have q1 := few44_c supply offers d 3 6
 have q0 := fewP_c x 15 6 (by decide)
 cases h1 : few44 supply offers d 3 6
 · rw [h1] at q1
   refine Contract.ofA (CallA.inline Tryz.func3 rfl (by kernel_rfl) (by kernel_rfl) (by kernel_rfl) ?_)
   rw [Tryz.ntmps3]
   exact aGo hres trivial
 rw [h1] at q1
 cases h2 : fewP x 15 6
 · rw [h2] at q0
   refine Contract.ofA (CallA.inline Tryz.func3 rfl (by kernel_rfl) (by kernel_rfl) (by kernel_rfl) ?_)
   rw [Tryz.ntmps3]
   exact aGo hres trivial
 rw [h2] at q0
 have sm := few44_sm h1
 have q2 := right44_c supply offers sm
 cases hr : right44 supply offers
 · rw [hr] at q2
   refine Contract.ofA (CallA.inline Tryz.func3 rfl (by kernel_rfl) (by kernel_rfl) (by kernel_rfl) ?_)
   rw [Tryz.ntmps3]
   exact aGo hres trivial
 rw [hr] at q2
 have R := right44_iff.1 hr
 have h6 : offers.length ≤ 6 := by have := few44_o (by decide) h1 hr; omega
 have q3 := best44_c supply offers (fun _ => h6) sm
 obtain ⟨b0, bg⟩ := best44_good hr
 have bz := deal_sz R h6
 rw [show dealM supply offers = (best44 supply offers).1 by unfold best44; rw [hr]; rfl] at bz
 rw [b0] at q3
 generalize (best44 supply offers).1 = A at *
 have zo := few44_sz h1
 have zx := fewP_nat 6 (by decide) h2
 have lx := (fewP_sz h2).1
 have q4 := check44_c supply offers A sm bz.1 bz.2
 rw [check44_iff.2 bg] at q4
 have q5 := check44_c supply offers d sm (fun f hf => by have := zo.1 f hf; omega) (fun f hf => by have := zo.2.1 f hf; omega)
 have q6 := fsame_c d.v A.v
 have q7 := division44_c R x (fun f hf => by have := zx f hf; omega) (by omega)
 have b00 : ((0 : Int) != 0) = false := rfl
 have wv : (szF A.v : Int) ≤ 4500000 := by
  have := R.dot_sz bg.ox (by have := bg.lx; have := R.n1; omega) bz.1 (Nat.le_refl _) (n := bidI offers) (fun i => R.pb i)
  rw [bg.v, szF_ofQ, ← worth_eq bg.lx]
  exact this
 have hd : check44 supply offers d = true → sameF d.v A.v = true := fun h => by
  have g := check44_iff.1 h
  rw [g.v, bg.v, g.b.same bg.b]; exact sameF_self _
 have last : divB supply offers x = true → Contract Tryz.prog 17 [encOfs offers, encFs x] (encF (ofQ (worthI offers x))) ∧ ContractN Tryz.prog 16 [encF (ofQ (worthI offers x)), encF A.v] (dI (cmpD (ofQ (worthI offers x)) A.v)) ∧ cmpD (ofQ (worthI offers x)) A.v ≤ 0 := fun h => by
  obtain ⟨a, b, c⟩ := divB_iff.1 h
  refine ⟨worth44_c R x b a (fun f hf => by have := zx f hf; omega), fcompare_c _ _ ?_ (by omega), bg.top h⟩
  have := R.dot_sz b (by omega) (fun f hf => by have := zx f hf; show szF f ≤ 262144; omega) (Nat.le_refl _) (n := bidI offers) (fun i => R.pb i)
  rw [szF_ofQ]; unfold worthI; omega
 cases h3 : check44 supply offers d
 · rw [h3] at q5
   cases h4 : divB supply offers x
   · rw [h4] at q7
     refine Contract.ofA (CallA.inline Tryz.func3 rfl (by kernel_rfl) (by kernel_rfl) (by kernel_rfl) ?_)
     rw [Tryz.ntmps3]
     exact aGo (cj2 hres b00) trivial
   · rw [h4] at q7
     obtain ⟨q8, q9, h5⟩ := last h4
     refine Contract.ofA (CallA.inline Tryz.func3 rfl (by kernel_rfl) (by kernel_rfl) (by kernel_rfl) ?_)
     rw [Tryz.ntmps3]
     exact aGo (cj3 hres b00 h5) trivial
 · rw [h3] at q5
   rw [hd h3] at q6
   cases h4 : divB supply offers x
   · rw [h4] at q7
     refine Contract.ofA (CallA.inline Tryz.func3 rfl (by kernel_rfl) (by kernel_rfl) (by kernel_rfl) ?_)
     rw [Tryz.ntmps3]
     exact aGo (cj2 hres b00) trivial
   · rw [h4] at q7
     obtain ⟨q8, q9, h5⟩ := last h4
     refine Contract.ofA (CallA.inline Tryz.func3 rfl (by kernel_rfl) (by kernel_rfl) (by kernel_rfl) ?_)
     rw [Tryz.ntmps3]
     exact aGo (cj3 hres b00 h5) trivial
end Go.Proofs.YtbnbpfjfkedbaaaGreat
