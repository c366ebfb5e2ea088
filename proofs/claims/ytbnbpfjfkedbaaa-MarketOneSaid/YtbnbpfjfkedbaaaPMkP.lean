/-
  Layer 44: the law MarketPays.
-/
import Derived.Test.YtbnbpfjfkedbaaaPMkD
namespace Go.Proofs.Ytbnbpfjfkedbaaa
set_option linter.unusedVariables false
set_option linter.unusedSimpArgs false
set_option linter.unusedSectionVars false
open Go Go.RowKit
attribute [local go_sem] opsL_nil opsL_go opsL_guard gSel_tt gSel_ff gSel_tf gSel_ft stepR_some stepR_none callS_some callE_some runL_nil runL_go runL_guard gSelE_tt gSelE_ff gSelE_tf gSelE_ft stepE_some stepE_none opF callD rd constD putT upd_get guardL gOf_bool gOf_undef fieldAddrF fieldF loadF storeF indexAddrF indexF sliceF strSliceF bound buildF fillF buildSliceF elemsF allocF makeSliceF lenF elemsOf appendF minmaxF convertF boxF ldE blkAt spliceE D.cells? D.isCell Res.pure ov TyI.agg binD unD boolD initT thenA inBlockA argD argDs refsD refsL killW datJ datJs endA_ret endA_normal endR_some oneD_one oneD_two oneD_three oneD_four resDs resD fzT Value.oneCell' strip tabT tabM
attribute [local go_sem] List.map Nat.reduceEqDiff Nat.reduceBEq List.getElem?_cons_zero List.getElem?_cons_succ List.getElem?_nil Option.getD_some Option.getD_none true_and and_true true_or or_true false_or or_false and_self Nat.add_zero Nat.zero_add List.length_nil List.length_cons forall_const ite_true ite_false Bool.or_self Bool.false_eq_true Option.map_some Option.map_none beq_self_eq_true Nat.reduceAdd Nat.reduceSub Nat.reduceMul reduceCtorEq List.getElem?_toArray Bool.not_true Bool.not_false decide_eq_true_eq decide_true decide_false Nat.reduceLeDiff Nat.reduceLT Bool.or_false Bool.or_true Bool.and_true Bool.and_false Bool.false_and Bool.true_and Bool.true_beq Bool.false_beq beq_true beq_false Bool.not_eq_true List.drop_succ_cons List.take_succ_cons List.drop_zero List.take_zero List.length_map List.getElem?_map List.length_append List.all_cons List.all_nil List.append_nil List.nil_append List.cons_append List.set_cons_zero List.set_cons_succ Int.toNat_natCast Int.toNat_zero Option.isSome_some Option.isSome_none Array.size_empty ByteArray.size_empty Int.reduceToNat Int.reduceAdd Int.reduceSub Int.reduceLT Int.reduceLE Int.reduceEq Int.reduceNe Int.reduceBEq Int.reduceNeg List.forall_mem_cons List.not_mem_nil false_implies List.forall_mem_map implies_true Nat.reduceBNe Int.cast_ofNat_Int Int.reduceMul Int.reduceGE Int.reduceGT wrap_in ty_2 ty_3 ty_4 ty_5 ty_6 ty_7 ty_8 ty_9 ty_10 ty_11 ty_12 ty_13 ty_14 ty_18 ty_19 ty_21 ty_22 ty_23 ty_24 ty_25 ty_26 ty_27 ty_28 ty_29 ty_30 ty_34 ty_37 ty_41 ty_42 ty_49 ty_51 ty_53 ty_54 ty_55 ty_57 ty_58 ty_59 ty_60 ty_61 ty_62 ty_63 ty_64 ty_65 ty_66 ty_69 ty_70 ty_118 ty_119 ty_129 ty_130 ty_131 ty_132 ty_134 ty_139 ty_140 ty_141 ty_142 ty_145 ty_146 ty_162 ty_163 ty_173 ty_174 ty_175 ty_176 ty_177 ty_178 ty_179 ty_180 ty_183 ty_184 ty_185 ty_186
set_option maxRecDepth 100000
set_option maxHeartbeats 32000000
theorem cmpQ_gt {a b : Rat} : cmpD (ofQ a) (ofQ b) > 0 ↔ b < a := by have := cmp_gt (okF_ofQ a) (okF_ofQ b); rwa [qOf_ofQ, qOf_ofQ] at this
theorem cmpQ_lt {a b : Rat} : cmpD (ofQ a) (ofQ b) < 0 ↔ a < b := by have := cmp_lt (okF_ofQ a) (okF_ofQ b); rwa [qOf_ofQ, qOf_ofQ] at this
theorem sgnQ_gt {a : Rat} : sgnD (ofQ a) > 0 ↔ 0 < a := by have := sgn_gt (okF_ofQ a); rwa [qOf_ofQ] at this
theorem at_some {l : List FracD} (o : okP l = true) {i : Nat} (h : i < l.length) : l[i]? = some (ofQ (atP l (i : Nat))) := by
 have e : l[i]? = some l[i] := List.getElem?_eq_getElem h
 rw [e, okF_eq (List.all_eq_true.1 o _ (List.getElem_mem h)), at_get (okF_eq (List.all_eq_true.1 o _ (List.getElem_mem h)) ▸ e)]
 rw [qOf_ofQ]
theorem at_sz {l : List FracD} (o : okP l = true) {B : Nat} (hz : ∀ f ∈ l, szF f ≤ B) {i : Nat} (h : i < l.length) : szQ (atP l (i : Nat)) ≤ B := by
 have e := at_some o h
 exact hz _ (List.mem_of_getElem? e)
theorem sumN_sz {f : Nat → Rat} {B : Nat} : ∀ {n : Nat}, (∀ i, i < n → szQ (f i) ≤ B) → szQ (sumN n f) ≤ 1 + n * (B + 1)
 | 0, _ => by have := sz_0; simp only [sumN]; omega
 | n + 1, h => by
   have ih := sumN_sz (n := n) fun i hi => h i (by omega)
   have a := szQ_add (sumN n f) (f n)
   have b := h n (by omega)
   simp only [sumN]
   rw [Nat.add_mul, Nat.one_mul]
   omega
structure PayOk (supply : List Int) (offers : List OffD) (d : DealD) : Prop where
 g : GoodD supply offers d
 zx : ∀ f ∈ d.x, szF f ≤ 262144
 zp : ∀ f ∈ d.p, szF f ≤ 262144
section
variable {supply : List Int} {offers : List OffD} {d : DealD} (h : PayOk supply offers d)
include h
theorem PayOk.cost_sz (i : Nat) : (szQ (costK offers d.p i) : Int) ≤ 4500000 := h.g.r.dot_sz h.g.op (by have := h.g.lp; have := h.g.r.m1; omega) h.zp (Nat.le_refl _) (n := fun k => wantI offers k i) (fun k => ⟨(h.g.r.wb k i).1, by have := (h.g.r.wb k i).2; omega⟩)
theorem PayOk.pay_sz {i : Nat} (hi : i < offers.length) : szQ (payI offers d i) ≤ 4800000 := by
 have a := szQ_mul (atP d.x (i : Nat)) (costK offers d.p i)
 have b := h.cost_sz i
 have c := at_sz h.g.ox h.zx (i := i) (by rw [h.g.lx]; exact hi)
 unfold payI
 omega
theorem PayOk.all_sz {n : Nat} (hn : n ≤ offers.length) : (szQ (sumN n (payI offers d)) : Int) ≤ 60000000 := by
 have a := sumN_sz (f := payI offers d) (n := n) (B := 4800000) fun i hi => h.pay_sz (by omega)
 have := h.g.r.n1
 have b : n * (4800000 + 1) ≤ 12 * (4800000 + 1) := Nat.mul_le_mul_right _ (by omega)
 omega
theorem PayOk.fair {i : Nat} (hi : i < offers.length) : ¬ cmpD (ofQ (payI offers d i)) (ofQ (atP d.x (i : Nat) * (bidI offers i : Rat))) > 0 := by
 rw [cmpQ_gt]
 have := h.g.b.x
 have a := Mkt.fair h.g.b.x h.g.b.y h.g.b.e (i := i) hi
 unfold payI
 rw [cost_eq h.g.lp]
 have e : (mkt supply offers).P i = (bidI offers i : Rat) := rfl
 rw [← e]
 grind
theorem PayOk.unserved {i : Nat} (hi : i < offers.length) (hx : cmpD (ofQ (atP d.x (i : Nat))) (ofQ ((1 : Int) : Rat)) < 0) : ¬ cmpD (ofQ (costK offers d.p i)) (ofQ (bidI offers i : Rat)) < 0 := by
 rw [cmpQ_lt] at hx ⊢
 have a := Mkt.unserved h.g.b.x h.g.b.y h.g.b.e (i := i) hi hx
 rw [cost_eq h.g.lp]
 have e : (mkt supply offers).P i = (bidI offers i : Rat) := rfl
 rw [← e]
 grind
theorem PayOk.served {i : Nat} (hi : i < offers.length) (hx : sgnD (ofQ (atP d.x (i : Nat))) > 0) : ¬ cmpD (ofQ (costK offers d.p i)) (ofQ (bidI offers i : Rat)) > 0 := by
 rw [sgnQ_gt] at hx
 rw [cmpQ_gt]
 have a := Mkt.served h.g.b.x h.g.b.y h.g.b.e (i := i) hi hx
 rw [cost_eq h.g.lp]
 have e : (mkt supply offers).P i = (bidI offers i : Rat) := rfl
 rw [← e]
 grind
theorem PayOk.sup {k : Nat} {s : Int} (hs : supply[k]? = some s) : ¬ cmpD (ofQ (dotI d.x (wantI offers k) offers.length)) (ofQ (s : Rat)) > 0 := by
 have hk := (List.getElem?_eq_some_iff.1 hs).1
 rw [cmpQ_gt, ← h.g.lx]
 have a := h.g.b.x.sup k hk
 rw [← used_eq h.g.lx] at a
 have e : (mkt supply offers).S k = (s : Rat) := by show ((supply[k]?.getD 0 : Int) : Rat) = _; rw [hs]; rfl
 rw [e] at a
 unfold usedI at a
 grind
theorem PayOk.left {k : Nat} {s : Int} (hs : supply[k]? = some s) (hl : cmpD (ofQ (dotI d.x (wantI offers k) offers.length)) (ofQ (s : Rat)) < 0) : (sgnD (ofQ (atP d.p (k : Nat))) != 0) = false := by
 have hk := (List.getElem?_eq_some_iff.1 hs).1
 rw [cmpQ_lt, ← h.g.lx] at hl
 have e : (mkt supply offers).S k = (s : Rat) := by show ((supply[k]?.getD 0 : Int) : Rat) = _; rw [hs]; rfl
 have a := Mkt.leftover h.g.b.x h.g.b.y h.g.b.e (k := k) hk (by rw [← used_eq h.g.lx, e]; exact hl)
 have a' : atP d.p (k : Nat) = 0 := a
 rw [a', sgnD_ofQ]; decide +kernel
theorem PayOk.all : sumN offers.length (payI offers d) = costW d.p supply := by
 have a := Mkt.all_pay h.g.b.x h.g.b.y h.g.b.e
 rw [← paid_eq h.g.lp] at a
 show _ = paidI supply d.p
 rw [← a]
 exact sumN_congr _ fun i _ => by unfold payI; rw [cost_eq h.g.lp]
end
theorem marketPays_c (k0 : Contract Try.prog 7 [] (dB true)) (supply : List Int) (offers : List OffD) (other : DealD) : Contract Try.prog 3 [encInts supply, encOfs offers, encDl other] (dB true) := by
 have hres := Try.results3
 have q1 := few44_c supply offers other 3 6
 cases h1 : few44 supply offers other 3 6
 · rw [h1] at q1
   refine Contract.ofA (CallA.inline Try.func3 rfl (by kernel_rfl) (by kernel_rfl) (by kernel_rfl) ?_)
   rw [Try.ntmps3]
   exact aGo hres trivial
 rw [h1] at q1
 have sm := few44_sm h1
 have q2 := right44_c supply offers sm
 cases hr : right44 supply offers
 · rw [hr] at q2
   refine Contract.ofA (CallA.inline Try.func3 rfl (by kernel_rfl) (by kernel_rfl) (by kernel_rfl) ?_)
   rw [Try.ntmps3]
   exact aGo hres trivial
 rw [hr] at q2
 have R := right44_iff.1 hr
 have h6 : offers.length ≤ 6 := by have := few44_o (by decide) h1 hr; omega
 have q3 := best44_c supply offers (fun _ => h6) sm
 obtain ⟨b0, bg⟩ := best44_good hr
 have bz := deal_sz R h6
 have eb : (best44 supply offers).1 = dealM supply offers := by unfold best44; rw [hr]; rfl
 rw [← eb] at bz
 rw [b0] at q3
 have zo := few44_sz h1
 have q4 := check44_c supply offers other sm (fun f hf => by have := zo.1 f hf; omega) (fun f hf => by have := zo.2.1 f hf; omega)
 have okA : PayOk supply offers (best44 supply offers).1 := ⟨bg, bz.1, bz.2⟩
 have okO : check44 supply offers other = true → PayOk supply offers other := fun h => ⟨check44_iff.1 h, fun f hf => by have := zo.1 f hf; omega, fun f hf => by have := zo.2.1 f hf; omega⟩
 generalize (best44 supply offers).1 = A at *
 have hm := R.m1
 have hn := R.n1
 have i0 := nZ_c
 have i1 := nO_c
 have b00 : ((0 : Int) != 0) = false := rfl
 refine Contract.ofA (CallA.inline Try.func3 rfl (by kernel_rfl) (by kernel_rfl) (by kernel_rfl) ?_)
 rw [Try.ntmps3]
 repeat ((fail_if_success (with_reducible refine at_region 6 ?_)); first
     | (refine hK _ ?_; clear hK; clear K)
     | (refine aSeq fun K hK => ?_)
     | (refine aBlock ?_)
     | (refine aSkip ?_)
     | (refine aExit ?_)
     | (refine aRet ?_)
     | (refine aOps _ rfl (by kernel_rfl) ?_)
     | (refine aRunK _ rfl mixed (by kernel_rfl) (by kernel_rfl) fun KE hE => ?_)
     | (refine hE _ _ (by kernel_rfl) (intsOk_no rfl) ?_; clear hE; clear KE)
     | (refine hE _ _ (by kernel_rfl) (intsOk_yes ?hi ?hj) ?_; (case hi => (repeat (refine intsDead_updB rfl ?_)); exact intsDead_nil); (case hj => simp); clear hE; clear KE)
     | (refine aCondT rfl ?hc ?_; case hc => simp only [go_sem, ↓reduceIte, hres])
     | (refine aCondF rfl ?hc ?_; case hc => simp only [go_sem, ↓reduceIte, hres])
     | (refine callT_of (k0) ?_ ?_; rotate_left; (repeat (refine intsDead_updB rfl ?_)); exact intsDead_nil)
     | (refine callT_ofN (k0) ?_)
     | (refine callU_of (k0) rfl ?_)
     | (refine callU_ofN (k0) rfl ?_)
     | (refine callT_of (q1) ?_ ?_; rotate_left; (repeat (refine intsDead_updB rfl ?_)); exact intsDead_nil)
     | (refine callT_ofN (q1) ?_)
     | (refine callU_of (q1) rfl ?_)
     | (refine callU_ofN (q1) rfl ?_)
     | (refine callT_of (q2) ?_ ?_; rotate_left; (repeat (refine intsDead_updB rfl ?_)); exact intsDead_nil)
     | (refine callT_ofN (q2) ?_)
     | (refine callU_of (q2) rfl ?_)
     | (refine callU_ofN (q2) rfl ?_)
     | (refine callT_of (q3) ?_ ?_; rotate_left; (repeat (refine intsDead_updB rfl ?_)); exact intsDead_nil)
     | (refine callT_ofN (q3) ?_)
     | (refine callU_of (q3) rfl ?_)
     | (refine callU_ofN (q3) rfl ?_)
     | (simp only [go_sem, ↓reduceIte, hres])
     | (refine And.intro ?ho ?_; (case ho => omega))
     | (clear hK; clear K))
 rename_i K8 hK8
 have r1 : ∀ L : List DealD, (∀ d ∈ L, PayOk supply offers d) → L.length ≤ 2 → ∀ st, StLe st ⟨tabT [(0, encInts supply), (1, encOfs offers), (7, dB true), (9, dI 0), (10, .sl (L.map cDl))], tabM [], 0, 0⟩ → K8 st := by
  intro L hL hL2 st hle
  refine hK8 _ (aLe hle ?_)
  clear hle hK8 hK K
  clear q1 q2 q3 q4 okA okO bz b0 bg eb zo k0
  refine aGo hres ?_
  repeat (guard_target =~ ∀ _ : St → Prop, _; intro K hK)
  refine aLoopT (fun (k : Nat) => [(0, encInts supply), (1, encOfs offers), (7, dB true), (9, dI 0), (10, .sl (L.map cDl)), (11, dI k)]) (fun _ => []) 0 0 (fun k => k ≤ L.length) (fun k => L.length - k) 0 (by omega) ?_ ?_
  · exact leGo trivial
  rintro k hk
  have hw : IntKind.i64.wrap ((k : Int) + 1) = (k : Int) + 1 := wrap_in (by omega) (by omega)
  have k0 : (0 : Int) ≤ k := by omega
  by_cases h2 : (k : Int) < L.length
  rotate_left
  · exact aGo (cj2 hres h2) trivial
  obtain ⟨d, hd⟩ : ∃ e, L[k]? = some e := ⟨_, List.getElem?_eq_getElem (by omega)⟩
  have ok := hL d (mem_at hd)
  have q5 := pays44_c supply offers d ok.g ok.zx ok.zp
  have lx := ok.g.lx
  have lp := ok.g.lp
  have ox := ok.g.ox
  have op := ok.g.op
  have lq : (fracsOf offers.length (payI offers d)).length = offers.length := fracs_len _ _
  have hq : ∀ i, i < offers.length → (fracsOf offers.length (payI offers d))[i]? = some (ofQ (payI offers d i)) := fun i hi => fracs_get _ hi
  generalize fracsOf offers.length (payI offers d) = P at q5 lq hq
  have n1 : ((P.length : Int) != offers.length) = false := by simp; omega
  have n2 : ((d.x.length : Int) != offers.length) = false := by simp; omega
  have n3 : ((d.p.length : Int) != supply.length) = false := by simp; omega
  refine aGo (cj4 hres k0 h2 (cj4 hd b00 n1 (cj2 n2 n3))) ?_
  repeat (guard_target =~ ∀ _ : St → Prop, _; intro K hK)
  clear q5
  have s0 : sumN 0 (payI offers d) = 0 := rfl
  refine aLoopT (fun (i : Nat) => [(0, encInts supply), (1, encOfs offers), (7, dB true), (9, dI 0), (10, .sl (L.map cDl)), (11, dI k), (12, .lp 0 0 0 0), (13, encFs P), (14, .lp 1 0 0 0), (15, dI i)])
   (fun i => [(0, ⟨30, 0, 6, [cDl d], 0, false⟩), (1, ⟨28, 0, 4, [cF (ofQ (sumN i (payI offers d)))], 0, false⟩)]) 2 0 (fun i => i ≤ offers.length) (fun i => offers.length - i) 0 (by omega) ?_ ?_
  · exact leGo s0
  rintro i hi
  have hwi : IntKind.i64.wrap ((i : Int) + 1) = (i : Int) + 1 := wrap_in (by omega) (by omega)
  have j0 : (0 : Int) ≤ i := by omega
  by_cases h3 : (i : Int) < offers.length
  · obtain ⟨o, ho⟩ : ∃ e, offers[i]? = some e := ⟨_, List.getElem?_eq_getElem (by omega)⟩
    have hx : d.x[i]? = some (ofQ (atP d.x (i : Nat))) := at_some ox (by omega)
    have hp := hq i (by omega)
    have h3x : (i : Int) < d.x.length := by omega
    have h3p : (i : Int) < P.length := by omega
    have hob := R.w o (mem_at ho)
    have ebid := R.bid_at ho
    have ec := R.cost_at (p := d.p) ho
    have pz := szI_le o.price hob.2.2.1 hob.2.2.2
    have xz := at_sz ox ok.zx (i := i) (by omega)
    have cz := ok.cost_sz i
    have yz := ok.pay_sz (i := i) (by omega)
    have az := ok.all_sz (n := i) (by omega)
    have mz := szQ_mul (atP d.x (i : Nat)) (bidI offers i : Rat)
    rw [ebid] at pz
    have c1 := nI_c o.price hob.2.2.1 (by omega)
    have c2 := nmul_c (atP d.x (i : Nat)) (o.price : Rat) (by omega) (by rw [ebid]; omega)
    have c3 := costL_c d.p o.wants op (by omega) ok.zp (Nat.le_refl _) (by omega) (fun x hx => ⟨(hob.2.1 x hx).1, by have := (hob.2.1 x hx).2; omega⟩)
    have e3 : costW d.p o.wants = costK offers d.p i := ec
    rw [e3] at c3
    have c4 := fcompare_c (ofQ (costK offers d.p i)) (ofQ (o.price : Rat)) (by rw [szF_ofQ]; omega) (by rw [szF_ofQ, ebid]; omega)
    have c5 := fcompare_c (ofQ (payI offers d i)) (ofQ (atP d.x (i : Nat) * (o.price : Rat))) (by rw [szF_ofQ]; omega) (by rw [szF_ofQ, ebid]; omega)
    have c6 := fcompare_c (ofQ (atP d.x (i : Nat))) (ofQ 1) (by rw [szF_ofQ]; omega) (by decide +kernel)
    have c7 := fsign_c (ofQ (atP d.x (i : Nat))) (by rw [szF_ofQ]; omega)
    have c8 := nadd_c (sumN i (payI offers d)) (payI offers d i) (by omega) (by omega)
    have e8 : sumN (i + 1) (payI offers d) = sumN i (payI offers d) + payI offers d i := rfl
    have f1 := ok.fair (i := i) (by omega)
    have f2 := ok.unserved (i := i) (by omega)
    have f3 := ok.served (i := i) (by omega)
    rw [← ebid] at f1 f2 f3
    have e1 : (1 : Rat) = ((1 : Int) : Rat) := rfl
    rw [← e1] at f2
    by_cases h4 : cmpD (ofQ (atP d.x (i : Nat))) (ofQ 1) < 0
    · have f2 := f2 h4
      by_cases h5 : sgnD (ofQ (atP d.x (i : Nat))) > 0
      · have f3 := f3 h5
        refine aGo (cj4 hres j0 h3 (cj4 h3x h3p ho (cj4 hx hp hwi (cj4 f1 h4 f2 (cj2 h5 f3))))) ?_
        repeat (guard_target =~ ∀ _ : St → Prop, _; intro K hK)
        exact loop_end (i + 1) (by omega) (by omega) (by exact leGo e8)
      · refine aGo (cj4 hres j0 h3 (cj4 h3x h3p ho (cj4 hx hp hwi (cj4 f1 h4 f2 h5)))) ?_
        repeat (guard_target =~ ∀ _ : St → Prop, _; intro K hK)
        exact loop_end (i + 1) (by omega) (by omega) (by exact leGo e8)
    · by_cases h5 : sgnD (ofQ (atP d.x (i : Nat))) > 0
      · have f3 := f3 h5
        refine aGo (cj4 hres j0 h3 (cj4 h3x h3p ho (cj4 hx hp hwi (cj4 f1 h4 h5 f3)))) ?_
        repeat (guard_target =~ ∀ _ : St → Prop, _; intro K hK)
        exact loop_end (i + 1) (by omega) (by omega) (by exact leGo e8)
      · refine aGo (cj4 hres j0 h3 (cj4 h3x h3p ho (cj4 hx hp hwi (cj3 f1 h4 h5)))) ?_
        repeat (guard_target =~ ∀ _ : St → Prop, _; intro K hK)
        exact loop_end (i + 1) (by omega) (by omega) (by exact leGo e8)
  obtain rfl : i = offers.length := by omega
  refine aGo (cj2 hres h3) ?_
  repeat (guard_target =~ ∀ _ : St → Prop, _; intro K hK)
  refine aLoopT (fun (m : Nat) => [(0, encInts supply), (1, encOfs offers), (7, dB true), (9, dI 0), (10, .sl (L.map cDl)), (11, dI k), (12, .lp 0 0 0 0), (14, .lp 1 0 0 0), (20, dI m)])
   (fun _ => [(0, ⟨30, 0, 6, [cDl d], 0, false⟩), (1, ⟨28, 0, 4, [cF (ofQ (sumN offers.length (payI offers d)))], 0, false⟩)]) 2 0 (fun m => m ≤ supply.length) (fun m => supply.length - m) 0 (by omega) ?_ ?_
  · exact leGo trivial
  rintro m hm2
  have hwm : IntKind.i64.wrap ((m : Int) + 1) = (m : Int) + 1 := wrap_in (by omega) (by omega)
  have m0 : (0 : Int) ≤ m := by omega
  by_cases h4 : (m : Int) < supply.length
  · obtain ⟨s, hs⟩ : ∃ e, supply[m]? = some e := ⟨_, List.getElem?_eq_getElem (by omega)⟩
    have hsb := R.s s (mem_at hs)
    have u0 : dotI d.x (wantI offers m) 0 = 0 := rfl
    refine aGo (cj3 hres m0 h4) ?_
    repeat (guard_target =~ ∀ _ : St → Prop, _; intro K hK)
    refine aLoopT (fun (i : Nat) => [(0, encInts supply), (1, encOfs offers), (7, dB true), (9, dI 0), (10, .sl (L.map cDl)), (11, dI k), (12, .lp 0 0 0 0), (14, .lp 1 0 0 0), (20, dI m), (21, .lp 2 0 0 0), (22, dI i)])
     (fun i => [(0, ⟨30, 0, 6, [cDl d], 0, false⟩), (1, ⟨28, 0, 4, [cF (ofQ (sumN offers.length (payI offers d)))], 0, false⟩), (2, ⟨28, 0, 4, [cF (ofQ (dotI d.x (wantI offers m) i))], 0, false⟩)]) 3 0 (fun i => i ≤ offers.length) (fun i => offers.length - i) 0 (by omega) ?_ ?_
    · exact leGo u0
    rintro i hi
    have hwi : IntKind.i64.wrap ((i : Int) + 1) = (i : Int) + 1 := wrap_in (by omega) (by omega)
    have j0 : (0 : Int) ≤ i := by omega
    by_cases h5 : (i : Int) < offers.length
    · obtain ⟨o, ho⟩ : ∃ e, offers[i]? = some e := ⟨_, List.getElem?_eq_getElem (by omega)⟩
      have hx : d.x[i]? = some (ofQ (atP d.x (i : Nat))) := at_some ox (by omega)
      have h5x : (i : Int) < d.x.length := by omega
      obtain ⟨hwt, w0, w1⟩ := R.want (k := m) ho (by omega)
      have h4w : (m : Int) < o.wants.length := by have := (R.w o (mem_at ho)).1; omega
      have sn := szI_le (wantI offers m i) w0 (by omega)
      have xz := at_sz ox ok.zx (i := i) (by omega)
      have smz := szQ_mul (atP d.x (i : Nat)) (wantI offers m i : Rat)
      have ss := dotI_sz ox ok.zx (n := wantI offers m) (C := 4) (fun i _ => szI_le _ (R.wb m i).1 (by have := (R.wb m i).2; omega)) i (by omega)
      have sk : i * (262144 + 4 + 1) ≤ 12 * (262144 + 4 + 1) := Nat.mul_le_mul_right _ (by omega)
      have c1 := nI_c (wantI offers m i) w0 (by omega)
      have c2 := nmul_c (atP d.x (i : Nat)) (wantI offers m i : Rat) (by omega) (by omega)
      have c3 := nadd_c (dotI d.x (wantI offers m) i) (atP d.x (i : Nat) * (wantI offers m i : Rat)) (by omega) (by omega)
      have e8 : dotI d.x (wantI offers m) (i + 1) = dotI d.x (wantI offers m) i + atP d.x (i : Nat) * (wantI offers m i : Rat) := rfl
      refine aGo (cj4 hres j0 m0 (cj4 h5 h5x h4w (cj4 ho hx hwt hwi))) ?_
      repeat (guard_target =~ ∀ _ : St → Prop, _; intro K hK)
      exact loop_end (i + 1) (by omega) (by omega) (by exact leGo e8)
    obtain rfl : i = offers.length := by omega
    have hp : d.p[m]? = some (ofQ (atP d.p (m : Nat))) := at_some op (by omega)
    have h4p : (m : Int) < d.p.length := by omega
    have c1 := nI_c s hsb.1 (by omega)
    have uz := R.dot_sz ox (by omega) ok.zx (Nat.le_refl _) (n := wantI offers m) (fun i => ⟨(R.wb m i).1, by have := (R.wb m i).2; omega⟩)
    rw [lx] at uz
    have sz := szI_le s hsb.1 (by omega)
    have yz := at_sz op ok.zp (i := m) (by omega)
    have c2 := fcompare_c (ofQ (dotI d.x (wantI offers m) offers.length)) (ofQ (s : Rat)) (by rw [szF_ofQ]; omega) (by rw [szF_ofQ]; omega)
    have c3 := fsign_c (ofQ (atP d.p (m : Nat))) (by rw [szF_ofQ]; omega)
    have f1 := ok.sup hs
    have f2 := ok.left hs
    by_cases h6 : cmpD (ofQ (dotI d.x (wantI offers m) offers.length)) (ofQ (s : Rat)) < 0
    · have f2 := f2 h6
      refine aGo (cj4 hres m0 h4 (cj4 h4p h5 hs (cj4 hp hwm f1 (cj2 h6 f2)))) ?_
      repeat (guard_target =~ ∀ _ : St → Prop, _; intro K hK)
      exact loop_end (m + 1) (by omega) (by omega) (by exact leGo trivial)
    · refine aGo (cj4 hres m0 h4 (cj4 h4p h5 hs (cj4 hp hwm f1 h6))) ?_
      repeat (guard_target =~ ∀ _ : St → Prop, _; intro K hK)
      exact loop_end (m + 1) (by omega) (by omega) (by exact leGo trivial)
  have c1 := costL_c d.p supply op (by omega) ok.zp (Nat.le_refl _) (by omega) (fun x hx => ⟨(R.s x hx).1, by have := (R.s x hx).2; omega⟩)
  have c2 := fsame_c (ofQ (costW d.p supply)) (ofQ (costW d.p supply))
  rw [sameF_self] at c2
  have e9 := ok.all
  refine aGo (cj4 hres h4 hw e9) ?_
  repeat (guard_target =~ ∀ _ : St → Prop, _; intro K hK)
  exact loop_end (k + 1) (by omega) (by omega) (by exact leGo trivial)
 clear hK8
 refine aLe ((le_kill 2 rfl).trans (le_temp 10 5)) ?_
 simp only [go_sem, fzT]
 cases hc : check44 supply offers other
 · rw [hc] at q4
   refine aGo hres ?_
   repeat (guard_target =~ ∀ _ : St → Prop, _; intro K hK)
   exact r1 [A] (fun d hd => by rw [List.mem_singleton.1 hd]; exact okA) (by simp) _ (by exact leGo trivial)
 · rw [hc] at q4
   refine aGo hres ?_
   repeat (guard_target =~ ∀ _ : St → Prop, _; intro K hK)
   exact r1 [A, other] (fun d hd => by
    rcases List.mem_cons.1 hd with rfl | hd
    · exact okA
    · rw [List.mem_singleton.1 hd]; exact okO hc) (by simp) _ (by exact leGo trivial)
end Go.Proofs.Ytbnbpfjfkedbaaa
