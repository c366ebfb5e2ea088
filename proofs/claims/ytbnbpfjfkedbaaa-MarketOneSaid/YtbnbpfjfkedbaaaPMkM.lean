/-
  Layer 44: the law MarketMore.
-/
import Derived.Test.YtbnbpfjfkedbaaaPMkP
namespace Go.Proofs.Ytbnbpfjfkedbaaa
set_option linter.unusedVariables false
set_option linter.unusedSimpArgs false
set_option linter.unusedSectionVars false
open Go Go.RowKit
attribute [local go_sem] opsL_nil opsL_go opsL_guard gSel_tt gSel_ff gSel_tf gSel_ft stepR_some stepR_none callS_some callE_some runL_nil runL_go runL_guard gSelE_tt gSelE_ff gSelE_tf gSelE_ft stepE_some stepE_none opF callD rd constD putT upd_get guardL gOf_bool gOf_undef fieldAddrF fieldF loadF storeF indexAddrF indexF sliceF strSliceF bound buildF fillF buildSliceF elemsF allocF makeSliceF lenF elemsOf appendF minmaxF convertF boxF ldE blkAt spliceE D.cells? D.isCell Res.pure ov TyI.agg binD unD boolD initT thenA inBlockA argD argDs refsD refsL killW datJ datJs endA_ret endA_normal endR_some oneD_one oneD_two oneD_three oneD_four resDs resD fzT Value.oneCell' strip tabT tabM
attribute [local go_sem] List.map Nat.reduceEqDiff Nat.reduceBEq List.getElem?_cons_zero List.getElem?_cons_succ List.getElem?_nil Option.getD_some Option.getD_none true_and and_true true_or or_true false_or or_false and_self Nat.add_zero Nat.zero_add List.length_nil List.length_cons forall_const ite_true ite_false Bool.or_self Bool.false_eq_true Option.map_some Option.map_none beq_self_eq_true Nat.reduceAdd Nat.reduceSub Nat.reduceMul reduceCtorEq List.getElem?_toArray Bool.not_true Bool.not_false decide_eq_true_eq decide_true decide_false Nat.reduceLeDiff Nat.reduceLT Bool.or_false Bool.or_true Bool.and_true Bool.and_false Bool.false_and Bool.true_and Bool.true_beq Bool.false_beq beq_true beq_false Bool.not_eq_true List.drop_succ_cons List.take_succ_cons List.drop_zero List.take_zero List.length_map List.getElem?_map List.length_append List.all_cons List.all_nil List.append_nil List.nil_append List.cons_append List.set_cons_zero List.set_cons_succ Int.toNat_natCast Int.toNat_zero Option.isSome_some Option.isSome_none Array.size_empty ByteArray.size_empty Int.reduceToNat Int.reduceAdd Int.reduceSub Int.reduceLT Int.reduceLE Int.reduceEq Int.reduceNe Int.reduceBEq Int.reduceNeg List.forall_mem_cons List.not_mem_nil false_implies List.forall_mem_map implies_true Nat.reduceBNe Int.cast_ofNat_Int Int.reduceMul Int.reduceGE Int.reduceGT wrap_in ty_2 ty_3 ty_4 ty_5 ty_6 ty_7 ty_8 ty_9 ty_10 ty_11 ty_12 ty_13 ty_14 ty_18 ty_19 ty_21 ty_22 ty_23 ty_24 ty_25 ty_26 ty_27 ty_28 ty_29 ty_30 ty_34 ty_37 ty_41 ty_42 ty_49 ty_51 ty_53 ty_54 ty_55 ty_57 ty_58 ty_59 ty_60 ty_61 ty_62 ty_63 ty_64 ty_65 ty_66 ty_69 ty_70 ty_118 ty_119 ty_129 ty_130 ty_131 ty_132 ty_134 ty_139 ty_140 ty_141 ty_142 ty_145 ty_146 ty_162 ty_163 ty_173 ty_174 ty_175 ty_176 ty_177 ty_178 ty_179 ty_180 ty_183 ty_184 ty_185 ty_186
set_option maxRecDepth 100000
set_option maxHeartbeats 32000000
def needI (offers : List OffD) (k : Nat) : Nat → Int
 | 0 => 0
 | i + 1 => needI offers k i + wantI offers k i
def enoughB (supply : List Int) (offers : List OffD) (m : Nat) : Bool := (List.range m).all fun k => decide (needI offers k offers.length ≤ supply[k]?.getD 0)
theorem enoughB_succ (supply : List Int) (offers : List OffD) (m : Nat) : enoughB supply offers (m + 1) = (enoughB supply offers m && decide (needI offers m offers.length ≤ supply[m]?.getD 0)) := by
 unfold enoughB; rw [List.range_succ, List.all_append]; simp only [List.all_cons, List.all_nil, Bool.and_true]
section
variable {supply : List Int} {offers : List OffD}
theorem RightM.need_b (R : RightM supply offers) (k : Nat) : ∀ i : Nat, 0 ≤ needI offers k i ∧ needI offers k i ≤ i * 1000000
 | 0 => ⟨Int.le_refl _, by simp [needI]⟩
 | i + 1 => by
   have ih := R.need_b k i
   have w := R.wb k i
   simp only [needI]
   push_cast
   omega
theorem need_eq (supply : List Int) (offers : List OffD) (k : Nat) : ∀ i : Nat, ((needI offers k i : Int) : Rat) = sumN i fun i => (mkt supply offers).W i k
 | 0 => rfl
 | i + 1 => by simp only [needI, sumN]; rw [Rat.intCast_add, need_eq supply offers k i]; rfl
theorem GoodD.more {more : List Int} {a b : DealD} (ha : GoodD supply offers a) (hb : GoodD more offers b) (hl : more.length = supply.length) (hs : ∀ k : Nat, supply[k]?.getD 0 ≤ more[k]?.getD 0) : ¬ cmpD a.v b.v > 0 := by
 have e : mkt more offers = { mkt supply offers with S := fun k => ((more[k]?.getD 0 : Int) : Rat) } := by unfold mkt; rw [hl]
 have hB := hb.b
 have hv := hb.v
 rw [e] at hB hv
 have := Mkt.more_supply (M := mkt supply offers) (S' := fun k => ((more[k]?.getD 0 : Int) : Rat)) (fun k _ => Rat.intCast_le_intCast.2 (hs k)) ha.b hB
 rw [ha.v, hv, cmpQ_gt]
 show ¬ (mkt supply offers).worth _ < _
 grind
theorem GoodD.prices {a : DealD} (ha : GoodD supply offers a) : ∀ i, i < (mkt supply offers).n → 0 ≤ (mkt supply offers).P i := fun i _ => by
 have := ha.r.pb i
 exact Rat.intCast_nonneg.2 this.1
theorem GoodD.most {a : DealD} (ha : GoodD supply offers a) : ¬ cmpD a.v (ofQ (sumN offers.length fun i => (bidI offers i : Rat))) > 0 := by
 rw [ha.v, cmpQ_gt]
 have := Mkt.worth_le ha.prices ha.b.x
 have e : sumN (mkt supply offers).n (mkt supply offers).P = sumN offers.length fun i => (bidI offers i : Rat) := rfl
 rw [e] at this
 grind
theorem GoodD.enough {a : DealD} (ha : GoodD supply offers a) (h : enoughB supply offers supply.length = true) : a.v = ofQ (sumN offers.length fun i => (bidI offers i : Rat)) := by
 have h' := List.all_eq_true.1 h
 rw [ha.v, Mkt.enough ha.prices (fun k hk => ?_) ha.b]
 · rfl
 · have := of_decide_eq_true (h' k (List.mem_range.2 hk))
   have e := need_eq supply offers k offers.length
   show sumN offers.length _ ≤ ((supply[k]?.getD 0 : Int) : Rat)
   rw [← e]
   exact Rat.intCast_le_intCast.2 this
theorem bid_app (offers : List OffD) (o : OffD) : (∀ i, i < offers.length → bidI (offers ++ [o]) i = bidI offers i) ∧ bidI (offers ++ [o]) offers.length = o.price ∧ (∀ i k, i < offers.length → wantI (offers ++ [o]) k i = wantI offers k i) := by
 refine ⟨fun i hi => ?_, ?_, fun i k hi => ?_⟩
 · unfold bidI; rw [List.getElem?_append_left hi]
 · unfold bidI; rw [List.getElem?_append_right (Nat.le_refl _), Nat.sub_self]; rfl
 · unfold wantI; rw [List.getElem?_append_left hi]
theorem GoodD.offer {o : OffD} {a c : DealD} (ha : GoodD supply offers a) (hc : GoodD supply (offers ++ [o]) c) : ∃ wa : Rat, a.v = ofQ wa ∧ cmpD a.v c.v ≤ 0 ∧ cmpD c.v (ofQ (wa + (o.price : Rat))) ≤ 0 := by
 obtain ⟨b1, b2, b3⟩ := bid_app offers o
 have hR := hc.r
 have := Mkt.more_offer (M := mkt supply offers) (N := mkt supply (offers ++ [o])) (by show (offers ++ [o]).length = _; simp; rfl) rfl (fun i k hi => by show ((wantI (offers ++ [o]) k i : Int) : Rat) = _; rw [b3 i k hi]; rfl) (fun i hi => by show ((bidI (offers ++ [o]) i : Int) : Rat) = _; rw [b1 i hi]; rfl) rfl
  (fun k => Rat.intCast_nonneg.2 (hR.wb k _).1) (Rat.intCast_nonneg.2 (hR.pb _).1) ha.b hc.b
 have e : (mkt supply (offers ++ [o])).P (mkt supply offers).n = (o.price : Rat) := by show ((bidI (offers ++ [o]) offers.length : Int) : Rat) = _; rw [b2]
 rw [e] at this
 refine ⟨_, ha.v, ?_, ?_⟩
 · rw [ha.v, hc.v]
   have h := mt cmpQ_gt.1 (show ¬ (mkt supply (offers ++ [o])).worth (fun i => atP c.x i) < (mkt supply offers).worth (fun i => atP a.x i) by have := this.1; grind)
   omega
 · rw [hc.v]
   have h := mt cmpQ_gt.1 (show ¬ (mkt supply offers).worth (fun i => atP a.x i) + (o.price : Rat) < (mkt supply (offers ++ [o])).worth (fun i => atP c.x i) by have := this.2; grind)
   omega
end
theorem datJ_offs (l : List OffD) : List.map (List.map datJ) (l.map cOf) = l.map cOf := map_map_id (f := cOf) (g := datJ) (fun _ => rfl) l
theorem datJ_ints (l : List Int) : List.map (List.map datJ) (l.map fun x => [dI x]) = l.map fun x => [dI x] := map_map_id (f := fun x : Int => [dI x]) (g := datJ) (fun _ => rfl) l
theorem worth_sz {supply : List Int} {offers : List OffD} {d : DealD} (g : GoodD supply offers d) (zx : ∀ f ∈ d.x, szF f ≤ 262144) : (szF d.v : Int) ≤ 4500000 := by
 have := g.r.dot_sz g.ox (by have := g.lx; have := g.r.n1; omega) zx (Nat.le_refl _) (n := bidI offers) (fun i => g.r.pb i)
 rw [g.v, szF_ofQ, ← worth_eq g.lx]
 exact this
def zDeal : DealD := ⟨[], [], zF⟩
theorem marketMore_c (k0 : Contract Try.prog 7 [] (dB true)) (supply : List Int) (offers : List OffD) (mat kil : Int) (next : OffD) (hmat : 0 ≤ mat ∧ mat ≤ 255) (hkil : 0 ≤ kil ∧ kil ≤ 65535) : Contract Try.prog 4 [encInts supply, encOfs offers, .v (.int .u8 mat), .v (.int .u16 kil), encOf next] (dB true) := by
 have hres := Try.results4
 have q1 := few44_c supply offers zDeal 3 5
 cases h1 : few44 supply offers zDeal 3 5
 · rw [h1] at q1
   refine Contract.ofA (CallA.inline Try.func4 rfl (by kernel_rfl) (by kernel_rfl) (by kernel_rfl) ?_)
   rw [Try.ntmps4]
   exact aGo hres trivial
 rw [h1] at q1
 have sm := few44_sm h1
 have q2 := right44_c supply offers sm
 cases hr : right44 supply offers
 · rw [hr] at q2
   refine Contract.ofA (CallA.inline Try.func4 rfl (by kernel_rfl) (by kernel_rfl) (by kernel_rfl) ?_)
   rw [Try.ntmps4]
   exact aGo hres trivial
 rw [hr] at q2
 have R := right44_iff.1 hr
 have h5 := few44_o (by decide) h1 hr
 have g5 : ¬ (offers.length : Int) > 5 := by omega
 by_cases h8 : (next.wants.length : Int) > 8
 · refine Contract.ofA (CallA.inline Try.func4 rfl (by kernel_rfl) (by kernel_rfl) (by kernel_rfl) ?_)
   rw [Try.ntmps4]
   exact aGo (cj3 hres g5 h8) trivial
 have hm := R.m1
 have hm0 := R.m0
 have hn := R.n1
 have q3 := best44_c supply offers (fun _ => by omega) sm
 obtain ⟨a0, ag⟩ := best44_good hr
 rw [a0] at q3
 have az := deal_sz R (by omega)
 rw [show dealM supply offers = (best44 supply offers).1 by unfold best44; rw [hr]; rfl] at az
 generalize (best44 supply offers).1 = A at *
 -- more of a material
 obtain ⟨k, hk, ek⟩ : ∃ k : Nat, k < supply.length ∧ mat.tmod supply.length = k := ⟨(mat.toNat % supply.length), Nat.mod_lt _ (by omega), by
  rw [Int.tmod_eq_emod_of_nonneg hmat.1, Int.natCast_emod, Int.toNat_of_nonneg hmat.1]⟩
 obtain ⟨x, hx⟩ : ∃ e, supply[k]? = some e := ⟨_, List.getElem?_eq_getElem hk⟩
 have hxb := R.s x (mem_at hx)
 have hwx : IntKind.i64.wrap (x + kil) = x + kil := wrap_in (by omega) (by omega)
 have hwk : IntKind.i64.wrap kil = kil := wrap_in (by omega) (by omega)
 have hwm : IntKind.i64.wrap mat = mat := wrap_in (by omega) (by omega)
 have hkl : (k : Int) < supply.length := by omega
 have k0' : (0 : Int) ≤ k := by omega
 have hl0 : (supply.length : Int) ≠ 0 := by omega
 have y1 : ((supply.length : Nat) : Int) ≤ 8 := by omega
 refine Contract.ofA (CallA.inline Try.func4 rfl (by kernel_rfl) (by kernel_rfl) (by kernel_rfl) ?_)
 rw [Try.ntmps4]
 obtain ⟨v, hv⟩ : ∃ v : Int, (if x + kil < 1000000 then x + kil else 1000000) = v := ⟨_, rfl⟩
 have hvb : x ≤ v ∧ v ≤ 1000000 := by rw [← hv]; split <;> omega
 obtain ⟨more, hmore⟩ : ∃ more, supply.set k v = more := ⟨_, rfl⟩
 have eset : (supply.map fun x => [dI x]).set k [D.v (Value.int .i64 v)] = more.map fun x => [dI x] := by rw [← hmore, List.map_set]
 have lm : more.length = supply.length := by rw [← hmore, List.length_set]
 have hle : ∀ j : Nat, supply[j]?.getD 0 ≤ more[j]?.getD 0 := fun j => by
  rw [← hmore]
  by_cases e : j = k
  · subst e; rw [List.getElem?_set_self hk, hx]; exact hvb.1
  · rw [List.getElem?_set_ne (Ne.symm e)]; exact Int.le_refl _
 have hrm : right44 more offers = true := right44_iff.2 ⟨by omega, by omega, hn, fun y hy => by
  rw [← hmore] at hy
  rcases List.mem_or_eq_of_mem_set hy with hy | rfl
  · exact R.s y hy
  · omega, fun o ho => by rw [lm]; exact R.w o ho⟩
 have q4 := best44_c more offers (fun _ => by omega) ⟨by have := sm.s; omega, sm.o, sm.w⟩
 obtain ⟨b0, bg⟩ := best44_good hrm
 rw [b0] at q4
 have bz := deal_sz (right44_iff.1 hrm) (by omega)
 rw [show dealM more offers = (best44 more offers).1 by unfold best44; rw [hrm]; rfl] at bz
 generalize (best44 more offers).1 = B at *
 have f1 := ag.more bg lm hle
 have kz : (0 : Nat) ≤ k := Nat.zero_le _
 have b00 : ((0 : Int) != 0) = false := rfl
 have b01 : ((0 : Int) == 0) = true := rfl
 have i0 := nZ_c
 obtain ⟨wa, ea⟩ : ∃ w, A.v = ofQ w := ⟨_, ag.v⟩
 obtain ⟨wb, eb⟩ : ∃ w, B.v = ofQ w := ⟨_, bg.v⟩
 have zA := worth_sz ag az.1
 have zB := worth_sz bg bz.1
 have c1 := fcompare_c A.v B.v (by omega) (by omega)
 repeat ((fail_if_success (with_reducible refine at_region 8 ?_)); first
     | (refine hK _ ?_; clear hK; clear K)
     | (refine aSeq fun K hK => ?_)
     | (refine aBlock ?_)
     | (refine aSkip ?_)
     | (refine aExit ?_)
     | (refine aRet ?_)
     | (refine aOps _ rfl (by kernel_rfl) ?_)
     | (refine aRunK _ rfl mixed (by kernel_rfl) (by kernel_rfl) fun KE hE => ?_)
     | (refine hE _ _ (by kernel_rfl) (intsOk_no rfl) ?_; clear hE; clear KE)
     | (refine hE _ _ (by kernel_rfl) (intsOk_yes ?hi ?hj) ?_; (case hi => (repeat (refine intsDead_updB rfl ?_)); exact intsDead_nil); (case hj => simp); clear hE; clear KE)
     | (refine aCondT rfl ?hc ?_; case hc => simp only [go_sem, ↓reduceIte, hres, g5, h8, ek, hwx, hwk, hwm, hkl, k0', hl0, hx, y1, kz, hv, eset])
     | (refine aCondF rfl ?hc ?_; case hc => simp only [go_sem, ↓reduceIte, hres, g5, h8, ek, hwx, hwk, hwm, hkl, k0', hl0, hx, y1, kz, hv, eset])
     | (refine callT_of (k0) ?_ ?_; rotate_left; (repeat (refine intsDead_updB rfl ?_)); exact intsDead_nil)
     | (refine callT_ofN (k0) ?_)
     | (refine callU_of (k0) rfl ?_)
     | (refine callU_ofN (k0) rfl ?_)
     | (refine callT_of (q1) ?_ ?_; rotate_left; (repeat (refine intsDead_updB rfl ?_)); exact intsDead_nil)
     | (refine callT_ofN (q1) ?_)
     | (refine callU_of (q1) rfl ?_)
     | (refine callU_ofN (q1) rfl ?_)
     | (refine callT_of (q2) ?_ ?_; rotate_left; (repeat (refine intsDead_updB rfl ?_)); exact intsDead_nil)
     | (refine callT_ofN (q2) ?_)
     | (refine callU_of (q2) rfl ?_)
     | (refine callU_ofN (q2) rfl ?_)
     | (refine callT_of (q3) ?_ ?_; rotate_left; (repeat (refine intsDead_updB rfl ?_)); exact intsDead_nil)
     | (refine callT_ofN (q3) ?_)
     | (refine callU_of (q3) rfl ?_)
     | (refine callU_ofN (q3) rfl ?_)
     | (simp only [go_sem, ↓reduceIte, hres, g5, h8, ek, hwx, hwk, hwm, hkl, k0', hl0, hx, y1, kz, hv, eset])
     | (refine And.intro ?ho ?_; (case ho => omega))
     | (clear hK; clear K))
 have yz : ∀ m, List.map (List.map (fzT false m 4)) (more.map fun x => [dI x]) = more.map fun x => [dI x] := fun m => map_map_id (fun _ => rfl) _
 refine aLe ((le_kill 2 rfl).trans (le_temp 14 5)) ?_
 simp only [go_sem, fzT]
 refine aLe (s' := ⟨tabT [(0, encInts supply), (1, encOfs offers), (9, .lp 0 0 0 0), (11, dB true), (12, .lp 1 0 0 0), (13, dI 0), (14, encInts more)], tabM [(0, ⟨42, 0, 2, [cOf next], 0, false⟩), (1, ⟨30, 0, 6, [cDl A], 0, false⟩)], 2, 0⟩) (by exact leGo (cj2 eset yz)) ?_
 have yj := datJ_ints more
 repeat ((fail_if_success (with_reducible refine at_region 11 ?_)); first
     | (refine hK _ ?_; clear hK; clear K)
     | (refine aSeq fun K hK => ?_)
     | (refine aBlock ?_)
     | (refine aSkip ?_)
     | (refine aExit ?_)
     | (refine aRet ?_)
     | (refine aOps _ rfl (by kernel_rfl) ?_)
     | (refine aRunK _ rfl mixed (by kernel_rfl) (by kernel_rfl) fun KE hE => ?_)
     | (refine hE _ _ (by kernel_rfl) (intsOk_no rfl) ?_; clear hE; clear KE)
     | (refine hE _ _ (by kernel_rfl) (intsOk_yes ?hi ?hj) ?_; (case hi => (repeat (refine intsDead_updB rfl ?_)); exact intsDead_nil); (case hj => simp); clear hE; clear KE)
     | (refine aCondT rfl ?hc ?_; case hc => simp only [go_sem, ↓reduceIte, hres, b00, f1, yj])
     | (refine aCondF rfl ?hc ?_; case hc => simp only [go_sem, ↓reduceIte, hres, b00, f1, yj])
     | (refine callT_of (q4) ?_ ?_; rotate_left; (repeat (refine intsDead_updB rfl ?_)); exact intsDead_nil)
     | (refine callT_ofN (q4) ?_)
     | (refine callU_of (q4) rfl ?_)
     | (refine callU_ofN (q4) rfl ?_)
     | (refine callT_of (c1) ?_ ?_; rotate_left; (repeat (refine intsDead_updB rfl ?_)); exact intsDead_nil)
     | (refine callT_ofN (c1) ?_)
     | (refine callU_of (c1) rfl ?_)
     | (refine callU_ofN (c1) rfl ?_)
     | (simp only [go_sem, ↓reduceIte, hres, b00, f1, yj])
     | (refine And.intro ?ho ?_; (case ho => omega))
     | (clear hK; clear K))
 refine aLe (s' := ⟨tabT [(0, encInts supply), (1, encOfs offers), (9, .lp 0 0 0 0), (11, dB true), (12, .lp 1 0 0 0)], tabM [(0, ⟨42, 0, 2, [cOf next], 0, false⟩), (1, ⟨30, 0, 6, [cDl A], 0, false⟩)], 2, 0⟩) (by exact leGo trivial) ?_
 clear q4 c1 bg bz zB eb wb f1 yj hle hrm lm eset hmore b0 hvb hv yz
 refine aGo hres ?_
 repeat (guard_target =~ ∀ _ : St → Prop, _; intro K hK)
 have e0 : enoughB supply offers 0 = true := rfl
 refine aLoopT (fun (m : Nat) => [(0, encInts supply), (1, encOfs offers), (9, .lp 0 0 0 0), (11, dB true), (12, .lp 1 0 0 0), (18, dB (enoughB supply offers m)), (19, .lp 2 0 0 0), (20, dI m)])
  (fun _ => [(0, ⟨42, 0, 2, [cOf next], 0, false⟩), (1, ⟨30, 0, 6, [cDl A], 0, false⟩), (2, ⟨28, 0, 4, [cF (ofQ 0)], 0, false⟩)]) 3 0 (fun m => m ≤ supply.length) (fun m => supply.length - m) 0 (by omega) ?_ ?_
 · exact leGo e0
 rintro m hm2
 have hwm2 : IntKind.i64.wrap ((m : Int) + 1) = (m : Int) + 1 := wrap_in (by omega) (by omega)
 have m0 : (0 : Int) ≤ m := by omega
 by_cases h3 : (m : Int) < supply.length
 · obtain ⟨s, hs⟩ : ∃ e, supply[m]? = some e := ⟨_, List.getElem?_eq_getElem (by omega)⟩
   have n0 : needI offers m 0 = 0 := rfl
   refine aGo (cj3 hres m0 h3) ?_
   repeat (guard_target =~ ∀ _ : St → Prop, _; intro K hK)
   refine aLoopT (fun (i : Nat) => [(0, encInts supply), (1, encOfs offers), (9, .lp 0 0 0 0), (11, dB true), (12, .lp 1 0 0 0), (18, dB (enoughB supply offers m)), (19, .lp 2 0 0 0), (20, dI m), (21, dI (needI offers m i)), (22, dI i)])
    (fun _ => [(0, ⟨42, 0, 2, [cOf next], 0, false⟩), (1, ⟨30, 0, 6, [cDl A], 0, false⟩), (2, ⟨28, 0, 4, [cF (ofQ 0)], 0, false⟩)]) 3 0 (fun i => i ≤ offers.length) (fun i => offers.length - i) 0 (by omega) ?_ ?_
   · exact leGo n0
   rintro i hi
   have hwi : IntKind.i64.wrap ((i : Int) + 1) = (i : Int) + 1 := wrap_in (by omega) (by omega)
   have j0 : (0 : Int) ≤ i := by omega
   by_cases h4 : (i : Int) < offers.length
   · obtain ⟨o, ho⟩ : ∃ e, offers[i]? = some e := ⟨_, List.getElem?_eq_getElem (by omega)⟩
     obtain ⟨hwt, w0, w1⟩ := R.want (k := m) ho (by omega)
     have h4w : (m : Int) < o.wants.length := by have := (R.w o (mem_at ho)).1; omega
     obtain ⟨u0, u1⟩ := R.need_b m i
     have hws : IntKind.i64.wrap (needI offers m i + wantI offers m i) = needI offers m i + wantI offers m i := wrap_in (by omega) (by omega)
     have e8 : needI offers m (i + 1) = needI offers m i + wantI offers m i := rfl
     refine aGo (cj4 hres j0 m0 (cj4 h4 h4w ho (cj3 hwt hwi hws))) ?_
     repeat (guard_target =~ ∀ _ : St → Prop, _; intro K hK)
     exact loop_end (i + 1) (by omega) (by omega) (by exact leGo e8)
   obtain rfl : i = offers.length := by omega
   have es := enoughB_succ supply offers m
   have eg : supply[m]?.getD 0 = s := by rw [hs]; rfl
   rw [eg] at es
   cases he : enoughB supply offers m
   · rw [he, Bool.false_and] at es
     refine aGo (cj4 hres m0 h3 (cj4 h4 he hs hwm2)) ?_
     repeat (guard_target =~ ∀ _ : St → Prop, _; intro K hK)
     exact loop_end (m + 1) (by omega) (by omega) (by exact leGo es)
   · rw [he, Bool.true_and] at es
     refine aGo (cj4 hres m0 h3 (cj4 h4 he hs hwm2)) ?_
     repeat (guard_target =~ ∀ _ : St → Prop, _; intro K hK)
     exact loop_end (m + 1) (by omega) (by omega) (by exact leGo es)
 obtain rfl : m = supply.length := by omega
 refine aGo (cj2 hres h3) ?_
 repeat (guard_target =~ ∀ _ : St → Prop, _; intro K hK)
 have s0 : sumN 0 (fun i => (bidI offers i : Rat)) = 0 := rfl
 refine aLoopT (fun (i : Nat) => [(0, encInts supply), (1, encOfs offers), (9, .lp 0 0 0 0), (11, dB true), (12, .lp 1 0 0 0), (18, dB (enoughB supply offers supply.length)), (19, .lp 2 0 0 0), (23, dI i)])
  (fun i => [(0, ⟨42, 0, 2, [cOf next], 0, false⟩), (1, ⟨30, 0, 6, [cDl A], 0, false⟩), (2, ⟨28, 0, 4, [cF (ofQ (sumN i fun i => (bidI offers i : Rat)))], 0, false⟩)]) 3 0 (fun i => i ≤ offers.length) (fun i => offers.length - i) 0 (by omega) ?_ ?_
 · exact leGo s0
 rintro i hi
 have hwi : IntKind.i64.wrap ((i : Int) + 1) = (i : Int) + 1 := wrap_in (by omega) (by omega)
 have j0 : (0 : Int) ≤ i := by omega
 have pz := sumN_sz (f := fun i => (bidI offers i : Rat)) (n := i) (B := 4) fun j _ => szI_le _ (R.pb j).1 (R.pb j).2
 by_cases h4 : (i : Int) < offers.length
 · obtain ⟨o, ho⟩ : ∃ e, offers[i]? = some e := ⟨_, List.getElem?_eq_getElem (by omega)⟩
   have hob := R.w o (mem_at ho)
   have ebid := R.bid_at ho
   have oz := szI_le o.price hob.2.2.1 hob.2.2.2
   have c1 := nI_c o.price hob.2.2.1 (by omega)
   have c2 := nadd_c (sumN i fun i => (bidI offers i : Rat)) (o.price : Rat) (by omega) (by omega)
   have e8 : (sumN (i + 1) fun i => (bidI offers i : Rat)) = (sumN i fun i => (bidI offers i : Rat)) + (o.price : Rat) := by rw [ebid]; rfl
   refine aGo (cj4 hres j0 h4 (cj2 ho hwi)) ?_
   repeat (guard_target =~ ∀ _ : St → Prop, _; intro K hK)
   exact loop_end (i + 1) (by omega) (by omega) (by exact leGo e8)
 obtain rfl : i = offers.length := by omega
 have f1 := ag.most
 have f2 := ag.enough
 have c1 := fsame_c A.v (ofQ (sumN offers.length fun i => (bidI offers i : Rat)))
 have c2 := fcompare_c A.v (ofQ (sumN offers.length fun i => (bidI offers i : Rat))) (by omega) (by rw [szF_ofQ]; omega)
 generalize (sumN offers.length fun i => (bidI offers i : Rat)) = S at *
 -- the further offer
 have smN : SmM supply (offers ++ [next]) := ⟨sm.s, by simp; omega, fun o ho => by
  rcases List.mem_append.1 ho with ho | ho
  · exact sm.w o ho
  · rw [List.mem_singleton.1 ho]; omega⟩
 have q5 := right44_c supply (offers ++ [next]) smN
 have q6 := best44_c supply (offers ++ [next]) (fun _ => by simp; omega) smN
 have eapp : (offers.map cOf ++ [[encInts next.wants, dI next.price]]) = (offers ++ [next]).map cOf := by rw [List.map_append]; rfl
 have ydj := datJ_offs (offers ++ [next])
 have y2 : ((offers.length : Nat) : Int) ≤ 5 := by omega
 have y3 : ((offers.length + 1 : Nat) : Int) ≤ 6 := by omega
 have c3 := nI_c next.price
 repeat ((fail_if_success (with_reducible refine at_region 26 ?_)); first
     | (refine hK _ ?_; clear hK; clear K)
     | (refine aSeq fun K hK => ?_)
     | (refine aBlock ?_)
     | (refine aSkip ?_)
     | (refine aExit ?_)
     | (refine aRet ?_)
     | (refine aOps _ rfl (by kernel_rfl) ?_)
     | (refine aRunK _ rfl mixed (by kernel_rfl) (by kernel_rfl) fun KE hE => ?_)
     | (refine hE _ _ (by kernel_rfl) (intsOk_no rfl) ?_; clear hE; clear KE)
     | (refine hE _ _ (by kernel_rfl) (intsOk_yes ?hi ?hj) ?_; (case hi => (repeat (refine intsDead_updB rfl ?_)); exact intsDead_nil); (case hj => simp); clear hE; clear KE)
     | (refine aCondT rfl ?hc ?_; case hc => simp only [go_sem, ↓reduceIte, hres, h4])
     | (refine aCondF rfl ?hc ?_; case hc => simp only [go_sem, ↓reduceIte, hres, h4])
     | (simp only [go_sem, ↓reduceIte, hres, h4])
     | (refine And.intro ?ho ?_; (case ho => omega))
     | (clear hK; clear K))
 have r1 : True → ∀ st, StLe st ⟨tabT [(0, encInts supply), (1, encOfs offers), (9, .lp 0 0 0 0), (11, dB true), (12, .lp 1 0 0 0), (161, dB false)], tabM [(0, ⟨42, 0, 2, [cOf next], 0, false⟩), (1, ⟨30, 0, 6, [cDl A], 0, false⟩)], 2, 0⟩ → K st := by
  intro _ st hle
  refine hK _ (aLe hle ?_)
  clear hle hK c1 c2 f1 f2
  cases hN : right44 supply (offers ++ [next])
  · rw [hN] at q5
    exact aGo (cj4 hres y2 y3 (cj2 eapp ydj)) trivial
  rw [hN] at q5
  obtain ⟨g0, gg⟩ := best44_good hN
  rw [g0] at q6
  have RN := right44_iff.1 hN
  have cz := deal_sz RN (by simp; omega)
  rw [show dealM supply (offers ++ [next]) = (best44 supply (offers ++ [next])).1 by unfold best44; rw [hN]; rfl] at cz
  generalize (best44 supply (offers ++ [next])).1 = C at *
  obtain ⟨w, ew, f3, f4⟩ := ag.offer gg
  have zC := worth_sz gg cz.1
  have hob := RN.w next (by simp)
  have c3 := c3 hob.2.2.1 (by omega)
  have oz := szI_le next.price hob.2.2.1 hob.2.2.2
  have zw : (szQ w : Int) ≤ 4500000 := by rw [← szF_ofQ, ← ew]; exact zA
  have c4 := nadd_c w (next.price : Rat) (by omega) (by omega)
  have zh := szQ_add w (next.price : Rat)
  have c5 := fcompare_c A.v C.v (by omega) (by omega)
  have c6 := fcompare_c C.v (ofQ (w + (next.price : Rat))) (by omega) (by rw [szF_ofQ]; omega)
  rw [← ew] at c4
  exact aGo (cj4 hres y2 y3 (cj4 eapp ydj b01 (cj2 f3 f4))) trivial
 cases he : enoughB supply offers supply.length
 · clear hK
   refine aGo (cj3 hres he f1) ?_
   repeat (guard_target =~ ∀ _ : St → Prop, _; intro K hK)
   exact r1 trivial _ (by exact leGo trivial)
 · clear hK
   have es : sameF A.v (ofQ S) = true := by rw [f2 he]; exact sameF_self _
   rw [es] at c1
   refine aGo (cj3 hres he f1) ?_
   repeat (guard_target =~ ∀ _ : St → Prop, _; intro K hK)
   exact r1 trivial _ (by exact leGo trivial)
end Go.Proofs.Ytbnbpfjfkedbaaa
