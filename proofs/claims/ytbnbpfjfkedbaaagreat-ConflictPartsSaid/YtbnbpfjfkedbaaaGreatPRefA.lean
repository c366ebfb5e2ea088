/-
  The reference's integers, as data: Right, Same, Compare, Neg; the elder contracts.
-/
import Derived.Test.YtbnbpfjfkedbaaaGreatPConv
namespace Go.Proofs.YtbnbpfjfkedbaaaGreat
set_option linter.unusedVariables false
set_option linter.unusedSimpArgs false
set_option linter.unusedSectionVars false
open Go Go.RowKit
attribute [local go_sem] opsL_nil opsL_go opsL_guard gSel_tt gSel_ff gSel_tf gSel_ft stepR_some stepR_none callS_some callE_some runL_nil runL_go runL_guard gSelE_tt gSelE_ff gSelE_tf gSelE_ft stepE_some stepE_none opF callD rd constD putT upd_get guardL gOf_bool gOf_undef fieldAddrF fieldF loadF storeF indexAddrF indexF sliceF strSliceF bound buildF fillF buildSliceF elemsF allocF makeSliceF lenF elemsOf appendF minmaxF convertF boxF ldE blkAt spliceE D.cells? D.isCell Res.pure ov TyI.agg binD unD boolD initT thenA inBlockA argD argDs refsD refsL killW datJ datJs endA_ret endA_normal endR_some oneD_one oneD_two oneD_three oneD_four resDs resD fzT Value.oneCell' strip tabT tabM
attribute [local go_sem] List.map Nat.reduceEqDiff Nat.reduceBEq List.getElem?_cons_zero List.getElem?_cons_succ List.getElem?_nil Option.getD_some Option.getD_none true_and and_true true_or or_true false_or or_false and_self Nat.add_zero Nat.zero_add List.length_nil List.length_cons forall_const ite_true ite_false Bool.or_self Bool.false_eq_true Option.map_some Option.map_none beq_self_eq_true Nat.reduceAdd Nat.reduceSub Nat.reduceMul reduceCtorEq List.getElem?_toArray Bool.not_true Bool.not_false decide_eq_true_eq decide_true decide_false Nat.reduceLeDiff Nat.reduceLT Bool.or_false Bool.or_true Bool.and_true Bool.and_false Bool.false_and Bool.true_and Bool.true_beq Bool.false_beq beq_true beq_false Bool.not_eq_true List.drop_succ_cons List.take_succ_cons List.drop_zero List.take_zero List.length_map List.getElem?_map List.length_append List.all_cons List.all_nil List.append_nil List.nil_append List.cons_append List.set_cons_zero List.set_cons_succ Int.toNat_natCast Int.toNat_zero Option.isSome_some Option.isSome_none Array.size_empty ByteArray.size_empty Int.reduceToNat Int.reduceAdd Int.reduceSub Int.reduceLT Int.reduceLE Int.reduceEq Int.reduceNe Int.reduceBEq Int.reduceNeg List.forall_mem_cons List.not_mem_nil false_implies List.forall_mem_map implies_true Nat.reduceBNe Int.cast_ofNat_Int Int.reduceMul Int.reduceGE Int.reduceGT wrap_in ty_2 ty_3 ty_4 ty_5 ty_6 ty_7 ty_8 ty_9 ty_10 ty_11 ty_12 ty_13 ty_14 ty_18 ty_19 ty_21 ty_22 ty_23 ty_24 ty_25 ty_26 ty_27 ty_28 ty_29 ty_30 ty_35 ty_44 ty_45 ty_46 ty_67 ty_68 ty_71 ty_74 ty_75 ty_76 ty_77 ty_78 ty_79 ty_133 ty_134 ty_136 ty_137 ty_138 ty_139 ty_141 ty_142 ty_157 ty_158 ty_167 ty_168 ty_169 ty_170 ty_171 ty_173 ty_174 ty_175 ty_178 ty_179 ty_180 ty_181
set_option maxRecDepth 100000
set_option maxHeartbeats 1000000
theorem dig_take_succ {l : List Int} {k : Nat} {e : Int} (h : Dig (l.take k)) (hx : l[k]? = some e) (h0 : 0 ≤ e) (h1 : e < 1048576) : Dig (l.take (k + 1)) := by
 rw [List.take_add_one, hx]
 exact dig_append.2 ⟨h, by simp [Dig]; omega⟩
theorem digB_no {l : List Int} {k : Nat} {e : Int} (hx : l[k]? = some e) (h : e < 0 ∨ 1048576 ≤ e) : digB l = false := by
 cases hd : digB l with
 | false => rfl
 | true => have := digB_iff.1 hd e (List.mem_of_getElem? hx); omega
theorem ok_nil {x : BigD} (h : x.d = []) : okB x = (x.s == 0) := by simp [okB, h, digB]
theorem ok_cons {x : BigD} (h : x.d ≠ []) (hd : digB x.d = true) {e : Int} (he : x.d[x.d.length - 1]? = some e) : okB x = ((x.s == 1 || x.s == -1) && (e != 0)) := by
 have h1 : x.d.isEmpty = false := by simpa using h
 have h2 : (x.d.getLast? != some 0) = (e != 0) := by
  rw [List.getLast?_eq_getElem?, he]
  simp [bne]
 simp only [okB, hd, h1, h2, Bool.true_and, Bool.false_eq_true, if_false]
theorem rright_c (x : BigD) (hl : (x.d.length : Int) ≤ 9007199254740992) : Contract Tryz.prog 103 [encB x] (dB (okB x)) := by
 refine Contract.ofA (CallA.inline Tryz.func103 rfl (by kernel_rfl) (by kernel_rfl) (by kernel_rfl) ?_)
 rw [Tryz.ntmps103]
 have hres := Tryz.results103
 refine aGo hres ?_
 repeat (guard_target =~ ∀ _ : St → Prop, _; intro K hK)
 refine aLoopT (fun (k : Nat) => [(1, .lp 0 0 0 0), (3, dI k)]) (fun _ => [(0, ⟨26, 0, 2, [cB x], 0, false⟩)]) 1 0 (fun k => k ≤ x.d.length ∧ Dig (x.d.take k)) (fun k => x.d.length - k) 0 ⟨by omega, by simp [Dig]⟩ ?_ ?_
 · exact leGo trivial
 · rintro k ⟨hk, hd⟩
   have hw : IntKind.i64.wrap ((k : Int) + 1) = (k : Int) + 1 := wrap_in (by omega) (by omega)
   have h0 : (0 : Int) ≤ k := by omega
   by_cases h1 : (k : Int) < x.d.length
   · obtain ⟨e, hx⟩ : ∃ e, x.d[k]? = some e := ⟨_, List.getElem?_eq_getElem (by omega)⟩
     by_cases h2 : e < 0
     · refine aGo (cj4 hres h0 h1 (cj2 h2 hx)) ?_
       repeat (guard_target =~ ∀ _ : St → Prop, _; intro K hK)
       exact bool_eq (by simp [okB, digB_no hx (.inl h2)])
     · by_cases h3 : e ≥ 1048576
       · refine aGo (cj4 hres h0 h1 (cj3 h2 h3 hx)) ?_
         repeat (guard_target =~ ∀ _ : St → Prop, _; intro K hK)
         exact bool_eq (by simp [okB, digB_no hx (.inr h3)])
       · refine aGo (cj4 hres h0 h1 (cj4 h2 h3 hx hw)) ?_
         repeat (guard_target =~ ∀ _ : St → Prop, _; intro K hK)
         exact loop_end (k + 1) ⟨by omega, dig_take_succ hd hx (by omega) (by omega)⟩ (by omega) (by exact leGo trivial)
   · have hD : digB x.d = true := digB_iff.2 (by rwa [List.take_of_length_le (by omega)] at hd)
     by_cases hn : x.d = []
     · have hok := ok_nil hn
       have hn0 : x.d.length = 0 := by rw [hn]; rfl
       have hz : ((x.d.length : Int) == 0) = true := by simp [hn0]
       by_cases h2 : x.s < -1
       · refine aGo (cj3 hres h1 h2) ?_
         repeat (guard_target =~ ∀ _ : St → Prop, _; intro K hK)
         exact bool_eq (by rw [hok]; simp; omega)
       · by_cases h3 : x.s > 1
         · refine aGo (cj4 hres h1 h2 h3) ?_
           repeat (guard_target =~ ∀ _ : St → Prop, _; intro K hK)
           exact bool_eq (by rw [hok]; simp; omega)
         · cases hs : x.s == 0
           · refine aGo (cj4 hres h1 h2 (cj3 h3 hz hs)) ?_
             repeat (guard_target =~ ∀ _ : St → Prop, _; intro K hK)
             exact bool_eq (by rw [hok, hs])
           · refine aGo (cj4 hres h1 h2 (cj3 h3 hz hs)) ?_
             repeat (guard_target =~ ∀ _ : St → Prop, _; intro K hK)
             exact bool_eq (by rw [hok, hs])
     · have hpos : 0 < x.d.length := List.length_pos_iff.2 hn
       obtain ⟨e, he⟩ : ∃ e, x.d[x.d.length - 1]? = some e := ⟨_, List.getElem?_eq_getElem (by omega)⟩
       have hok := ok_cons hn hD he
       have hz : ((x.d.length : Int) == 0) = false := by simp; omega
       by_cases h2 : x.s < -1
       · refine aGo (cj3 hres h1 h2) ?_
         repeat (guard_target =~ ∀ _ : St → Prop, _; intro K hK)
         exact bool_eq (by rw [hok]; simp; intro h; omega)
       · by_cases h3 : x.s > 1
         · refine aGo (cj4 hres h1 h2 h3) ?_
           repeat (guard_target =~ ∀ _ : St → Prop, _; intro K hK)
           exact bool_eq (by rw [hok]; simp; intro h; omega)
         · cases hs : x.s == 0
           · have hw1 : IntKind.i64.wrap ((x.d.length : Int) - 1) = (x.d.length : Int) - 1 := wrap_in (by omega) (by omega)
             have ht1 : ((x.d.length : Int) - 1).toNat = x.d.length - 1 := by omega
             have h01 : (0 : Int) ≤ (x.d.length : Int) - 1 := by omega
             have hs1 : (x.s == 1 || x.s == -1) = true := by simp at hs ⊢; omega
             refine aGo (cj4 hres h1 h2 (cj4 h3 hz hs (cj4 hw1 ht1 h01 he))) ?_
             repeat (guard_target =~ ∀ _ : St → Prop, _; intro K hK)
             exact bool_eq (by rw [hok, hs1, Bool.true_and])
           · have hs1 : (x.s == 1 || x.s == -1) = false := by simp at hs ⊢; omega
             refine aGo (cj4 hres h1 h2 (cj3 h3 hz hs)) ?_
             repeat (guard_target =~ ∀ _ : St → Prop, _; intro K hK)
             exact bool_eq (by rw [hok, hs1, Bool.false_and])
theorem rtrim_c (l : List Int) (hl : (l.length : Int) ≤ 8796093022208) : ContractN Tryz.prog 160 [encInts l] (encInts (trimL l)) :=
 c1_digs ⟨_, _, Tryz.func160, rfl, by kernel_rfl⟩ fun w v h => rtrim_any v l w h hl
theorem rmade_c (s : Int) (l : List Int) (hl : (l.length : Int) ≤ 8796093022208) : Contract Tryz.prog 141 [dI s, encInts l] (encB (sgnd s l)) := by
 refine ⟨⟨_, _, Tryz.func141, rfl, by kernel_rfl⟩, fun S w vs hf hi hvs => ?_⟩
 obtain ⟨v, u, rfl, h1, h2⟩ := reps2 hvs
 rw [h1.inv_v]
 refine (made_any s u l w (ints_of_rep h2) hl).mono ?_
 rintro e w' ⟨x, rfl, h3, h4⟩
 exact ⟨x, rfl, h4, rep_of_bigF h3 (intSafe_after h4 hf hi)⟩
theorem rofi_c (n : Int) (h1 : -9223372036854775808 ≤ n) (h2 : n ≤ 9223372036854775807) : Contract Tryz.prog 106 [dI n] (encB (ofZ n)) := by
 refine ⟨⟨_, _, Tryz.func106, rfl, by kernel_rfl⟩, fun S w vs hf hi hvs => ?_⟩
 obtain ⟨v, rfl, h3⟩ := reps1 hvs
 rw [h3.inv_v]
 refine (ROf_ok n w h1 h2).mono ?_
 rintro e w' ⟨x, rfl, h3, h4⟩
 exact ⟨x, rfl, h4, rep_of_bigF h3 (intSafe_after h4 hf hi)⟩
theorem rover_c (n D : Nat) (la : ((digs n).length : Int) ≤ 1099511627776) (lb : ((digs D).length : Int) ≤ 1099511627776) (hD : 0 < D) : ContractN Tryz.prog 140 [encInts (digs n), encInts (digs D)] (.tup [encInts (digs (n / D)), encInts (digs (n % D))]) := by
 refine ⟨⟨_, _, Tryz.func140, rfl, by kernel_rfl⟩, fun S w vs hf hvs => ?_⟩
 obtain ⟨v, u, rfl, h1, h2⟩ := reps2 hvs
 refine (over_any n D v u w (ints_of_rep h1) (ints_of_rep h2) la lb hD).mono ?_
 rintro e w' ⟨x, y, rfl, h3, h4, h5⟩
 exact ⟨_, rfl, h5, (Reps.cons (rep_of_owns h3 hf) (Reps.cons (rep_of_owns h4 hf) Reps.nil)).rep_tup⟩
theorem sameB_iff {a b : BigD} : sameB a b = true ↔ a = b := by
 cases a; cases b; simp [sameB]
theorem rrightZ_c (a : Int) (la : (szZ a : Int) ≤ 1099511627776) : ContractN Tryz.prog 103 [encB (ofZ a)] (dB true) := by
 have := (rright_c (ofZ a) (by rw [szB_ofZ]; omega)).toN rfl
 rwa [okB_ofZ] at this
theorem rmadeZ_c (s : Int) (n : Nat) (z : Int) (h : z = s * n) (hs : s = 1 ∨ s = -1 ∨ n = 0) (hl : ((digs n).length : Int) ≤ 8796093022208) : Contract Tryz.prog 141 [dI s, encInts (digs n)] (encB (ofZ z)) := by
 have := rmade_c s (digs n) hl
 rwa [sgnd_digs z h hs] at this
theorem rneg_c (a : Int) (la : (szZ a : Int) ≤ 1099511627776) : Contract Tryz.prog 148 [encB (ofZ a)] (encB (ofZ (-a))) := by
 refine Contract.ofA (CallA.inline Tryz.func148 rfl (by kernel_rfl) (by kernel_rfl) (by kernel_rfl) ?_)
 rw [Tryz.ntmps148]
 have hres := Tryz.results148
 have hn := wrap_in (n := 0 - a.sign) (by rcases sign_cases a with ⟨_, h, _⟩ | ⟨_, h, _⟩ | ⟨_, h, _⟩ <;> omega) (by rcases sign_cases a with ⟨_, h, _⟩ | ⟨_, h, _⟩ | ⟨_, h, _⟩ <;> omega)
 have hs : (ofZ a).s = a.sign := rfl
 have hd : (ofZ a).d = digs a.natAbs := rfl
 have hz : 0 - a.sign = -a.sign := by omega
 rw [hz] at hn
 have hm := rmade_c (-a.sign) (digs a.natAbs) (by have : (szZ a : Int) = (digs a.natAbs).length := rfl; omega)
 rw [sgnd_neg] at hm
 have hq0 := rrightZ_c a la
 exact aGo (cj4 hres hs hd (cj2 hz hn)) trivial
theorem sign_mul (a b : Int) : -1 ≤ a.sign * b.sign ∧ a.sign * b.sign ≤ 1 := by
 rcases sign_cases a with ⟨_, h, _⟩ | ⟨_, h, _⟩ | ⟨_, h, _⟩ <;> rcases sign_cases b with ⟨_, k, _⟩ | ⟨_, k, _⟩ | ⟨_, k, _⟩ <;> rw [h, k] <;> decide
theorem rgcd_c (a b : Int) (la : (szZ a : Int) ≤ 549755813888) (lb : (szZ b : Int) ≤ 549755813888) : Contract Tryz.prog 104 [encB (ofZ a), encB (ofZ b)] (.tup [encB (ofZ (Nat.gcd a.natAbs b.natAbs)), dI 0]) := by
 refine Contract.ofA (CallA.inline Tryz.func104 rfl (by kernel_rfl) (by kernel_rfl) (by kernel_rfl) ?_)
 rw [Tryz.ntmps104]
 have hres := Tryz.results104
 have sa := rrightZ_c a (by omega)
 have sb := rrightZ_c b (by omega)
 have ea : (ofZ a).s = a.sign := rfl
 have eb : (ofZ b).s = b.sign := rfl
 have da : (ofZ a).d = digs a.natAbs := rfl
 have db : (ofZ b).d = digs b.natAbs := rfl
 have ha : (szZ a : Int) = (digs a.natAbs).length := rfl
 have hb : (szZ b : Int) = (digs b.natAbs).length := rfl
 refine aGo (cj4 hres ea eb (cj2 da db)) ?_
 repeat (guard_target =~ ∀ _ : St → Prop, _; intro K hK)
 refine aLoopT (fun (p : Nat × Nat) => [(4, .lp 2 0 0 0), (6, encInts (digs p.1)), (7, encInts (digs p.2))]) (fun _ => [(2, ⟨26, 0, 2, [[dI 0, .nil]], 0, false⟩)]) 3 0 (fun p => Nat.gcd p.1 p.2 = Nat.gcd a.natAbs b.natAbs ∧ ((digs p.1).length : Int) ≤ 549755813888 ∧ ((digs p.2).length : Int) ≤ 549755813888) (fun p => p.2) (a.natAbs, b.natAbs) ⟨rfl, by rw [← ha]; exact la, by rw [← hb]; exact lb⟩ ?_ ?_
 · exact leGo trivial
 · rintro ⟨x, y⟩ ⟨hg, hx, hy⟩
   dsimp only at hg hx hy
   by_cases h0 : y = 0
   · subst h0
     have hgx : Nat.gcd a.natAbs b.natAbs = x := by rw [← hg]; simp
     have h1 : ¬ ((digs 0).length : Int) > 0 := by rw [digs_zero]; simp
     have hm := rmadeZ_c 1 x x (by omega) (by omega) (by omega)
     refine aGo (cj2 hres h1) ?_
     repeat (guard_target =~ ∀ _ : St → Prop, _; intro K hK)
     rw [hgx]
   · have h1 : ((digs y).length : Int) > 0 := by
       have : digs y ≠ [] := fun h => h0 (digs_nil_iff.1 h)
       have := List.length_pos_iff.2 this
       omega
     have ho := rover_c x y (by omega) (by omega) (by omega)
     have hlt : x % y < y := Nat.mod_lt _ (by omega)
     refine aGo (cj2 hres h1) ?_
     repeat (guard_target =~ ∀ _ : St → Prop, _; intro K hK)
     exact loop_end (y, x % y) ⟨by rw [← hg]; simp only; rw [Nat.gcd_comm x y, Nat.gcd_rec y x, Nat.gcd_comm], hy, by have := digs_le (a := x % y) (b := y) (by omega); dsimp only; omega⟩ hlt (by exact leGo trivial)
theorem rdiv_c (a g c : Int) (hg : 0 < g) (h : a = g * c) (la : (szZ a : Int) ≤ 549755813888) (lg : (szZ g : Int) ≤ 549755813888) : Contract Tryz.prog 149 [encB (ofZ a), encB (ofZ g)] (.tup [encB (ofZ c), encB (ofZ 0), dI 0]) := by
 have hres := Tryz.results149
 have sa := rrightZ_c a (by omega)
 have sg := rrightZ_c g (by omega)
 have eA : ofZ a = ⟨a.sign, digs a.natAbs⟩ := rfl
 have eG : ofZ g = ⟨1, digs g.natAbs⟩ := by rw [ofZ, Int.sign_eq_one_of_pos hg]
 have ha : (szZ a : Int) = (digs a.natAbs).length := rfl
 have hb : (szZ g : Int) = (digs g.natAbs).length := rfl
 have ho := rover_c a.natAbs g.natAbs (by omega) (by omega) (by omega)
 have hn : a.natAbs = g.natAbs * c.natAbs := by rw [h, Int.natAbs_mul]
 have hq : a.natAbs / g.natAbs = c.natAbs := by rw [hn, Nat.mul_div_cancel_left _ (by omega)]
 have hr : a.natAbs % g.natAbs = 0 := by rw [hn, Nat.mul_mod_right]
 have hc : ((digs c.natAbs).length : Int) ≤ (digs a.natAbs).length := by
  have := digs_le (a := c.natAbs) (b := a.natAbs) (by rw [hn]; exact Nat.le_mul_of_pos_left _ (by omega))
  omega
 rw [hq, hr, digs_zero] at ho
 rw [eA] at sa
 rw [eG] at sg
 rw [eA, eG]
 have hs : a.sign = c.sign := by rw [h, Int.sign_mul, Int.sign_eq_one_of_pos hg, Int.one_mul]
 rw [hs] at sa ⊢
 have hm0 : Contract Tryz.prog 141 [dI c.sign, encInts []] (encB (ofZ 0)) := by
  have := rmade_c c.sign [] (by simp)
  rwa [show sgnd c.sign [] = ofZ 0 by rw [ofZ_zero]; rfl] at this
 have hm := rmadeZ_c c.sign c.natAbs c (Int.sign_mul_natAbs c).symm (by have := sign_cases c; omega) (by omega)
 rcases sign_cases c with ⟨h1, h2, h3⟩ | ⟨h1, h2, h3⟩ | ⟨h1, h2, h3⟩ <;> rw [h2] at sa hm hm0 ⊢
 all_goals
  refine Contract.ofA (CallA.inline Tryz.func149 rfl (by kernel_rfl) (by kernel_rfl) (by kernel_rfl) ?_)
  rw [Tryz.ntmps149]
  exact aGo hres trivial
end Go.Proofs.YtbnbpfjfkedbaaaGreat
