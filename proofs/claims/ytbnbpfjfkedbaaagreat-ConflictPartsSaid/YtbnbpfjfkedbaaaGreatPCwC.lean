/-
  Layer 12: small ints as the reference's fractions: nothing is asked of blocks of ints.
-/
import Derived.Test.YtbnbpfjfkedbaaaGreatPRefB
import Derived.Test.YtbnbpfjfkedbaaaGreatPCwB
import Derived.Test.YtbnbpfjfkedbaaaGreatPDualX
namespace Go.Proofs.YtbnbpfjfkedbaaaGreat
set_option linter.unusedVariables false
set_option linter.unusedSimpArgs false
set_option linter.unusedSectionVars false
open Go Go.RowKit
attribute [local go_sem] opsL_nil opsL_go opsL_guard gSel_tt gSel_ff gSel_tf gSel_ft stepR_some stepR_none callS_some callE_some runL_nil runL_go runL_guard gSelE_tt gSelE_ff gSelE_tf gSelE_ft stepE_some stepE_none opF callD rd constD putT upd_get guardL gOf_bool gOf_undef fieldAddrF fieldF loadF storeF indexAddrF indexF sliceF strSliceF bound buildF fillF buildSliceF elemsF allocF makeSliceF lenF elemsOf appendF minmaxF convertF boxF ldE blkAt spliceE D.cells? D.isCell Res.pure ov TyI.agg binD unD boolD initT thenA inBlockA argD argDs refsD refsL killW datJ datJs endA_ret endA_normal endR_some oneD_one oneD_two oneD_three oneD_four resDs resD fzT Value.oneCell' strip tabT tabM
attribute [local go_sem] List.map Nat.reduceEqDiff Nat.reduceBEq List.getElem?_cons_zero List.getElem?_cons_succ List.getElem?_nil Option.getD_some Option.getD_none true_and and_true true_or or_true false_or or_false and_self Nat.add_zero Nat.zero_add List.length_nil List.length_cons forall_const ite_true ite_false Bool.or_self Bool.false_eq_true Option.map_some Option.map_none beq_self_eq_true Nat.reduceAdd Nat.reduceSub Nat.reduceMul reduceCtorEq List.getElem?_toArray Bool.not_true Bool.not_false decide_eq_true_eq decide_true decide_false Nat.reduceLeDiff Nat.reduceLT Bool.or_false Bool.or_true Bool.and_true Bool.and_false Bool.false_and Bool.true_and Bool.true_beq Bool.false_beq beq_true beq_false Bool.not_eq_true List.drop_succ_cons List.take_succ_cons List.drop_zero List.take_zero List.length_map List.getElem?_map List.length_append List.all_cons List.all_nil List.append_nil List.nil_append List.cons_append List.set_cons_zero List.set_cons_succ Int.toNat_natCast Int.toNat_zero Option.isSome_some Option.isSome_none Array.size_empty ByteArray.size_empty Int.reduceToNat Int.reduceAdd Int.reduceSub Int.reduceLT Int.reduceLE Int.reduceEq Int.reduceNe Int.reduceBEq Int.reduceNeg List.forall_mem_cons List.not_mem_nil false_implies List.forall_mem_map implies_true Nat.reduceBNe Int.cast_ofNat_Int Int.reduceMul Int.reduceGE Int.reduceGT wrap_in ty_2 ty_3 ty_4 ty_5 ty_6 ty_7 ty_8 ty_9 ty_10 ty_11 ty_12 ty_13 ty_14 ty_18 ty_19 ty_21 ty_22 ty_23 ty_24 ty_25 ty_26 ty_27 ty_28 ty_29 ty_30 ty_35 ty_44 ty_45 ty_46 ty_67 ty_68 ty_71 ty_74 ty_75 ty_76 ty_77 ty_78 ty_79 ty_133 ty_134 ty_136 ty_137 ty_138 ty_139 ty_141 ty_142 ty_157 ty_158 ty_167 ty_168 ty_169 ty_170 ty_171 ty_173 ty_174 ty_175 ty_178 ty_179 ty_180 ty_181
set_option maxRecDepth 100000
set_option maxHeartbeats 8000000
theorem rmadeN (s : Int) (l : List Int) (hl : (l.length : Int) ≤ 8796093022208) : ContractN Tryz.prog 141 [dI s, encInts l] (encB (sgnd s l)) := by
 have hres := Tryz.results141
 have k1 := rtrim_c l hl
 have hsg : sgnd s l = if trimL l = [] then ⟨0, []⟩ else ⟨s, trimL l⟩ := by
  unfold sgnd
  rcases h : trimL l with _ | ⟨a, t⟩ <;> simp [zB]
 rw [hsg]
 by_cases h : trimL l = []
 · rw [h] at k1
   rw [if_pos h]
   refine ContractN.ofA fun I => (CallA.inline Tryz.func141 rfl (by kernel_rfl) (by kernel_rfl) (by kernel_rfl) ?_)
   rw [Tryz.ntmps141]
   refine aGo hres ?_
   repeat (guard_target =~ ∀ _ : St → Prop, _; intro K hK)
   rfl
 · rw [if_neg h]
   have h0 : ((trimL l).length : Int) ≠ 0 := fun e => h (List.eq_nil_of_length_eq_zero (by omega))
   have h1 : (((trimL l).length : Int) == 0) = false := beq_eq_false_iff_ne.2 h0
   generalize trimL l = t at *
   refine ContractN.ofA fun I => (CallA.inline Tryz.func141 rfl (by kernel_rfl) (by kernel_rfl) (by kernel_rfl) ?_)
   rw [Tryz.ntmps141]
   exact aGo (cj2 hres h1) trivial
theorem rmadeZN (s : Int) (n : Nat) (z : Int) (h : z = s * n) (hs : s = 1 ∨ s = -1 ∨ n = 0) (hl : ((digs n).length : Int) ≤ 8796093022208) : ContractN Tryz.prog 141 [dI s, encInts (digs n)] (encB (ofZ z)) := by
 have := rmadeN s (digs n) hl
 rwa [sgnd_digs z h hs] at this
theorem rgcdN (a b : Int) (la : (szZ a : Int) ≤ 549755813888) (lb : (szZ b : Int) ≤ 549755813888) : ContractN Tryz.prog 104 [encB (ofZ a), encB (ofZ b)] (.tup [encB (ofZ (Nat.gcd a.natAbs b.natAbs)), dI 0]) := by
 refine ContractN.ofA fun I => (CallA.inline Tryz.func104 rfl (by kernel_rfl) (by kernel_rfl) (by kernel_rfl) ?_)
 rw [Tryz.ntmps104]
 have hres := Tryz.results104
 have sa := rrightZ_c a (by omega)
 have sb := rrightZ_c b (by omega)
 have ea : (ofZ a).s = a.sign := rfl
 have eb : (ofZ b).s = b.sign := rfl
 have da : (ofZ a).d = digs a.natAbs := rfl
 have db : (ofZ b).d = digs b.natAbs := rfl
 have ha : (szZ a : Int) = (digs a.natAbs).length := rfl
 have hb : (szZ b : Int) = (digs b.natAbs).length := rfl
 refine aGo (cj4 hres ea eb (cj2 da db)) ?_
 repeat (guard_target =~ ∀ _ : St → Prop, _; intro K hK)
 refine aLoopT (fun (p : Nat × Nat) => [(4, .lp 2 0 0 0), (6, encInts (digs p.1)), (7, encInts (digs p.2))]) (fun _ => [(2, ⟨26, 0, 2, [[dI 0, .nil]], 0, false⟩)]) 3 0 (fun p => Nat.gcd p.1 p.2 = Nat.gcd a.natAbs b.natAbs ∧ ((digs p.1).length : Int) ≤ 549755813888 ∧ ((digs p.2).length : Int) ≤ 549755813888) (fun p => p.2) (a.natAbs, b.natAbs) ⟨rfl, by rw [← ha]; exact la, by rw [← hb]; exact lb⟩ ?_ ?_
 · exact leGo trivial
 · rintro ⟨x, y⟩ ⟨hg, hx, hy⟩
   dsimp only at hg hx hy
   by_cases h0 : y = 0
   · subst h0
     have hgx : Nat.gcd a.natAbs b.natAbs = x := by rw [← hg]; simp
     have h1 : ¬ ((digs 0).length : Int) > 0 := by rw [digs_zero]; simp
     have hm := rmadeZN 1 x x (by omega) (by omega) (by omega)
     refine aGo (cj2 hres h1) ?_
     repeat (guard_target =~ ∀ _ : St → Prop, _; intro K hK)
     rw [hgx]
   · have h1 : ((digs y).length : Int) > 0 := by
       have : digs y ≠ [] := fun h => h0 (digs_nil_iff.1 h)
       have := List.length_pos_iff.2 this
       omega
     have ho := rover_c x y (by omega) (by omega) (by omega)
     have hlt : x % y < y := Nat.mod_lt _ (by omega)
     refine aGo (cj2 hres h1) ?_
     repeat (guard_target =~ ∀ _ : St → Prop, _; intro K hK)
     exact loop_end (y, x % y) ⟨by rw [← hg]; simp only; rw [Nat.gcd_comm x y, Nat.gcd_rec y x, Nat.gcd_comm], hy, by have := digs_le (a := x % y) (b := y) (by omega); dsimp only; omega⟩ hlt (by exact leGo trivial)
theorem rdivN (a g c : Int) (hg : 0 < g) (h : a = g * c) (la : (szZ a : Int) ≤ 549755813888) (lg : (szZ g : Int) ≤ 549755813888) : ContractN Tryz.prog 149 [encB (ofZ a), encB (ofZ g)] (.tup [encB (ofZ c), encB (ofZ 0), dI 0]) := by
 have hres := Tryz.results149
 have sa := rrightZ_c a (by omega)
 have sg := rrightZ_c g (by omega)
 have eA : ofZ a = ⟨a.sign, digs a.natAbs⟩ := rfl
 have eG : ofZ g = ⟨1, digs g.natAbs⟩ := by rw [ofZ, Int.sign_eq_one_of_pos hg]
 have ha : (szZ a : Int) = (digs a.natAbs).length := rfl
 have hb : (szZ g : Int) = (digs g.natAbs).length := rfl
 have ho := rover_c a.natAbs g.natAbs (by omega) (by omega) (by omega)
 have hn : a.natAbs = g.natAbs * c.natAbs := by rw [h, Int.natAbs_mul]
 have hq : a.natAbs / g.natAbs = c.natAbs := by rw [hn, Nat.mul_div_cancel_left _ (by omega)]
 have hr : a.natAbs % g.natAbs = 0 := by rw [hn, Nat.mul_mod_right]
 have hc : ((digs c.natAbs).length : Int) ≤ (digs a.natAbs).length := by
  have := digs_le (a := c.natAbs) (b := a.natAbs) (by rw [hn]; exact Nat.le_mul_of_pos_left _ (by omega))
  omega
 rw [hq, hr, digs_zero] at ho
 rw [eA] at sa
 rw [eG] at sg
 rw [eA, eG]
 have hs : a.sign = c.sign := by rw [h, Int.sign_mul, Int.sign_eq_one_of_pos hg, Int.one_mul]
 rw [hs] at sa ⊢
 have hm0 : ContractN Tryz.prog 141 [dI c.sign, encInts []] (encB (ofZ 0)) := by
  have := rmadeN c.sign [] (by simp)
  rwa [show sgnd c.sign [] = ofZ 0 by rw [ofZ_zero]; rfl] at this
 have hm := rmadeZN c.sign c.natAbs c (Int.sign_mul_natAbs c).symm (by have := sign_cases c; omega) (by omega)
 rcases sign_cases c with ⟨h1, h2, h3⟩ | ⟨h1, h2, h3⟩ | ⟨h1, h2, h3⟩ <;> rw [h2] at sa hm hm0 ⊢
 all_goals
  refine ContractN.ofA fun I => (CallA.inline Tryz.func149 rfl (by kernel_rfl) (by kernel_rfl) (by kernel_rfl) ?_)
  rw [Tryz.ntmps149]
  exact aGo hres trivial
theorem rnewN (p q : Int) (hpos : 0 < q) (lp : (szZ p : Int) ≤ 549755813888) (lq : (szZ q : Int) ≤ 549755813888) : ContractN Tryz.prog 118 [encB (ofZ p), encB (ofZ q)] (.tup [encF (ofQ (Rat.divInt p q)), dI 0]) := by
 have hres := Tryz.results118
 have h1 := rrightZ_c p (by omega)
 have h2 := rrightZ_c q (by omega)
 have eq : (ofZ q).s = q.sign := rfl
 have t1 : (q.sign == 0) = false := by rw [Int.sign_eq_one_of_pos hpos]; rfl
 have t2 : ¬ q.sign < 0 := by rw [Int.sign_eq_one_of_pos hpos]; decide
 obtain ⟨c, d, hpc, hqd, hof, hg0⟩ := divInt_parts (p := p) (q := q) (by omega)
 have hgc := rgcdN p q lp lq
 have lg : (szZ (Nat.gcd p.natAbs q.natAbs : Int) : Int) ≤ 549755813888 := by
  have : szZ (Nat.gcd p.natAbs q.natAbs : Int) ≤ szZ q := szZ_mono (Nat.gcd_le_right _ (by omega))
  omega
 have d1 := rdivN p (Nat.gcd p.natAbs q.natAbs) c hg0 hpc lp lg
 have d2 := rdivN q (Nat.gcd p.natAbs q.natAbs) d hg0 hqd lq lg
 rw [hof]
 clear hof hpc hqd hg0
 generalize Nat.gcd p.natAbs q.natAbs = G at *
 refine ContractN.ofA fun I => (CallA.inline Tryz.func118 rfl (by kernel_rfl) (by kernel_rfl) (by kernel_rfl) ?_)
 rw [Tryz.ntmps118]
 exact aGo (cj4 hres eq t1 t2) trivial
theorem rofiN (n : Int) (h1 : n = 0 ∨ n = 1 ∨ n = -1) : ContractN Tryz.prog 106 [dI n] (encB (ofZ n)) := by
 have hres := Tryz.results106
 have m1 := rmadeZN 1 1 1 rfl (.inl rfl) (by decide +kernel)
 have m2 := rmadeZN (-1) 1 (-1) rfl (.inr (.inl rfl)) (by decide +kernel)
 have d1 : digs 1 = [1] := by decide +kernel
 rw [d1] at m1 m2
 rcases h1 with rfl | rfl | rfl
 · refine ContractN.ofA fun I => (CallA.inline Tryz.func106 rfl (by kernel_rfl) (by kernel_rfl) (by kernel_rfl) ?_)
   rw [Tryz.ntmps106]
   refine aGo hres ?_
   repeat (guard_target =~ ∀ _ : St → Prop, _; intro K hK)
   rw [ofZ_zero]
   rfl
 · have b10 : ((1 : Int) != 0) = true := rfl
   have b00 : ((0 : Int) != 0) = false := rfl
   have t1 : (1 : Int).tmod 1048576 = 1 := rfl
   have q1 : (1 : Int).tdiv 1048576 = 0 := rfl
   have n0 : (1048576 : Int) ≠ 0 := by decide
   have w1 : IntKind.i64.wrap (0 - (1)) = -1 := rfl
   have w0 : IntKind.i64.wrap 0 = 0 := rfl
   obtain ⟨g, g0, g1⟩ : ∃ g : Nat → Int, g 0 = 1 ∧ g 1 = 0 := ⟨fun b => if b = 0 then 1 else 0, rfl, rfl⟩
   obtain ⟨e, e0, e1⟩ : ∃ e : Nat → List Int, e 0 = [] ∧ e 1 = [1] := ⟨fun b => if b = 0 then [] else [1], rfl, rfl⟩
   have e2 : (e 1).map (fun x => [dI x]) = [[dI 1]] := by rw [e1]; rfl
   have e3 : (e 0).map (fun x => [dI x]) = [] := by rw [e0]; rfl
   refine ContractN.ofA fun I => (CallA.inline Tryz.func106 rfl (by kernel_rfl) (by kernel_rfl) (by kernel_rfl) ?_)
   rw [Tryz.ntmps106]
   refine aGo (cj2 hres w1) ?_
   repeat (guard_target =~ ∀ _ : St → Prop, _; intro K hK)
   refine aLe (le_row 4 3 1 rfl) ?_
   refine aLoopT (fun (b : Nat) => [(0, dI (g b)), (2, .lp 0 0 0 0), (3, dI (1)), (4, .ls 1 b)]) (fun b => [(0, ⟨26, 0, 2, [[dI 0, .nil]], 0, false⟩), (1, ⟨3, b, 1, (e b).map fun x => [dI x], 0, false⟩)]) 2 0 (fun b => b = 0 ∨ b = 1) (fun b => 1 - b) 0 (.inl rfl) ?_ ?_
   · exact leGo (cj2 g0 e3)
   rintro b (rfl | rfl)
   · refine aGo (cj4 hres g0 e3 (cj4 b10 t1 q1 (cj2 n0 w1))) ?_
     repeat (guard_target =~ ∀ _ : St → Prop, _; intro K hK)
     exact loop_end 1 (.inr rfl) (by decide) (by exact leGo (cj2 g1 e2))
   · exact aGo (cj4 hres g1 e2 b00) trivial
 · have b10 : ((-1 : Int) != 0) = true := rfl
   have b00 : ((0 : Int) != 0) = false := rfl
   have t1 : (-1 : Int).tmod 1048576 = -1 := rfl
   have q1 : (-1 : Int).tdiv 1048576 = 0 := rfl
   have n0 : (1048576 : Int) ≠ 0 := by decide
   have w1 : IntKind.i64.wrap (0 - (-1)) = 1 := rfl
   have w0 : IntKind.i64.wrap 0 = 0 := rfl
   obtain ⟨g, g0, g1⟩ : ∃ g : Nat → Int, g 0 = -1 ∧ g 1 = 0 := ⟨fun b => if b = 0 then -1 else 0, rfl, rfl⟩
   obtain ⟨e, e0, e1⟩ : ∃ e : Nat → List Int, e 0 = [] ∧ e 1 = [1] := ⟨fun b => if b = 0 then [] else [1], rfl, rfl⟩
   have e2 : (e 1).map (fun x => [dI x]) = [[dI 1]] := by rw [e1]; rfl
   have e3 : (e 0).map (fun x => [dI x]) = [] := by rw [e0]; rfl
   refine ContractN.ofA fun I => (CallA.inline Tryz.func106 rfl (by kernel_rfl) (by kernel_rfl) (by kernel_rfl) ?_)
   rw [Tryz.ntmps106]
   refine aGo (cj2 hres w1) ?_
   repeat (guard_target =~ ∀ _ : St → Prop, _; intro K hK)
   refine aLe (le_row 4 3 1 rfl) ?_
   refine aLoopT (fun (b : Nat) => [(0, dI (g b)), (2, .lp 0 0 0 0), (3, dI (-1)), (4, .ls 1 b)]) (fun b => [(0, ⟨26, 0, 2, [[dI 0, .nil]], 0, false⟩), (1, ⟨3, b, 1, (e b).map fun x => [dI x], 0, false⟩)]) 2 0 (fun b => b = 0 ∨ b = 1) (fun b => 1 - b) 0 (.inl rfl) ?_ ?_
   · exact leGo (cj2 g0 e3)
   rintro b (rfl | rfl)
   · refine aGo (cj4 hres g0 e3 (cj4 b10 t1 q1 (cj2 n0 w1))) ?_
     repeat (guard_target =~ ∀ _ : St → Prop, _; intro K hK)
     exact loop_end 1 (.inr rfl) (by decide) (by exact leGo (cj2 g1 e2))
   · exact aGo (cj4 hres g1 e2 b00) trivial
theorem rofN (p : Int) (hp : p = 0 ∨ p = 1 ∨ p = -1) : ContractN Tryz.prog 75 [dI p, dI 1] (.tup [encF (ofQ (Rat.divInt p 1)), dI 0]) := by
 have hres := Tryz.results75
 have h1 := rofiN p hp
 have h2 := rofiN 1 (by decide)
 have hn := rnewN p 1 (by decide) (by have := szZ_i64 p (by omega) (by omega); omega) (by decide +kernel)
 refine ContractN.ofA fun I => (CallA.inline Tryz.func75 rfl (by kernel_rfl) (by kernel_rfl) (by kernel_rfl) ?_)
 rw [Tryz.ntmps75]
 exact aGo hres trivial
theorem rintN (n : Int) (hn : n = 0 ∨ n = 1 ∨ n = -1) : ContractN Tryz.prog 27 [dI n] (encF (ofQ (n : Rat))) := by
 have hres := Tryz.results27
 have h := rofN n hn
 rw [divInt_one] at h
 refine ContractN.ofA fun I => (CallA.inline Tryz.func27 rfl (by kernel_rfl) (by kernel_rfl) (by kernel_rfl) ?_)
 rw [Tryz.ntmps27]
 exact aGo hres trivial
set_option maxHeartbeats 16000000
theorem few12_c (s : SysD) : ContractN Tryz.prog 19 [encS s] (dB (fewS s 5 8 4)) := by
 refine Contract.toN ?_ rfl
 have hres := Tryz.results19
 have q1 := fewS_c s 5 8 4 (by decide) (by decide)
 refine Contract.ofA (CallA.inline Tryz.func19 rfl (by kernel_rfl) (by kernel_rfl) (by kernel_rfl) ?_)
 rw [Tryz.ntmps19]
 exact aGo hres trivial
theorem has12_c (l : List Int) (x : Int) (hl : (l.length : Int) ≤ 1099511627776) : ContractN Tryz.prog 22 [encInts l, dI x] (dB (hasI l x)) := by
 refine Contract.toN ?_ rfl
 refine Contract.ofA (CallA.inline Tryz.func22 rfl (by kernel_rfl) (by kernel_rfl) (by kernel_rfl) ?_)
 rw [Tryz.ntmps22]
 have hres := Tryz.results22
 refine aGo hres ?_
 repeat (guard_target =~ ∀ _ : St → Prop, _; intro K hK)
 refine aLoopT (fun (k : Nat) => [(0, encInts l), (1, dI x), (5, dI k)]) (fun _ => []) 0 0 (fun k => k ≤ l.length ∧ (l.take k).all (fun y => x != y) = true) (fun k => l.length - k) 0 ⟨by omega, rfl⟩ ?_ ?_
 · exact leGo trivial
 rintro k ⟨hk, hn⟩
 have hw : IntKind.i64.wrap ((k : Int) + 1) = (k : Int) + 1 := wrap_in (by omega) (by omega)
 have h0 : (0 : Int) ≤ k := by omega
 by_cases h1 : (k : Int) < l.length
 · obtain ⟨y, hx⟩ : ∃ e, l[k]? = some e := ⟨_, List.getElem?_eq_getElem (by omega)⟩
   cases h2 : (y == x)
   · refine aGo (cj4 hres h0 h1 (cj3 hx hw h2)) ?_
     repeat (guard_target =~ ∀ _ : St → Prop, _; intro K hK)
     have h3 : (fun y => x != y) y = true := by
      have : ¬ y = x := by simpa using h2
      simp; exact fun h => this h.symm
     exact loop_end (k + 1) ⟨by omega, all_take_succ hx hn h3⟩ (by omega) (by exact leGo trivial)
   · have h3 : y = x := by simpa using h2
     refine aGo (cj4 hres h0 h1 (cj3 hx hw h2)) ?_
     repeat (guard_target =~ ∀ _ : St → Prop, _; intro K hK)
     exact bool_eq (by unfold hasI; rw [all_not hx (by simp [h3])]; rfl)
 · refine aGo (cj2 hres h1) ?_
   repeat (guard_target =~ ∀ _ : St → Prop, _; intro K hK)
   rw [List.take_of_length_le (by omega)] at hn
   exact bool_eq (by unfold hasI; rw [hn]; rfl)
theorem asc_pre {rows : List Int} {n : Int} {k : Nat} (h : (List.range k).all (ascAt rows n) = true) : ∀ (j : Nat) (x : Int), j < k → rows[j]? = some x → (j : Int) ≤ x ∧ x < n
 | 0, x, hj, hx => by
   have := List.all_eq_true.1 h 0 (List.mem_range.2 hj)
   simp only [ascAt, prevI, hx, Option.getD_some, Bool.and_eq_true, decide_eq_true_eq] at this
   omega
 | j + 1, x, hj, hx => by
   have hk := (List.getElem?_eq_some_iff.1 hx).1
   obtain ⟨y, hy⟩ : ∃ e, rows[j]? = some e := ⟨_, List.getElem?_eq_getElem (by omega)⟩
   have ih := asc_pre h j y (by omega) hy
   have := List.all_eq_true.1 h (j + 1) (List.mem_range.2 hj)
   simp only [ascAt, prevI, hx, hy, Option.getD_some, Bool.and_eq_true, decide_eq_true_eq] at this
   push_cast
   omega
theorem list12_c (rows : List Int) (n : Int) (hn : n ≤ 1099511627776) : ContractN Tryz.prog 31 [encInts rows, dI n] (dB (ascR rows n)) := by
 refine Contract.toN ?_ rfl
 have hres := Tryz.results31
 refine Contract.ofA (CallA.inline Tryz.func31 rfl (by kernel_rfl) (by kernel_rfl) (by kernel_rfl) ?_)
 rw [Tryz.ntmps31]
 refine aGo hres ?_
 repeat (guard_target =~ ∀ _ : St → Prop, _; intro K hK)
 refine aLoopT (fun (k : Nat) => [(0, encInts rows), (1, dI n), (5, dI k)]) (fun _ => []) 0 0 (fun k => k ≤ rows.length ∧ (List.range k).all (ascAt rows n) = true ∧ -1 ≤ prevI rows k) (fun k => rows.length - k) 0 ⟨by omega, rfl, Int.le_refl _⟩ ?_ ?_
 · exact leGo trivial
 rintro k ⟨hk, hg, hp⟩
 have hkb : (k : Int) ≤ 1099511627776 := by
  rcases Nat.eq_zero_or_pos k with e | e
  · rw [e]; decide
  · obtain ⟨y, hy⟩ : ∃ e, rows[k - 1]? = some e := ⟨_, List.getElem?_eq_getElem (by omega)⟩
    have := asc_pre hg (k - 1) y (by omega) hy
    omega
 have hw : IntKind.i64.wrap ((k : Int) + 1) = (k : Int) + 1 := wrap_in (by omega) (by omega)
 have h0 : (0 : Int) ≤ k := by omega
 by_cases h1 : (k : Int) < rows.length
 · obtain ⟨x, hx⟩ : ∃ e, rows[k]? = some e := ⟨_, List.getElem?_eq_getElem (by omega)⟩
   have ea : ascAt rows n k = (decide (prevI rows k < x) && decide (x < n)) := by unfold ascAt; rw [hx]; rfl
   have bad : ascAt rows n k = false → D.v (.bool false) = dB (ascR rows n) := fun h => bool_eq (by
    unfold ascR
    exact (List.all_eq_false.2 ⟨k, List.mem_range.2 (by omega), by rw [h]; decide⟩).symm)
   have good : ascAt rows n k = true → (List.range (k + 1)).all (ascAt rows n) = true := fun h => by
    rw [List.range_succ, List.all_append, hg, Bool.true_and]
    simp only [List.all_cons, List.all_nil, Bool.and_true]; exact h
   have pn : prevI rows (k + 1) = x := by show rows[k]?.getD 0 = x; rw [hx]; rfl
   by_cases h2 : x < 0
   · refine aGo (cj4 hres h0 h1 (cj3 hx hw h2)) ?_
     repeat (guard_target =~ ∀ _ : St → Prop, _; intro K hK)
     exact bad (by rw [ea, decide_eq_false (by omega), Bool.false_and])
   by_cases h3 : x ≥ n
   · refine aGo (cj4 hres h0 h1 (cj4 hx hw h2 h3)) ?_
     repeat (guard_target =~ ∀ _ : St → Prop, _; intro K hK)
     exact bad (by rw [ea, decide_eq_false (p := x < n) (by omega), Bool.and_false])
   by_cases h4 : (k : Int) > 0
   rotate_left
   · have ek : prevI rows k = -1 := by
       obtain rfl : k = 0 := by omega
       rfl
     refine aGo (cj4 hres h0 h1 (cj4 hx hw h2 (cj2 h3 h4))) ?_
     repeat (guard_target =~ ∀ _ : St → Prop, _; intro K hK)
     exact loop_end (k + 1) ⟨by omega, good (by rw [ea, decide_eq_true (by omega), decide_eq_true (p := x < n) (by omega)]; rfl), by rw [pn]; omega⟩ (by omega) (by exact leGo trivial)
   obtain ⟨j, hj⟩ : ∃ j, k = j + 1 := ⟨k - 1, by omega⟩
   obtain ⟨y, hy⟩ : ∃ e, rows[j]? = some e := ⟨_, List.getElem?_eq_getElem (by omega)⟩
   have ep : prevI rows k = y := by rw [hj]; show rows[j]?.getD 0 = y; rw [hy]; rfl
   have hwj : IntKind.i64.wrap ((k : Int) - 1) = (j : Int) := (wrap_in (by omega) (by omega)).trans (by omega)
   have j0 : (0 : Int) ≤ j := by omega
   have j1 : (j : Int) < rows.length := by omega
   by_cases h5 : y ≥ x
   · refine aGo (cj4 hres h0 h1 (cj4 hx hw h2 (cj4 h3 h4 hy (cj4 hwj j0 j1 h5)))) ?_
     repeat (guard_target =~ ∀ _ : St → Prop, _; intro K hK)
     exact bad (by rw [ea, ep, decide_eq_false (by omega), Bool.false_and])
   · refine aGo (cj4 hres h0 h1 (cj4 hx hw h2 (cj4 h3 h4 hy (cj4 hwj j0 j1 h5)))) ?_
     repeat (guard_target =~ ∀ _ : St → Prop, _; intro K hK)
     exact loop_end (k + 1) ⟨by omega, good (by rw [ea, ep, decide_eq_true (by omega), decide_eq_true (p := x < n) (by omega)]; rfl), by rw [pn]; omega⟩ (by omega) (by exact leGo trivial)
 · obtain rfl : k = rows.length := by omega
   refine aGo (cj2 hres h1) ?_
   repeat (guard_target =~ ∀ _ : St → Prop, _; intro K hK)
   exact bool_eq hg.symm
theorem sameInts_c (a : List Int) (hl : (a.length : Int) ≤ 4096) : ContractN Tryz.prog 63 [encInts a, encInts a] (dB true) := by
 refine Contract.toN ?_ rfl
 have hres := Tryz.results63
 have h0 : ((a.length : Int) != a.length) = false := by simp
 refine Contract.ofA (CallA.inline Tryz.func63 rfl (by kernel_rfl) (by kernel_rfl) (by kernel_rfl) ?_)
 rw [Tryz.ntmps63]
 refine aGo (cj2 hres h0) ?_
 repeat (guard_target =~ ∀ _ : St → Prop, _; intro K hK)
 refine aLoopT (fun (k : Nat) => [(0, encInts a), (1, encInts a), (5, dI k)]) (fun _ => []) 0 0 (fun k => k ≤ a.length) (fun k => a.length - k) 0 (by omega) ?_ ?_
 · exact leGo trivial
 rintro k hk
 have hw : IntKind.i64.wrap ((k : Int) + 1) = (k : Int) + 1 := wrap_in (by omega) (by omega)
 have k0 : (0 : Int) ≤ k := by omega
 by_cases h1 : (k : Int) < a.length
 · obtain ⟨x, hx⟩ : ∃ e, a[k]? = some e := ⟨_, List.getElem?_eq_getElem (by omega)⟩
   have e2 : (x != x) = false := by simp
   refine aGo (cj4 hres k0 h1 (cj3 hx hw e2)) ?_
   repeat (guard_target =~ ∀ _ : St → Prop, _; intro K hK)
   exact loop_end (k + 1) (by omega) (by omega) (by exact leGo trivial)
 · exact aGo (cj2 hres h1) trivial
def rowX (k n : Int) : RowD := ⟨[⟨0, ofQ ((1 : Int) : Rat)⟩], k, ofQ (n : Rat)⟩
theorem row12_c (k n : Int) (h1 : -1000 ≤ n) (h2 : n ≤ 1000) : Contract Tryz.prog 62 [dI k, dI n] (encW (rowX k n)) := by
 have hres := Tryz.results62
 have k1 := rint_c 1 (by decide) (by decide)
 have k2 := rint_c n (by omega) (by omega)
 refine Contract.ofA (CallA.inline Tryz.func62 rfl (by kernel_rfl) (by kernel_rfl) (by kernel_rfl) ?_)
 rw [Tryz.ntmps62]
 refine aGo hres ?_
 repeat (guard_target =~ ∀ _ : St → Prop, _; intro K hK)
 rfl
def listX (a b c d : Int) : List FracD := [ofQ (a : Rat), ofQ (b : Rat), ofQ (c : Rat), ofQ (d : Rat)]
theorem listX_c (a b c d : Int) (ha : -1000 ≤ a ∧ a ≤ 1000) (hb : -1000 ≤ b ∧ b ≤ 1000) (hc : -1000 ≤ c ∧ c ≤ 1000) (hd : -1000 ≤ d ∧ d ≤ 1000) : Contract Tryz.prog 64 [dI a, dI b, dI c, dI d] (encFs (listX a b c d)) := by
 have hres := Tryz.results64
 have k1 := rint_c a (by omega) (by omega)
 have k2 := rint_c b (by omega) (by omega)
 have k3 := rint_c c (by omega) (by omega)
 have k4 := rint_c d (by omega) (by omega)
 refine Contract.ofA (CallA.inline Tryz.func64 rfl (by kernel_rfl) (by kernel_rfl) (by kernel_rfl) ?_)
 rw [Tryz.ntmps64]
 refine aGo hres ?_
 repeat (guard_target =~ ∀ _ : St → Prop, _; intro K hK)
 rfl
def one12 (n : Int) : Prop := n = 0 ∨ n = 1 ∨ n = -1
theorem listXN (a b c d : Int) (ha : one12 a) (hb : one12 b) (hc : one12 c) (hd : one12 d) : ContractN Tryz.prog 64 [dI a, dI b, dI c, dI d] (encFs (listX a b c d)) := by
 have hres := Tryz.results64
 have k1 := rintN a ha
 have k2 := rintN b hb
 have k3 := rintN c hc
 have k4 := rintN d hd
 refine ContractN.ofA fun I => (CallA.inline Tryz.func64 rfl (by kernel_rfl) (by kernel_rfl) (by kernel_rfl) ?_)
 rw [Tryz.ntmps64]
 refine aGo hres ?_
 repeat (guard_target =~ ∀ _ : St → Prop, _; intro K hK)
 rfl
def sysX : SysD := ⟨1, [rowX 0 1, rowX 1 5, rowX 0 6, rowX 1 0]⟩
def sysY : SysD := ⟨1, [rowX 0 1, rowX 1 5]⟩
theorem confX : Conf sysX := ⟨by decide +kernel, by decide +kernel⟩
theorem confY : Conf sysY := ⟨by decide +kernel, by decide +kernel⟩
theorem nsX (L : List Nat) (hl : L.length ≤ 6000) {y : List FracD} (h : refutesD (partD sysX L) y = true) : nsC sysX L = true := (nsC_part confX.r hl).2 fun _ => refutes_no h
theorem nsN {s : SysD} (hs : rightS s = true) (L : List Nat) (hl : L.length ≤ 6000) {x : List FracD} (h : holdsS (partD s L) x = true) : nsC s L = false := by
 cases hn : nsC s L with
 | false => rfl
 | true => rw [(nsC_part hs hl).1 hn x] at h; cases h
theorem x23 : nsC sysX [2, 3] = true := nsX [2, 3] (by decide) (y := [ofQ 1, ofQ (-1)]) (by decide +kernel)
theorem x123 : nsC sysX [1, 2, 3] = true := nsC_mono sysX [2, 3] _ (by decide) x23
theorem x0123 : nsC sysX [0, 1, 2, 3] = true := nsC_mono sysX [2, 3] _ (by decide) x23
theorem x3 : nsC sysX [3] = false := nsN confX.r [3] (by decide) (x := [ofQ 0]) (by decide +kernel)
theorem x2 : nsC sysX [2] = false := nsN confX.r [2] (by decide) (x := [ofQ 6]) (by decide +kernel)
theorem y01 : nsC sysY [0, 1] = false := nsN confY.r [0, 1] (by decide) (x := [ofQ 1]) (by decide +kernel)
theorem confX_is : confD sysX = [2, 3] := by
 have l1 : leftC (nsC sysX) 4 1 = [1, 2, 3] := by show (if nsC sysX [1, 2, 3] then [1, 2, 3] else [0, 1, 2, 3]) = _; rw [x123]; rfl
 have l2 : leftC (nsC sysX) 4 2 = [2, 3] := by
  show (if nsC sysX ((leftC (nsC sysX) 4 1).filter fun k => k != 1) then (leftC (nsC sysX) 4 1).filter fun k => k != 1 else leftC (nsC sysX) 4 1) = _
  rw [l1]
  show (if nsC sysX [2, 3] then [2, 3] else [1, 2, 3]) = _
  rw [x23]; rfl
 have l3 : leftC (nsC sysX) 4 3 = [2, 3] := by
  show (if nsC sysX ((leftC (nsC sysX) 4 2).filter fun k => k != 2) then (leftC (nsC sysX) 4 2).filter fun k => k != 2 else leftC (nsC sysX) 4 2) = _
  rw [l2]
  show (if nsC sysX [3] then [3] else [2, 3]) = _
  rw [x3]; rfl
 have l4 : leftC (nsC sysX) 4 4 = [2, 3] := by
  show (if nsC sysX ((leftC (nsC sysX) 4 3).filter fun k => k != 3) then (leftC (nsC sysX) 4 3).filter fun k => k != 3 else leftC (nsC sysX) 4 3) = _
  rw [l3]
  show (if nsC sysX [2] then [2] else [2, 3]) = _
  rw [x2]; rfl
 unfold confD
 rw [show List.range sysX.r.length = [0, 1, 2, 3] from rfl, x0123, if_pos rfl]
 exact l4
theorem confY_is : confD sysY = [] := by
 unfold confD
 rw [show List.range sysY.r.length = [0, 1] from rfl, y01]; rfl
theorem tnX : tnS sysX := (confX.fit (L := [0, 1, 2, 3]) (by decide)).tn
theorem tnL (a b c d : Int) (ha : -1000 ≤ a ∧ a ≤ 1000) (hb : -1000 ≤ b ∧ b ≤ 1000) (hc : -1000 ≤ c ∧ c ≤ 1000) (hd : -1000 ≤ d ∧ d ≤ 1000) : tnFs (listX a b c d) := by
 refine ⟨by simp [listX], fun f hf => ?_⟩
 have h : ∀ n : Int, -1000 ≤ n ∧ n ≤ 1000 → tnF (ofQ (n : Rat)) := fun n hn => by
  have := szQ_int n (by omega) (by omega)
  show (szQ (n : Rat) : Int) ≤ 262144
  omega
 simp only [listX, List.mem_cons, List.not_mem_nil, or_false] at hf
 rcases hf with rfl | rfl | rfl | rfl
 · exact h _ ha
 · exact h _ hb
 · exact h _ hc
 · exact h _ hd
theorem chkX (rows : List Int) (a b c d : Int) (ha : -1000 ≤ a ∧ a ≤ 1000) (hb : -1000 ≤ b ∧ b ≤ 1000) (hc : -1000 ≤ c ∧ c ≤ 1000) (hd : -1000 ≤ d ∧ d ≤ 1000) (hl : (rows.length : Int) ≤ 1099511627776) {v : Bool} (h : check12 sysX rows (listX a b c d) = v) : Contract Tryz.prog 28 [encS sysX, encInts rows, encFs (listX a b c d)] (dB v) := by
 rw [← h]; exact check12_c sysX rows _ tnX (tnL a b c d ha hb hc hd) hl
theorem small12_c : Contract Tryz.prog 18 [] (dB true) := by
 have hres := Tryz.results18
 have r1 := row12_c 0 1 (by decide) (by decide)
 have r2 := row12_c 1 5 (by decide) (by decide)
 have r3 := row12_c 0 6 (by decide) (by decide)
 have r4 := row12_c 1 0 (by decide) (by decide)
 have q1 := conflict12_c sysX confX
 rw [confX_is] at q1
 have q2 := conflict12_c sysY confY
 rw [confY_is] at q2
 have q3 := conflict12_no ⟨-1, []⟩ ⟨by decide, fun w hw => by cases hw⟩ (by decide +kernel)
 have q4 := sameInts_c [2, 3] (by decide)
 have q5 := part12_c sysX [2, 3] (few12_sm confX.f) (by decide)
 have e5 : part12 sysX [2, 3] = ⟨1, [rowX 0 6, rowX 1 0]⟩ := by
  unfold part12
  rw [confX.r, show ascR [2, 3] (sysX.r.length : Int) = true by decide +kernel]; rfl
 rw [e5] at q5
 have l1 := listX_c 0 0 1 (-1) (by decide) (by decide) (by decide) (by decide)
 have l2 := listXN 0 (-1) 1 0 (.inl rfl) (.inr (.inr rfl)) (.inr (.inl rfl)) (.inl rfl)
 have l3 := listX_c 0 (-1) 2 (-1) (by decide) (by decide) (by decide) (by decide)
 have c1 := chkX [2, 3] 0 0 1 (-1) (by decide) (by decide) (by decide) (by decide) (by decide) (v := true) (by decide +kernel)
 have c2 := chkX [2, 3] 0 (-1) 1 0 (by decide) (by decide) (by decide) (by decide) (by decide) (v := false) (by decide +kernel)
 have c3 := chkX [2, 3] 0 (-1) 2 (-1) (by decide) (by decide) (by decide) (by decide) (by decide) (v := false) (by decide +kernel)
 have c4 := chkX [1, 2] 0 (-1) 1 0 (by decide) (by decide) (by decide) (by decide) (by decide) (v := true) (by decide +kernel)
 have c5 := chkX [2, 1] 0 (-1) 1 0 (by decide) (by decide) (by decide) (by decide) (by decide) (v := false) (by decide +kernel)
 have b00 : ((0 : Int) != 0) = false := rfl
 have b11 : ((1 : Int) != 1) = false := rfl
 have b22 : ((2 : Int) != 2) = false := rfl
 refine Contract.ofA (CallA.inline Tryz.func18 rfl (by kernel_rfl) (by kernel_rfl) (by kernel_rfl) ?_)
 rw [Tryz.ntmps18]
 repeat ((fail_if_success (with_reducible refine at_region 2 ?_)); first
     | (refine hK _ ?_; clear hK; clear K)
     | (refine aSeq fun K hK => ?_)
     | (refine aBlock ?_)
     | (refine aSkip ?_)
     | (refine aExit ?_)
     | (refine aRet ?_)
     | (refine aOps _ rfl (by kernel_rfl) ?_)
     | (refine aRunK _ rfl mixed (by kernel_rfl) (by kernel_rfl) fun KE hE => ?_)
     | (refine hE _ _ (by kernel_rfl) (intsOk_no rfl) ?_; clear hE; clear KE)
     | (refine hE _ _ (by kernel_rfl) (intsOk_yes ?hi ?hj) ?_; (case hi => (repeat (refine intsDead_updB rfl ?_)); exact intsDead_nil); (case hj => simp); clear hE; clear KE)
     | (refine aCondT rfl ?hc ?_; case hc => simp only [go_sem, ↓reduceIte, hres])
     | (refine aCondF rfl ?hc ?_; case hc => simp only [go_sem, ↓reduceIte, hres])
     | (refine callT_of (r1) ?_ ?_; rotate_left; (repeat (refine intsDead_updB rfl ?_)); exact intsDead_nil)
     | (refine callT_ofN (r1) ?_)
     | (refine callU_of (r1) rfl ?_)
     | (refine callU_ofN (r1) rfl ?_)
     | (refine callT_of (r2) ?_ ?_; rotate_left; (repeat (refine intsDead_updB rfl ?_)); exact intsDead_nil)
     | (refine callT_ofN (r2) ?_)
     | (refine callU_of (r2) rfl ?_)
     | (refine callU_ofN (r2) rfl ?_)
     | (refine callT_of (r3) ?_ ?_; rotate_left; (repeat (refine intsDead_updB rfl ?_)); exact intsDead_nil)
     | (refine callT_ofN (r3) ?_)
     | (refine callU_of (r3) rfl ?_)
     | (refine callU_ofN (r3) rfl ?_)
     | (refine callT_of (r4) ?_ ?_; rotate_left; (repeat (refine intsDead_updB rfl ?_)); exact intsDead_nil)
     | (refine callT_ofN (r4) ?_)
     | (refine callU_of (r4) rfl ?_)
     | (refine callU_ofN (r4) rfl ?_)
     | (simp only [go_sem, ↓reduceIte, hres])
     | (refine And.intro ?ho ?_; (case ho => omega))
     | (clear hK; clear K))
 refine aLe (le_kill 0 rfl) (aLe (le_cells 1 4 rfl) ?_)
 simp only [go_sem, fzT]
 exact aGo (cj4 hres b00 b11 b22) trivial
end Go.Proofs.YtbnbpfjfkedbaaaGreat
