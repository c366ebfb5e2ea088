/-
  Layer 12: the law ConflictProved.
-/
import Derived.Test.YtbnbpfjfkedbaaaGreatPCwP
namespace Go.Proofs.YtbnbpfjfkedbaaaGreat
set_option linter.unusedVariables false
set_option linter.unusedSimpArgs false
set_option linter.unusedSectionVars false
open Go Go.RowKit
attribute [local go_sem] opsL_nil opsL_go opsL_guard gSel_tt gSel_ff gSel_tf gSel_ft stepR_some stepR_none callS_some callE_some runL_nil runL_go runL_guard gSelE_tt gSelE_ff gSelE_tf gSelE_ft stepE_some stepE_none opF callD rd constD putT upd_get guardL gOf_bool gOf_undef fieldAddrF fieldF loadF storeF indexAddrF indexF sliceF strSliceF bound buildF fillF buildSliceF elemsF allocF makeSliceF lenF elemsOf appendF minmaxF convertF boxF ldE blkAt spliceE D.cells? D.isCell Res.pure ov TyI.agg binD unD boolD initT thenA inBlockA argD argDs refsD refsL killW datJ datJs endA_ret endA_normal endR_some oneD_one oneD_two oneD_three oneD_four resDs resD fzT Value.oneCell' strip tabT tabM
attribute [local go_sem] List.map Nat.reduceEqDiff Nat.reduceBEq List.getElem?_cons_zero List.getElem?_cons_succ List.getElem?_nil Option.getD_some Option.getD_none true_and and_true true_or or_true false_or or_false and_self Nat.add_zero Nat.zero_add List.length_nil List.length_cons forall_const ite_true ite_false Bool.or_self Bool.false_eq_true Option.map_some Option.map_none beq_self_eq_true Nat.reduceAdd Nat.reduceSub Nat.reduceMul reduceCtorEq List.getElem?_toArray Bool.not_true Bool.not_false decide_eq_true_eq decide_true decide_false Nat.reduceLeDiff Nat.reduceLT Bool.or_false Bool.or_true Bool.and_true Bool.and_false Bool.false_and Bool.true_and Bool.true_beq Bool.false_beq beq_true beq_false Bool.not_eq_true List.drop_succ_cons List.take_succ_cons List.drop_zero List.take_zero List.length_map List.getElem?_map List.length_append List.all_cons List.all_nil List.append_nil List.nil_append List.cons_append List.set_cons_zero List.set_cons_succ Int.toNat_natCast Int.toNat_zero Option.isSome_some Option.isSome_none Array.size_empty ByteArray.size_empty Int.reduceToNat Int.reduceAdd Int.reduceSub Int.reduceLT Int.reduceLE Int.reduceEq Int.reduceNe Int.reduceBEq Int.reduceNeg List.forall_mem_cons List.not_mem_nil false_implies List.forall_mem_map implies_true Nat.reduceBNe Int.cast_ofNat_Int Int.reduceMul Int.reduceGE Int.reduceGT wrap_in ty_2 ty_3 ty_4 ty_5 ty_6 ty_7 ty_8 ty_9 ty_10 ty_11 ty_12 ty_13 ty_14 ty_18 ty_19 ty_21 ty_22 ty_23 ty_24 ty_25 ty_26 ty_27 ty_28 ty_29 ty_30 ty_35 ty_44 ty_45 ty_46 ty_67 ty_68 ty_71 ty_74 ty_75 ty_76 ty_77 ty_78 ty_79 ty_133 ty_134 ty_136 ty_137 ty_138 ty_139 ty_141 ty_142 ty_157 ty_158 ty_167 ty_168 ty_169 ty_170 ty_171 ty_173 ty_174 ty_175 ty_178 ty_179 ty_180 ty_181
set_option maxRecDepth 100000
set_option maxHeartbeats 32000000
def overK (l : List Nat) (z : Nat → Rat) (i n : Nat) : Rat := sumN n fun k => if l[k]? = some i then z k else 0
theorem over_zero {l : List Nat} (hp : l.Pairwise (· < ·)) {z : Nat → Rat} {i k : Nat} (h : l[k]? = some i) : ∀ n, n ≤ k → overK l z i n = 0
 | 0, _ => rfl
 | n + 1, hn => by
   have ih := over_zero hp (z := z) h n (by omega)
   have hne : l[n]? ≠ some i := fun e => by
    obtain ⟨a, b⟩ := List.getElem?_eq_some_iff.1 e
    obtain ⟨c, d⟩ := List.getElem?_eq_some_iff.1 h
    have := List.pairwise_iff_getElem.1 hp n k a c (by omega)
    omega
   unfold overK at ih ⊢
   simp only [sumN]
   rw [ih, if_neg hne]; grind
theorem over_hit {l : List Nat} (hp : l.Pairwise (· < ·)) {z : Nat → Rat} {i k : Nat} (h : l[k]? = some i) : overK l z i (k + 1) = z k := by
 have := over_zero hp (z := z) h k (Nat.le_refl _)
 unfold overK at this ⊢
 simp only [sumN]
 rw [this, if_pos h]; grind
theorem over_miss {l : List Nat} {z : Nat → Rat} {i k : Nat} (h : l[k]? ≠ some i) : overK l z i (k + 1) = overK l z i k := by
 unfold overK
 simp only [sumN]
 rw [if_neg h]; grind
theorem over_cases {l : List Nat} (hp : l.Pairwise (· < ·)) {z : Nat → Rat} {i : Nat} : ∀ n, overK l z i n = 0 ∨ ∃ k, k < n ∧ l[k]? = some i ∧ overK l z i n = z k
 | 0 => .inl rfl
 | n + 1 => by
   by_cases h : l[n]? = some i
   · exact .inr ⟨n, by omega, h, over_hit hp h⟩
   · rw [over_miss h]
     rcases over_cases hp n with e | ⟨k, a, b, d⟩
     · exact .inl e
     · exact .inr ⟨k, by omega, b, d⟩
theorem proved12_c (k0 : Contract Tryz.prog 18 [] (dB true)) (s : SysD) (y : List FracD) : Contract Tryz.prog 5 [encS s, encFs y] (dB true) := by
 have hres := Tryz.results5
 have q1 := few12_c s
 cases h1 : fewS s 5 8 4
 · rw [h1] at q1
   refine Contract.ofA (CallA.inline Tryz.func5 rfl (by kernel_rfl) (by kernel_rfl) (by kernel_rfl) ?_)
   rw [Tryz.ntmps5]
   exact aGo hres trivial
 rw [h1] at q1
 have q2 := lrightS_c s (few12_sm h1).sm
 cases h2 : rightS s
 · rw [h2] at q2
   refine Contract.ofA (CallA.inline Tryz.func5 rfl (by kernel_rfl) (by kernel_rfl) (by kernel_rfl) ?_)
   rw [Tryz.ntmps5]
   exact aGo hres trivial
 rw [h2] at q2
 have q3 := shorts9_c y 12 (by decide)
 cases h3 : fewP y 12 6
 · rw [h3] at q3
   refine Contract.ofA (CallA.inline Tryz.func5 rfl (by kernel_rfl) (by kernel_rfl) (by kernel_rfl) ?_)
   rw [Tryz.ntmps5]
   exact aGo hres trivial
 rw [h3] at q3
 have c : Conf s := ⟨h2, h1⟩
 obtain ⟨_, h8, _⟩ := few12_rows h1
 have q4 := conflict12_c s c
 have b00 : ((0 : Int) != 0) = false := rfl
 have b01 : ((0 : Int) == 0) = true := rfl
 cases hn : nsC s (List.range s.r.length)
 · have ec : confD s = [] := by unfold confD; rw [hn]; rfl
   rw [ec] at q4
   refine Contract.ofA (CallA.inline Tryz.func5 rfl (by kernel_rfl) (by kernel_rfl) (by kernel_rfl) ?_)
   rw [Tryz.ntmps5]
   exact aGo (cj3 hres b00 b01) trivial
 obtain ⟨e1, e2, e3, e4, e5⟩ := conf_facts c hn
 have hpw : (confD s).Pairwise (· < ·) := by rw [e1]; exact left_pair _ _ _
 have hused : ∀ (y : List FracD), refutesD s y = true → (∀ i f, y[i]? = some f → qOf f ≠ 0 → i ∈ confD s) → ∀ i ∈ confD s, ∃ f, y[i]? = some f ∧ qOf f ≠ 0 := fun y hr hy i hi => by
  rw [e1] at hy hi; exact all_used rfl hr hy hi
 obtain ⟨hl, hlt⟩ := asc_ints e3
 generalize confD s = C at *
 clear e1
 have hlen : ((ints C).length : Int) ≤ 1099511627776 := by simp [ints]; omega
 have hp := part_right c.r (rows := C) (by omega)
 have q5 := part12_c s (ints C) (few12_sm c.f) hlen
 rw [part12_ints c.r e3] at q5
 have q6 := solution_c (partD s C) (c.fit (L := C) (by omega))
 have hk := (nsC_least c.r (by omega)).1 e2
 rw [show solD (partD s C) = ([], (leastE (partD s C) []).y, false) by unfold solD; rw [hp, if_pos rfl, if_pos hk]] at q6
 have htn := c.tn (L := C) (by omega)
 have href : refutesD (partD s C) (leastE (partD s C) []).y = true := by
  rcases check_cases (least_check hp (right_nilT hp)) with ⟨h, _⟩ | ⟨_, h, _⟩ | ⟨h, _⟩
  · rw [hk] at h; exact absurd h (by decide)
  · exact h
  · rw [hk] at h; exact absurd h (by decide)
 have hyz : ∀ f ∈ (leastE (partD s C) []).y, szF f ≤ 262144 := fun f hf => by
  have := htn.2.2.1.2 f hf
  unfold tnF at this; omega
 generalize (leastE (partD s C) []).y = z at q6 href hyz
 have hlow : (lowerD (partD s C) [] z).2 = true := by
  simp only [refutesD, Bool.and_eq_true] at href; exact href.1
 obtain ⟨_, hzl, hzo, _⟩ := lower_iff.1 hlow
 rw [part_length hlt] at hzl
 obtain ⟨Z, eZ⟩ : ∃ Z : Nat → Rat, (fun (u : Nat) => atP z u) = Z := ⟨_, rfl⟩
 have ez : z = fracsOf C.length Z := by rw [← eZ, ← hzl]; exact list_fracs hzo
 have hzg : ∀ k, k < C.length → z[k]? = some (ofQ (Z k)) := fun k hk => by rw [ez]; exact fracs_get _ hk
 have hzs : ∀ k, k < C.length → szQ (Z k) ≤ 262144 := fun k hk => hyz _ (List.mem_of_getElem? (hzg k hk))
 obtain ⟨m, em⟩ : ∃ m, s.r.length = m := ⟨_, rfl⟩
 have hm : (s.r.length : Int) = m := by rw [em]
 obtain ⟨W, eW⟩ : ∃ W : Nat → Rat, overY C Z = W := ⟨_, rfl⟩
 have hW : ∀ i, W i = overK C Z i C.length := fun i => by rw [← eW]; rfl
 have hWs : ∀ i, szQ (W i) ≤ 262144 := fun i => by
  rw [hW]
  rcases over_cases hpw (z := Z) (i := i) C.length with e | ⟨k, a, _, e⟩
  · rw [e]; have := sz_0; omega
  · rw [e]; exact hzs k a
 have hWref : refutesD s (fracsOf m W) = true := by
  rw [ez] at href
  rw [← eW, ← em]; exact over_refutes c.r hlt (by omega) href
 have tS : tnS s := by
  have := (c.fit (L := List.range s.r.length) (by rw [List.length_range]; exact h8)).tn
  rwa [part_range] at this
 have ty : tnFs y := ⟨by have := (fewP_sz h3).1; omega, fun f hf => by have := (fewP_sz h3).2 f hf; unfold tnF; omega⟩
 have tW : tnFs (fracsOf m W) := tn_fracs (by omega) hWs
 have q7 := check12_c s (ints C) (fracsOf m W) tS tW hlen
 have hchk : check12 s (ints C) (fracsOf m W) = true := by
  unfold check12
  rw [hWref, e3, Bool.true_and, Bool.true_and, List.all_eq_true]
  intro i hi
  rw [List.mem_range, fracs_len] at hi
  unfold coverI zeroAt
  rw [fracs_get _ hi]
  simp only [Option.map_some, Option.getD_some, qOf_ofQ, Bool.or_eq_true, decide_eq_true_eq]
  rw [hW]
  rcases over_cases hpw (z := Z) (i := i) C.length with e | ⟨k, _, b, _⟩
  · exact .inl e
  · exact .inr (hasI_ints.2 (List.mem_of_getElem? b))
 rw [hchk] at q7
 have q8 := check12_c s (ints C) y tS ty hlen
 have hne : ((C.length : Int) == 0) = false := beq_eq_false_iff_ne.2 (fun h => e4 (List.eq_nil_of_length_eq_zero (by omega)))
 have hzc : ((z.length : Int) != C.length) = false := by rw [hzl]; simp
 have i0 := rint_c 0 (by decide) (by decide)
 have iz : ofQ ((0 : Int) : Rat) = ofQ 0 := rfl
 rw [iz] at i0
 obtain ⟨F, hF⟩ : ∃ F : Nat → List FracD, F = fun n => fracsOf n W := ⟨_, rfl⟩
 have F0 : F 0 = [] := by rw [hF]; rfl
 have Fs : ∀ n, F (n + 1) = F n ++ [ofQ (W n)] := fun n => by rw [hF]; simp only [fracsOf, List.range_succ, List.map_append]; rfl
 have Fl : ∀ n, (F n).length = n := fun n => by rw [hF]; exact fracs_len _ _
 have Fm : fracsOf m W = F m := by rw [hF]
 rw [Fm] at q7
 refine Contract.ofA (CallA.inline Tryz.func5 rfl (by kernel_rfl) (by kernel_rfl) (by kernel_rfl) ?_)
 rw [Tryz.ntmps5]
 refine aGo (cj4 hres b00 hne hzc) ?_
 repeat (guard_target =~ ∀ _ : St → Prop, _; intro K hK)
 clear k0 q1 q2 q3 q4 q5 q6
 refine aLoopT (fun (i : Nat) => [(1, encFs y), (2, .lp 0 0 0 0), (5, dB true), (6, encInts (ints C)), (9, encFs z), (11, .ls 1 i), (12, dI i)]) (fun i => [(0, ⟨46, 0, 2, [cS s], 0, false⟩), (1, ⟨28, i, 4, (F i).map cF, 0, false⟩)]) 2 0 (fun i => i ≤ m) (fun i => m - i) 0 (by omega) ?_ ?_
 · exact leGo F0
 rintro i hi
 have hw : IntKind.i64.wrap ((i : Int) + 1) = (i : Int) + 1 := wrap_in (by omega) (by omega)
 have h0 : (0 : Int) ≤ i := by omega
 by_cases h4 : (i : Int) < m
 · have V0 : overK C Z i 0 = 0 := rfl
   refine aGo (cj3 hres hm h4) ?_
   repeat (guard_target =~ ∀ _ : St → Prop, _; intro K hK)
   refine aLoopT (fun (k : Nat) => [(1, encFs y), (2, .lp 0 0 0 0), (5, dB true), (6, encInts (ints C)), (9, encFs z), (11, .ls 1 i), (12, dI i), (13, .lp 2 0 0 0), (14, dI k)]) (fun k => [(0, ⟨46, 0, 2, [cS s], 0, false⟩), (1, ⟨28, i, 4, (F i).map cF, 0, false⟩), (2, ⟨28, 0, 4, [cF (ofQ (overK C Z i k))], 0, false⟩)]) 3 0 (fun k => k ≤ C.length) (fun k => C.length - k) 0 (by omega) ?_ ?_
   · exact leGo V0
   rintro k hk
   have hwk : IntKind.i64.wrap ((k : Int) + 1) = (k : Int) + 1 := wrap_in (by omega) (by omega)
   have k1 : (0 : Int) ≤ k := by omega
   by_cases h5 : (k : Int) < C.length
   · obtain ⟨j, hj⟩ : ∃ e, C[k]? = some e := ⟨_, List.getElem?_eq_getElem (by omega)⟩
     have hz := hzg k (by omega)
     have h5z : (k : Int) < z.length := by omega
     by_cases h6 : j = i
     · subst h6
       have V1 := over_hit hpw (z := Z) hj
       have e6 : ((j : Int) == j) = true := by simp
       refine aGo (cj4 hres k1 h5 (cj4 h5z hj hz (cj2 hwk e6))) ?_
       repeat (guard_target =~ ∀ _ : St → Prop, _; intro K hK)
       exact loop_end (k + 1) (by omega) (by omega) (by exact leGo V1)
     · have V1 := over_miss (z := Z) (l := C) (i := i) (k := k) (by rw [hj]; exact fun e => h6 (by simpa using e))
       have e6 : ((j : Int) == i) = false := beq_eq_false_iff_ne.2 (fun h => h6 (by exact_mod_cast h))
       refine aGo (cj4 hres k1 h5 (cj3 hj hwk e6)) ?_
       repeat (guard_target =~ ∀ _ : St → Prop, _; intro K hK)
       exact loop_end (k + 1) (by omega) (by omega) (by exact leGo V1)
   obtain rfl : k = C.length := by omega
   have F1 := Fs i
   rw [hW i] at F1
   have F2 := Fl i
   have himax : (i : Int) ≤ 8 := by omega
   refine aGo (cj4 hres h5 hw (cj2 F2 himax)) ?_
   repeat (guard_target =~ ∀ _ : St → Prop, _; intro K hK)
   exact loop_end (i + 1) (by omega) (by omega) (by exact leGo F1)
 obtain rfl : i = m := by omega
 have hdat : List.map (List.map datJ) ((F i).map cF) = (F i).map cF := map_map_id (fun _ => rfl) _
 cases h5 : check12 s (ints C) y
 · rw [h5] at q8
   exact aGo (cj4 hres hm h4 hdat) trivial
 rw [h5] at q8
 simp only [check12, Bool.and_eq_true] at h5
 obtain ⟨g1, _, g3⟩ := h5
 have hylow : (lowerD s [] y).2 = true := by
  simp only [refutesD, Bool.and_eq_true] at g1; exact g1.1
 obtain ⟨_, hyl, hyo, _⟩ := lower_iff.1 hylow
 have hin : ∀ i f, y[i]? = some f → qOf f ≠ 0 → i ∈ C := fun i f hf h => by
  have := List.all_eq_true.1 g3 i (List.mem_range.2 (List.getElem?_eq_some_iff.1 hf).1)
  simp only [coverI, zeroAt, hf, Option.map_some, Option.getD_some, Bool.or_eq_true, decide_eq_true_eq] at this
  rcases this with h' | h'
  · exact absurd h' h
  · exact hasI_ints.1 h'
 have hout := hused y g1 hin
 have hyi : ((y.length : Int) == i) = true := by rw [beq_iff_eq]; omega
 refine aGo (cj4 hres hm h4 hdat) ?_
 repeat (guard_target =~ ∀ _ : St → Prop, _; intro K hK)
 clear q7 q8
 refine aLoopT (fun (k : Nat) => [(1, encFs y), (2, .lp 0 0 0 0), (5, dB true), (6, encInts (ints C)), (15, dI k)]) (fun _ => [(0, ⟨46, 0, 2, [cS s], 0, false⟩)]) 1 0 (fun k => k ≤ y.length) (fun k => y.length - k) 0 (by omega) ?_ ?_
 · exact leGo trivial
 rintro k hk
 have hwk : IntKind.i64.wrap ((k : Int) + 1) = (k : Int) + 1 := wrap_in (by omega) (by omega)
 have k1 : (0 : Int) ≤ k := by omega
 by_cases h6 : (k : Int) < y.length
 · obtain ⟨f, hf⟩ : ∃ e, y[k]? = some e := ⟨_, List.getElem?_eq_getElem (by omega)⟩
   have of := List.all_eq_true.1 hyo f (mem_at hf)
   have zf := ty.2 f (mem_at hf)
   unfold tnF at zf
   have q1 := has12_c (ints C) k hlen
   have q2 := fsign_c f (by omega)
   have hsg : sgnD f = 0 ↔ qOf f = 0 := by
    obtain ⟨q, rfl⟩ : ∃ q, f = ofQ q := ⟨_, okF_eq of⟩
    rw [sgnD_ofQ, qOf_ofQ]; exact sgQ_zero
   cases h7 : hasI (ints C) k
   · rw [h7] at q1
     have hz0 : qOf f = 0 := by
      by_cases hq : qOf f = 0
      · exact hq
      · rw [hasI_ints.2 (hin k f hf hq)] at h7; cases h7
     have e8 : (sgnD f != 0) = false := by simp [hsg.2 hz0]
     refine aGo (cj4 hres k1 h6 (cj3 hf hwk e8)) ?_
     repeat (guard_target =~ ∀ _ : St → Prop, _; intro K hK)
     exact loop_end (k + 1) (by omega) (by omega) (by exact leGo trivial)
   · rw [h7] at q1
     have hnz : qOf f ≠ 0 := by
      obtain ⟨f', hf', hq⟩ := hout k (hasI_ints.1 h7)
      rw [hf] at hf'
      cases hf'; exact hq
     have e8 : (sgnD f != 0) = true := by simp; exact fun h => hnz (hsg.1 h)
     refine aGo (cj4 hres k1 h6 (cj3 hf hwk e8)) ?_
     repeat (guard_target =~ ∀ _ : St → Prop, _; intro K hK)
     exact loop_end (k + 1) (by omega) (by omega) (by exact leGo trivial)
 · exact aGo (cj4 hres hm h6 hyi) trivial
end Go.Proofs.YtbnbpfjfkedbaaaGreat
