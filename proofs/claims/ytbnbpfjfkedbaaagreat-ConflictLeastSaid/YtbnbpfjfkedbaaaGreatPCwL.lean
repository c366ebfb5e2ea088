/-
  Layer 12: the laws ConflictLeast and ConflictOrder.
-/
import Derived.Test.YtbnbpfjfkedbaaaGreatPCwC
namespace Go.Proofs.YtbnbpfjfkedbaaaGreat
set_option linter.unusedVariables false
set_option linter.unusedSimpArgs false
set_option linter.unusedSectionVars false
open Go Go.RowKit
attribute [local go_sem] opsL_nil opsL_go opsL_guard gSel_tt gSel_ff gSel_tf gSel_ft stepR_some stepR_none callS_some callE_some runL_nil runL_go runL_guard gSelE_tt gSelE_ff gSelE_tf gSelE_ft stepE_some stepE_none opF callD rd constD putT upd_get guardL gOf_bool gOf_undef fieldAddrF fieldF loadF storeF indexAddrF indexF sliceF strSliceF bound buildF fillF buildSliceF elemsF allocF makeSliceF lenF elemsOf appendF minmaxF convertF boxF ldE blkAt spliceE D.cells? D.isCell Res.pure ov TyI.agg binD unD boolD initT thenA inBlockA argD argDs refsD refsL killW datJ datJs endA_ret endA_normal endR_some oneD_one oneD_two oneD_three oneD_four resDs resD fzT Value.oneCell' strip tabT tabM
attribute [local go_sem] List.map Nat.reduceEqDiff Nat.reduceBEq List.getElem?_cons_zero List.getElem?_cons_succ List.getElem?_nil Option.getD_some Option.getD_none true_and and_true true_or or_true false_or or_false and_self Nat.add_zero Nat.zero_add List.length_nil List.length_cons forall_const ite_true ite_false Bool.or_self Bool.false_eq_true Option.map_some Option.map_none beq_self_eq_true Nat.reduceAdd Nat.reduceSub Nat.reduceMul reduceCtorEq List.getElem?_toArray Bool.not_true Bool.not_false decide_eq_true_eq decide_true decide_false Nat.reduceLeDiff Nat.reduceLT Bool.or_false Bool.or_true Bool.and_true Bool.and_false Bool.false_and Bool.true_and Bool.true_beq Bool.false_beq beq_true beq_false Bool.not_eq_true List.drop_succ_cons List.take_succ_cons List.drop_zero List.take_zero List.length_map List.getElem?_map List.length_append List.all_cons List.all_nil List.append_nil List.nil_append List.cons_append List.set_cons_zero List.set_cons_succ Int.toNat_natCast Int.toNat_zero Option.isSome_some Option.isSome_none Array.size_empty ByteArray.size_empty Int.reduceToNat Int.reduceAdd Int.reduceSub Int.reduceLT Int.reduceLE Int.reduceEq Int.reduceNe Int.reduceBEq Int.reduceNeg List.forall_mem_cons List.not_mem_nil false_implies List.forall_mem_map implies_true Nat.reduceBNe Int.cast_ofNat_Int Int.reduceMul Int.reduceGE Int.reduceGT wrap_in ty_2 ty_3 ty_4 ty_5 ty_6 ty_7 ty_8 ty_9 ty_10 ty_11 ty_12 ty_13 ty_14 ty_18 ty_19 ty_21 ty_22 ty_23 ty_24 ty_25 ty_26 ty_27 ty_28 ty_29 ty_30 ty_35 ty_44 ty_45 ty_46 ty_67 ty_68 ty_71 ty_74 ty_75 ty_76 ty_77 ty_78 ty_79 ty_133 ty_134 ty_136 ty_137 ty_138 ty_139 ty_141 ty_142 ty_157 ty_158 ty_167 ty_168 ty_169 ty_170 ty_171 ty_173 ty_174 ty_175 ty_178 ty_179 ty_180 ty_181
set_option maxRecDepth 100000
set_option maxHeartbeats 32000000
theorem range_get (l : List RowD) : ∀ n : Nat, n ≤ l.length → (List.range n).filterMap (fun i => l[i]?) = l.take n
 | 0, _ => rfl
 | n + 1, h => by
   obtain ⟨x, hx⟩ : ∃ e, l[n]? = some e := ⟨_, List.getElem?_eq_getElem (by omega)⟩
   rw [List.range_succ, List.filterMap_append, range_get l n (by omega), List.take_add_one]
   simp [hx]
theorem part_range (s : SysD) : partD s (List.range s.r.length) = s := by
 obtain ⟨n, r⟩ := s
 unfold partD
 simp only
 rw [range_get r r.length (Nat.le_refl _), List.take_length]
theorem conf_facts {s : SysD} (c : Conf s) (hn : nsC s (List.range s.r.length) = true) : confD s = conflictC (nsC s) s.r.length ∧ nsC s (confD s) = true ∧ ascR (ints (confD s)) s.r.length = true ∧ confD s ≠ [] ∧ (confD s).length ≤ 8 := by
 have e : confD s = conflictC (nsC s) s.r.length := by unfold confD; rw [hn, if_pos rfl]
 have h1 : nsC s (confD s) = true := by rw [e]; exact leftC_ns hn _
 have h2 : ascR (ints (confD s)) s.r.length = true := by rw [e]; exact asc_of (left_pair _ _ _) fun i h => leftC_lt _ i h
 obtain ⟨_, h8, _⟩ := few12_rows c.f
 refine ⟨e, h1, h2, fun h => ?_, by have := (asc_ints h2).1; omega⟩
 rw [h, ns_nil c.r] at h1; cases h1
theorem least12_c (k0 : Contract Tryz.prog 18 [] (dB true)) (s : SysD) : Contract Tryz.prog 6 [encS s] (dB true) := by
 have hres := Tryz.results6
 have q1 := few12_c s
 cases h1 : fewS s 5 8 4
 · rw [h1] at q1
   refine Contract.ofA (CallA.inline Tryz.func6 rfl (by kernel_rfl) (by kernel_rfl) (by kernel_rfl) ?_)
   rw [Tryz.ntmps6]
   exact aGo hres trivial
 rw [h1] at q1
 have q2 := lrightS_c s (few12_sm h1).sm
 cases h2 : rightS s
 · rw [h2] at q2
   refine Contract.ofA (CallA.inline Tryz.func6 rfl (by kernel_rfl) (by kernel_rfl) (by kernel_rfl) ?_)
   rw [Tryz.ntmps6]
   exact aGo hres trivial
 rw [h2] at q2
 have c : Conf s := ⟨h2, h1⟩
 obtain ⟨_, h8, _⟩ := few12_rows h1
 have q3 := conflict12_c s c
 have q4 := solution_c s (by have := c.fit (L := List.range s.r.length) (by rw [List.length_range]; exact h8); rwa [part_range] at this)
 have hk := nsC_least c.r (rows := List.range s.r.length) (by rw [List.length_range]; omega)
 rw [part_range] at hk
 have tn := c.tn (L := List.range s.r.length) (by rw [List.length_range]; exact h8)
 rw [part_range] at tn
 have b00 : ((0 : Int) != 0) = false := rfl
 have b01 : ((0 : Int) == 0) = true := rfl
 cases hn : nsC s (List.range s.r.length)
 · have hk1 : (leastE s []).k ≠ 1 := fun h => by rw [hk.2 h] at hn; cases hn
   rw [show solD s = ((leastE s []).x, [], true) by unfold solD; rw [h2, if_pos rfl, if_neg hk1]] at q4
   have ec : confD s = [] := by unfold confD; rw [hn]; rfl
   rw [ec] at q3
   have hx : holdsS s (leastE s []).x = true := by
    rcases check_cases (least_check h2 (right_nilT h2)) with ⟨_, _, h, _⟩ | ⟨h, _⟩ | ⟨_, h, _⟩
    · exact h
    · exact absurd h hk1
    · exact h
   have q5 := lholds_c s (leastE s []).x (few12_sm h1).sm ⟨by have := tn.2.1.1; omega, fun f hf => by have := tn.2.1.2 f hf; unfold tnF at this; unfold smF; omega⟩
   rw [hx] at q5
   have q6 := list12_c [] s.r.length (by decide)
   rw [show ascR [] (s.r.length : Int) = true from rfl] at q6
   refine Contract.ofA (CallA.inline Tryz.func6 rfl (by kernel_rfl) (by kernel_rfl) (by kernel_rfl) ?_)
   rw [Tryz.ntmps6]
   exact aGo (cj3 hres b00 b01) trivial
 have hk1 := hk.1 hn
 rw [show solD s = ([], (leastE s []).y, false) by unfold solD; rw [h2, if_pos rfl, if_pos hk1]] at q4
 obtain ⟨e1, e2, e3, e4, e5⟩ := conf_facts c hn
 have q6 := list12_c (ints (confD s)) s.r.length (by simp [ints]; omega)
 rw [e3] at q6
 have q7 := solvable12_c s c (confD s) e3
 rw [e2] at q7
 have hlast : ∀ i ∈ confD s, nsC s ((confD s).filter fun k => k != i) = false := fun i hi => by
  rw [e1] at hi ⊢; exact least_conflict (nsC_mono s) hi
 have hasc : ∀ i, ascR (ints ((confD s).filter fun k => k != i)) s.r.length = true := fun i => by
  rw [e1]; exact asc_of ((left_pair _ _ _).filter _) fun j hj => leftC_lt _ j (List.mem_filter.1 hj).1
 generalize confD s = C at *
 have hne : ((C.length : Int) == 0) = false := beq_eq_false_iff_ne.2 (fun h => e4 (List.eq_nil_of_length_eq_zero (by omega)))
 refine Contract.ofA (CallA.inline Tryz.func6 rfl (by kernel_rfl) (by kernel_rfl) (by kernel_rfl) ?_)
 rw [Tryz.ntmps6]
 refine aGo (cj3 hres b00 hne) ?_
 repeat (guard_target =~ ∀ _ : St → Prop, _; intro K hK)
 clear k0 q1 q2 q3 q4 q6 q7
 refine aLoopT (fun (k : Nat) => [(1, .lp 0 0 0 0), (3, dB true), (4, encInts (ints C)), (9, dI k)]) (fun _ => [(0, ⟨46, 0, 2, [cS s], 0, false⟩)]) 1 0 (fun k => k ≤ C.length) (fun k => C.length - k) 0 (by omega) ?_ ?_
 · exact leGo trivial
 rintro k hk
 have hw : IntKind.i64.wrap ((k : Int) + 1) = (k : Int) + 1 := wrap_in (by omega) (by omega)
 have h0 : (0 : Int) ≤ k := by omega
 by_cases h3 : (k : Int) < C.length
 · obtain ⟨i, hi⟩ : ∃ e, C[k]? = some e := ⟨_, List.getElem?_eq_getElem (by omega)⟩
   have q1 := without12_c C i (by omega)
   have q2 := solvable12_c s c (C.filter fun k => k != i) (hasc i)
   rw [hlast i (mem_at hi)] at q2
   refine aGo (cj4 hres h0 h3 (cj2 hi hw)) ?_
   repeat (guard_target =~ ∀ _ : St → Prop, _; intro K hK)
   exact loop_end (k + 1) (by omega) (by omega) (by exact leGo trivial)
 · exact aGo (cj2 hres h3) trivial
def othB (C : List Nat) (i j : Nat) : Bool := decide (j > i) || (decide (j < i) && hasI (ints C) j)
theorem oth_ns {s : SysD} {m i : Nat} (h : i < m) : nsC s ((List.range m).filter (othB (conflictC (nsC s) m) i)) = !hasI (ints (conflictC (nsC s) m)) i := by
 have hm : ∀ k, k ∈ (List.range m).filter (othB (conflictC (nsC s) m) i) ↔ k ∈ lessC (nsC s) m i := fun k => by
  rw [less_mem h, List.mem_filter, List.mem_range]
  unfold othB
  simp only [Bool.or_eq_true, Bool.and_eq_true, decide_eq_true_eq, hasI_ints]
  constructor
  · rintro ⟨a, b | ⟨b, d⟩⟩
    · exact .inr ⟨b, a⟩
    · exact .inl ⟨b, d⟩
  · rintro (⟨b, d⟩ | ⟨b, a⟩)
    · exact ⟨by omega, .inr ⟨b, d⟩⟩
    · exact ⟨a, .inl b⟩
 have e : nsC s ((List.range m).filter (othB (conflictC (nsC s) m) i)) = nsC s (lessC (nsC s) m i) := by
  rw [Bool.eq_iff_iff]
  exact ⟨fun h => nsC_mono s _ _ (fun k hk => (hm k).1 hk) h, fun h => nsC_mono s _ _ (fun k hk => (hm k).2 hk) h⟩
 rw [e]
 have hs := stays (ns := nsC s) (m := m) h
 cases hh : hasI (ints (conflictC (nsC s) m)) i
 · cases hl : nsC s (lessC (nsC s) m i)
   · have := hasI_ints.2 (hs.2 hl)
     rw [hh] at this; cases this
   · rfl
 · exact hs.1 (hasI_ints.1 hh)
theorem order12_c (k0 : Contract Tryz.prog 18 [] (dB true)) (s : SysD) : Contract Tryz.prog 4 [encS s] (dB true) := by
 have hres := Tryz.results4
 have q1 := few12_c s
 cases h1 : fewS s 5 8 4
 · rw [h1] at q1
   refine Contract.ofA (CallA.inline Tryz.func4 rfl (by kernel_rfl) (by kernel_rfl) (by kernel_rfl) ?_)
   rw [Tryz.ntmps4]
   exact aGo hres trivial
 rw [h1] at q1
 have q2 := lrightS_c s (few12_sm h1).sm
 cases h2 : rightS s
 · rw [h2] at q2
   refine Contract.ofA (CallA.inline Tryz.func4 rfl (by kernel_rfl) (by kernel_rfl) (by kernel_rfl) ?_)
   rw [Tryz.ntmps4]
   exact aGo hres trivial
 rw [h2] at q2
 have c : Conf s := ⟨h2, h1⟩
 obtain ⟨_, h8, _⟩ := few12_rows h1
 have q3 := conflict12_c s c
 have b00 : ((0 : Int) != 0) = false := rfl
 have b01 : ((0 : Int) == 0) = true := rfl
 cases hn : nsC s (List.range s.r.length)
 · have ec : confD s = [] := by unfold confD; rw [hn]; rfl
   rw [ec] at q3
   refine Contract.ofA (CallA.inline Tryz.func4 rfl (by kernel_rfl) (by kernel_rfl) (by kernel_rfl) ?_)
   rw [Tryz.ntmps4]
   exact aGo (cj3 hres b00 b01) trivial
 obtain ⟨e1, e2, e3, e4, e5⟩ := conf_facts c hn
 have hoth : ∀ i, i < s.r.length → nsC s ((List.range s.r.length).filter (othB (confD s) i)) = !hasI (ints (confD s)) i := fun i hi => by
  rw [e1]; exact oth_ns hi
 generalize confD s = C at *
 clear e1
 have hne : ((C.length : Int) == 0) = false := beq_eq_false_iff_ne.2 (fun h => e4 (List.eq_nil_of_length_eq_zero (by omega)))
 have hCl : ((ints C).length : Int) ≤ 1099511627776 := by simp [ints]; omega
 obtain ⟨m, em⟩ : ∃ m, s.r.length = m := ⟨_, rfl⟩
 have hm : (s.r.length : Int) = m := by rw [em]
 refine Contract.ofA (CallA.inline Tryz.func4 rfl (by kernel_rfl) (by kernel_rfl) (by kernel_rfl) ?_)
 rw [Tryz.ntmps4]
 refine aGo (cj3 hres b00 hne) ?_
 repeat (guard_target =~ ∀ _ : St → Prop, _; intro K hK)
 clear k0 q1 q2 q3
 refine aLoopT (fun (i : Nat) => [(1, .lp 0 0 0 0), (3, dB true), (4, encInts (ints C)), (6, dI i)]) (fun _ => [(0, ⟨46, 0, 2, [cS s], 0, false⟩)]) 1 0 (fun i => i ≤ m) (fun i => m - i) 0 (by omega) ?_ ?_
 · exact leGo trivial
 rintro i hi
 have hw : IntKind.i64.wrap ((i : Int) + 1) = (i : Int) + 1 := wrap_in (by omega) (by omega)
 have h0 : (0 : Int) ≤ i := by omega
 by_cases h3 : (i : Int) < m
 rotate_left
 · exact aGo (cj3 hres hm h3) trivial
 obtain ⟨F, hF⟩ : ∃ F : Nat → List Nat, F = fun k => (List.range k).filter (othB C i) := ⟨_, rfl⟩
 have F0 : F 0 = [] := by rw [hF]; rfl
 have Fz : ∀ k, othB C i k = false → F (k + 1) = F k := fun k h => by rw [hF]; simp only; rw [List.range_succ, List.filter_append]; simp [h]
 have Fs : ∀ k, othB C i k = true → F (k + 1) = F k ++ [k] := fun k h => by rw [hF]; simp only; rw [List.range_succ, List.filter_append]; simp [h]
 have Fm : F m = (List.range s.r.length).filter (othB C i) := by rw [hF, em]
 refine aGo (cj3 hres hm h3) ?_
 repeat (guard_target =~ ∀ _ : St → Prop, _; intro K hK)
 refine aLoopT (fun (k : Nat) => [(1, .lp 0 0 0 0), (3, dB true), (4, encInts (ints C)), (6, dI i), (7, .ls 1 (F k).length), (8, dI k)]) (fun k => [(0, ⟨46, 0, 2, [cS s], 0, false⟩), (1, ⟨3, (F k).length, 1, (ints (F k)).map fun x => [dI x], 0, false⟩)]) 2 0 (fun k => k ≤ m ∧ (F k).length ≤ k) (fun k => m - k) 0 ⟨by omega, by rw [F0]; decide⟩ ?_ ?_
 · exact leGo F0
 rintro k ⟨hk, hf⟩
 have hwk : IntKind.i64.wrap ((k : Int) + 1) = (k : Int) + 1 := wrap_in (by omega) (by omega)
 have k1 : (0 : Int) ≤ k := by omega
 by_cases h4 : (k : Int) < m
 · by_cases h5 : (k : Int) > i
   · have F1 := Fs k (by unfold othB; rw [decide_eq_true (p := k > i) (by omega)]; rfl)
     refine aGo (cj4 hres hm k1 (cj3 h4 h5 hwk)) ?_
     repeat (guard_target =~ ∀ _ : St → Prop, _; intro K hK)
     exact loop_end (k + 1) ⟨by omega, by rw [F1, List.length_append]; simp; omega⟩ (by omega) (by exact leGo F1)
   by_cases h6 : (k : Int) < i
   · have q4 := has12_c (ints C) k hCl
     cases h7 : hasI (ints C) k
     · rw [h7] at q4
       have F1 := Fz k (by unfold othB; rw [decide_eq_false (p := k > i) (by omega), h7, Bool.and_false]; rfl)
       refine aGo (cj4 hres hm k1 (cj4 h4 h5 h6 hwk)) ?_
       repeat (guard_target =~ ∀ _ : St → Prop, _; intro K hK)
       exact loop_end (k + 1) ⟨by omega, by rw [F1]; omega⟩ (by omega) (by exact leGo F1)
     · rw [h7] at q4
       have F1 := Fs k (by unfold othB; rw [decide_eq_true (p := k < i) (by omega), h7, Bool.and_true, Bool.or_true])
       refine aGo (cj4 hres hm k1 (cj4 h4 h5 h6 hwk)) ?_
       repeat (guard_target =~ ∀ _ : St → Prop, _; intro K hK)
       exact loop_end (k + 1) ⟨by omega, by rw [F1, List.length_append]; simp; omega⟩ (by omega) (by exact leGo F1)
   · have F1 := Fz k (by unfold othB; rw [decide_eq_false (p := k > i) (by omega), decide_eq_false (p := k < i) (by omega)]; rfl)
     refine aGo (cj4 hres hm k1 (cj4 h4 h5 h6 hwk)) ?_
     repeat (guard_target =~ ∀ _ : St → Prop, _; intro K hK)
     exact loop_end (k + 1) ⟨by omega, by rw [F1]; omega⟩ (by omega) (by exact leGo F1)
 obtain rfl : k = m := by omega
 have hasc : ascR (ints (F k)) s.r.length = true := by
  rw [Fm]; exact asc_of (List.pairwise_lt_range.filter _) fun j hj => List.mem_range.1 (List.mem_filter.1 hj).1
 have q4 := has12_c (ints C) i hCl
 have q5 := solvable12_c s c (F k) hasc
 have hv : nsC s (F k) = !hasI (ints C) i := by rw [Fm]; exact hoth i (by omega)
 rw [hv, Bool.not_not] at q5
 have yz : ∀ M, List.map (List.map (fzT false M 4)) ((ints (F k)).map fun x => [dI x]) = (ints (F k)).map fun x => [dI x] := fun M => map_map_id (fun _ => rfl) _
 refine aLe ((le_kill 1 rfl).trans (le_temp 7 5)) ?_
 simp only [go_sem, fzT]
 generalize hasI (ints C) i = B at q4 q5
 cases B
 · refine aGo (cj4 hres hm h4 (cj2 hw yz)) ?_
   repeat (guard_target =~ ∀ _ : St → Prop, _; intro K hK)
   exact loop_end (i + 1) (by omega) (by omega) (by exact leGo trivial)
 · refine aGo (cj4 hres hm h4 (cj2 hw yz)) ?_
   repeat (guard_target =~ ∀ _ : St → Prop, _; intro K hK)
   exact loop_end (i + 1) (by omega) (by omega) (by exact leGo trivial)
end Go.Proofs.YtbnbpfjfkedbaaaGreat
