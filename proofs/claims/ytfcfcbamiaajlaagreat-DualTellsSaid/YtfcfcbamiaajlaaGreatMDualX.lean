/-
  What is small, and the same, in layer 9's reference.
-/
import Derived.Test.YtfcfcbamiaajlaaGreatMDualW

/-
  What is small, and the same, in layer 9's reference.
-/
namespace Go.Proofs.YtfcfcbamiaajlaaGreat
set_option linter.unusedVariables false
set_option linter.unusedSimpArgs false
set_option linter.unusedSectionVars false
open Go Go.RowKit
attribute [local go_sem] opsL_nil opsL_go opsL_guard gSel_tt gSel_ff gSel_tf gSel_ft stepR_some stepR_none callS_some callE_some runL_nil runL_go runL_guard gSelE_tt gSelE_ff gSelE_tf gSelE_ft stepE_some stepE_none opF callD rd constD putT upd_get guardL gOf_bool gOf_undef fieldAddrF fieldF loadF storeF indexAddrF indexF sliceF strSliceF bound buildF fillF buildSliceF elemsF allocF makeSliceF lenF elemsOf appendF minmaxF convertF boxF ldE blkAt spliceE D.cells? D.isCell Res.pure ov TyI.agg binD unD boolD initT thenA inBlockA argD argDs refsD refsL killW datJ datJs endA_ret endA_normal endR_some oneD_one oneD_two oneD_three oneD_four resDs resD fzT Value.oneCell' strip tabT tabM
attribute [local go_sem] List.map Nat.reduceEqDiff Nat.reduceBEq List.getElem?_cons_zero List.getElem?_cons_succ List.getElem?_nil Option.getD_some Option.getD_none true_and and_true true_or or_true false_or or_false and_self Nat.add_zero Nat.zero_add List.length_nil List.length_cons forall_const ite_true ite_false Bool.or_self Bool.false_eq_true Option.map_some Option.map_none beq_self_eq_true Nat.reduceAdd Nat.reduceSub Nat.reduceMul reduceCtorEq List.getElem?_toArray Bool.not_true Bool.not_false decide_eq_true_eq decide_true decide_false Nat.reduceLeDiff Nat.reduceLT Bool.or_false Bool.or_true Bool.and_true Bool.and_false Bool.false_and Bool.true_and Bool.true_beq Bool.false_beq beq_true beq_false Bool.not_eq_true List.drop_succ_cons List.take_succ_cons List.drop_zero List.take_zero List.length_map List.getElem?_map List.length_append List.all_cons List.all_nil List.append_nil List.nil_append List.cons_append List.set_cons_zero List.set_cons_succ Int.toNat_natCast Int.toNat_zero Option.isSome_some Option.isSome_none Array.size_empty ByteArray.size_empty Int.reduceToNat Int.reduceAdd Int.reduceSub Int.reduceLT Int.reduceLE Int.reduceEq Int.reduceNe Int.reduceBEq Int.reduceNeg List.forall_mem_cons List.not_mem_nil false_implies List.forall_mem_map implies_true Nat.reduceBNe Int.cast_ofNat_Int Int.reduceMul Int.reduceGE Int.reduceGT wrap_in ty_2 ty_3 ty_4 ty_5 ty_6 ty_7 ty_8 ty_9 ty_10 ty_11 ty_12 ty_13 ty_14 ty_18 ty_19 ty_21 ty_22 ty_23 ty_24 ty_25 ty_26 ty_27 ty_28 ty_29 ty_30 ty_31 ty_32 ty_33 ty_48 ty_62 ty_63 ty_64 ty_72 ty_73 ty_107 ty_108 ty_109 ty_110 ty_113 ty_114 ty_118 ty_119 ty_120 ty_121 ty_135 ty_136 ty_143 ty_144 ty_158 ty_159 ty_160 ty_161 ty_162 ty_163 ty_164 ty_165 ty_168 ty_169 ty_170 ty_171
set_option maxRecDepth 100000
set_option maxHeartbeats 4000000

theorem samebig9_c (a b : BigD) (ha : (a.d.length : Int) ≤ 9007199254740992) : Contract Tryz.prog 69 [encB a, encB b] (dB (sameB a b)) := by
  refine Contract.ofA (CallA.inline Tryz.func69 rfl (by kernel_rfl) (by kernel_rfl) (by kernel_rfl) ?_)
  rw [Tryz.ntmps69]
  have hres := Tryz.results69
  cases h1 : a.s != b.s; rotate_left
  · refine aGo (cj2 hres h1) ?_
    repeat (guard_target =~ ∀ _ : St → Prop, _; intro K hK)
    exact bool_eq (sameB_s h1).symm
  cases h2 : (a.d.length : Int) != b.d.length; rotate_left
  · refine aGo (cj3 hres h1 h2) ?_
    repeat (guard_target =~ ∀ _ : St → Prop, _; intro K hK)
    exact bool_eq (sameB_len h2).symm
  have hlen : a.d.length = b.d.length := by simp at h2; omega
  refine aGo (cj3 hres h1 h2) ?_
  repeat (guard_target =~ ∀ _ : St → Prop, _; intro K hK)
  refine aLoopT (fun (k : Nat) => [(2, .lp 0 0 0 0), (3, .lp 1 0 0 0), (5, dI k)]) (fun _ => [(0, ⟨29, 0, 2, [cB a], 0, false⟩), (1, ⟨29, 0, 2, [cB b], 0, false⟩)]) 2 0 (fun k => k ≤ a.d.length ∧ a.d.take k = b.d.take k) (fun k => a.d.length - k) 0 ⟨by omega, by simp⟩ ?_ ?_
  · exact leGo trivial
  · rintro k ⟨hk, hd⟩
    have hw : IntKind.i64.wrap ((k : Int) + 1) = (k : Int) + 1 := wrap_in (by omega) (by omega)
    have h0 : (0 : Int) ≤ k := by omega
    by_cases h3 : (k : Int) < a.d.length
    · obtain ⟨x, hx⟩ : ∃ e, a.d[k]? = some e := ⟨_, List.getElem?_eq_getElem (by omega)⟩
      obtain ⟨y, hy⟩ : ∃ e, b.d[k]? = some e := ⟨_, List.getElem?_eq_getElem (by omega)⟩
      cases h4 : x != y; rotate_left
      · refine aGo (cj4 hres h0 h3 (cj3 h4 hx hy)) ?_
        repeat (guard_target =~ ∀ _ : St → Prop, _; intro K hK)
        exact bool_eq (sameB_at hx hy h4).symm
      · refine aGo (cj4 hres h0 h3 (cj4 h4 hx hy hw)) ?_
        repeat (guard_target =~ ∀ _ : St → Prop, _; intro K hK)
        exact loop_end (k + 1) ⟨by omega, take_succ_eq hd hx hy h4⟩ (by omega) (by exact leGo trivial)
    · refine aGo (cj2 hres h3) ?_
      repeat (guard_target =~ ∀ _ : St → Prop, _; intro K hK)
      refine bool_eq (Eq.symm (sameB_iff.2 ?_))
      rw [List.take_of_length_le (by omega), List.take_of_length_le (by omega)] at hd
      have h1' : a.s = b.s := by simpa using h1
      cases a; cases b; simp_all
theorem same9_c (f g : FracD) (hf : (szF f : Int) ≤ 9007199254740992) : ContractN Tryz.prog 20 [encF f, encF g] (dB (sameF f g)) := by
  refine Contract.toN ?_ rfl
  refine Contract.ofA (CallA.inline Tryz.func20 rfl (by kernel_rfl) (by kernel_rfl) (by kernel_rfl) ?_)
  rw [Tryz.ntmps20]
  have hres := Tryz.results20
  have h1 := (samebig9_c f.p g.p (by unfold szF at hf; omega)).toN rfl
  have h2 := (samebig9_c f.q g.q (by unfold szF at hf; omega)).toN rfl
  cases h : sameB f.p g.p
  · rw [h] at h1
    refine aGo hres ?_
    repeat (guard_target =~ ∀ _ : St → Prop, _; intro K hK)
    exact bool_eq (by simp [sameF, h])
  · rw [h] at h1
    refine aGo hres ?_
    repeat (guard_target =~ ∀ _ : St → Prop, _; intro K hK)
    exact bool_eq (by simp [sameF, h])
theorem short9_c (f : FracD) : ContractN Tryz.prog 56 [encF f] (dB (fewF 6 f)) := by
  refine Contract.toN ?_ rfl
  have e : fewF 6 f = (decide ((f.p.d.length : Int) ≤ 6) && decide ((f.q.d.length : Int) ≤ 6)) := rfl
  rw [e]
  refine Contract.ofA (CallA.inline Tryz.func56 rfl (by kernel_rfl) (by kernel_rfl) (by kernel_rfl) ?_)
  rw [Tryz.ntmps56]
  have hres := Tryz.results56
  by_cases h1 : (f.p.d.length : Int) ≤ 6
  · by_cases h2 : (f.q.d.length : Int) ≤ 6
    · exact aGo (cj3 hres h1 h2) trivial
    · exact aGo (cj3 hres h1 h2) trivial
  · exact aGo (cj2 hres h1) trivial
theorem shorts9_c (x : List FracD) (most : Int) (hm : 0 ≤ most ∧ most ≤ 4096) : ContractN Tryz.prog 13 [encFs x, dI most] (dB (fewP x most 6)) := by
  refine Contract.toN ?_ rfl
  refine Contract.ofA (CallA.inline Tryz.func13 rfl (by kernel_rfl) (by kernel_rfl) (by kernel_rfl) ?_)
  rw [Tryz.ntmps13]
  have hres := Tryz.results13
  refine aGo hres ?_
  repeat (guard_target =~ ∀ _ : St → Prop, _; intro K hK)
  refine aLoopT (fun (k : Nat) => [(0, encFs x), (1, dI most), (5, dI k)]) (fun _ => []) 0 0 (fun k => k ≤ x.length ∧ (k : Int) ≤ most + 1 ∧ (x.take k).all (fewF 6) = true) (fun k => x.length - k) 0 ⟨by omega, by omega, rfl⟩ ?_ ?_
  · exact leGo trivial
  · rintro k ⟨hk, hk2, hg⟩
    have hw : IntKind.i64.wrap ((k : Int) + 1) = (k : Int) + 1 := wrap_in (by omega) (by omega)
    have h0 : (0 : Int) ≤ k := by omega
    by_cases h1 : (k : Int) < x.length
    · by_cases h2 : (k : Int) ≤ most
      · obtain ⟨f, hx⟩ : ∃ e, x[k]? = some e := ⟨_, List.getElem?_eq_getElem (by omega)⟩
        have hc := short9_c f
        cases h3 : fewF 6 f
        · rw [h3] at hc
          refine aGo (cj4 hres h0 h1 (cj3 h2 hx hw)) ?_
          repeat (guard_target =~ ∀ _ : St → Prop, _; intro K hK)
          exact bool_eq (by simp only [fewP, all_not hx h3, Bool.and_false])
        · rw [h3] at hc
          refine aGo (cj4 hres h0 h1 (cj3 h2 hx hw)) ?_
          repeat (guard_target =~ ∀ _ : St → Prop, _; intro K hK)
          exact loop_end (k + 1) ⟨by omega, by omega, all_take_succ hx hg h3⟩ (by omega) (by exact leGo trivial)
      · have h3 : ¬ (x.length : Int) ≤ most := by omega
        refine aGo (cj4 hres h1 h2 h3) ?_
        repeat (guard_target =~ ∀ _ : St → Prop, _; intro K hK)
        exact bool_eq (by simp [fewP, h3])
    · rw [List.take_of_length_le (by omega)] at hg
      refine aGo (cj2 hres h1) ?_
      repeat (guard_target =~ ∀ _ : St → Prop, _; intro K hK)
      exact bool_eq (by simp only [fewP, hg, Bool.and_true])
theorem fewT9_c (l : List TermD) (most : Int) (hm : 0 ≤ most ∧ most ≤ 4096) : ContractN Tryz.prog 55 [encTs l, dI most] (dB (fewT l most 6)) := by
  refine Contract.toN ?_ rfl
  refine Contract.ofA (CallA.inline Tryz.func55 rfl (by kernel_rfl) (by kernel_rfl) (by kernel_rfl) ?_)
  rw [Tryz.ntmps55]
  have hres := Tryz.results55
  refine aGo hres ?_
  repeat (guard_target =~ ∀ _ : St → Prop, _; intro K hK)
  refine aLoopT (fun (k : Nat) => [(0, encTs l), (1, dI most), (5, dI k)]) (fun _ => []) 0 0 (fun k => k ≤ l.length ∧ (k : Int) ≤ most + 1 ∧ (l.take k).all (fun t => fewF 6 t.f) = true) (fun k => l.length - k) 0 ⟨by omega, by omega, rfl⟩ ?_ ?_
  · exact leGo trivial
  · rintro k ⟨hk, hk2, hg⟩
    have hw : IntKind.i64.wrap ((k : Int) + 1) = (k : Int) + 1 := wrap_in (by omega) (by omega)
    have h0 : (0 : Int) ≤ k := by omega
    by_cases h1 : (k : Int) < l.length
    · by_cases h2 : (k : Int) ≤ most
      · obtain ⟨t, hx⟩ : ∃ e, l[k]? = some e := ⟨_, List.getElem?_eq_getElem (by omega)⟩
        have hc := short9_c t.f
        cases h3 : fewF 6 t.f
        · rw [h3] at hc
          refine aGo (cj4 hres h0 h1 (cj3 h2 hx hw)) ?_
          repeat (guard_target =~ ∀ _ : St → Prop, _; intro K hK)
          exact bool_eq (by simp only [fewT, all_not (p := fun t : TermD => fewF 6 t.f) hx h3, Bool.and_false])
        · rw [h3] at hc
          refine aGo (cj4 hres h0 h1 (cj3 h2 hx hw)) ?_
          repeat (guard_target =~ ∀ _ : St → Prop, _; intro K hK)
          exact loop_end (k + 1) ⟨by omega, by omega, all_take_succ hx hg h3⟩ (by omega) (by exact leGo trivial)
      · have h3 : ¬ (l.length : Int) ≤ most := by omega
        refine aGo (cj4 hres h1 h2 h3) ?_
        repeat (guard_target =~ ∀ _ : St → Prop, _; intro K hK)
        exact bool_eq (by simp [fewT, h3])
    · rw [List.take_of_length_le (by omega)] at hg
      refine aGo (cj2 hres h1) ?_
      repeat (guard_target =~ ∀ _ : St → Prop, _; intro K hK)
      exact bool_eq (by simp only [fewT, hg, Bool.and_true])
def few9 (s : SysD) : Bool := decide ((s.r.length : Int) ≤ 10) && (decide (s.n ≤ 10) || decide (s.n > 1500)) && s.r.all (fun w => fewT w.t 10 6 && fewF 6 w.v)
theorem few9_c (s : SysD) : ContractN Tryz.prog 54 [encS s] (dB (few9 s)) := by
  refine Contract.toN ?_ rfl
  refine Contract.ofA (CallA.inline Tryz.func54 rfl (by kernel_rfl) (by kernel_rfl) (by kernel_rfl) ?_)
  rw [Tryz.ntmps54]
  have hres := Tryz.results54
  refine aGo hres ?_
  repeat (guard_target =~ ∀ _ : St → Prop, _; intro K hK)
  refine aLoopT (fun (k : Nat) => [(1, .lp 0 0 0 0), (3, dI k)]) (fun _ => [(0, ⟨24, 0, 2, [cS s], 0, false⟩)]) 1 0 (fun k => k ≤ s.r.length ∧ k ≤ 12 ∧ (s.r.take k).all (fun w => fewT w.t 10 6 && fewF 6 w.v) = true) (fun k => s.r.length - k) 0 ⟨by omega, by omega, rfl⟩ ?_ ?_
  · exact leGo trivial
  · rintro k ⟨hk, hk2, hg⟩
    have hw : IntKind.i64.wrap ((k : Int) + 1) = (k : Int) + 1 := wrap_in (by omega) (by omega)
    have h0 : (0 : Int) ≤ k := by omega
    by_cases h1 : (k : Int) < s.r.length
    · by_cases h2 : (k : Int) < 12
      · obtain ⟨w, hx⟩ : ∃ e, s.r[k]? = some e := ⟨_, List.getElem?_eq_getElem (by omega)⟩
        have k1 := fewT9_c w.t 10 (by decide)
        have k2 := short9_c w.v
        have bad : (fewT w.t 10 6 && fewF 6 w.v) = false → D.v (.bool false) = dB (few9 s) := fun h => bool_eq (by simp only [few9, all_not (p := fun w : RowD => fewT w.t 10 6 && fewF 6 w.v) hx h, Bool.and_false])
        cases h3 : fewT w.t 10 6
        · rw [h3] at k1
          refine aGo (cj4 hres h0 h1 (cj3 h2 hx hw)) ?_
          repeat (guard_target =~ ∀ _ : St → Prop, _; intro K hK)
          exact bad (by rw [h3]; rfl)
        rw [h3] at k1
        cases h4 : fewF 6 w.v
        · rw [h4] at k2
          refine aGo (cj4 hres h0 h1 (cj3 h2 hx hw)) ?_
          repeat (guard_target =~ ∀ _ : St → Prop, _; intro K hK)
          exact bad (by rw [h4, Bool.and_false])
        · rw [h4] at k2
          refine aGo (cj4 hres h0 h1 (cj3 h2 hx hw)) ?_
          repeat (guard_target =~ ∀ _ : St → Prop, _; intro K hK)
          exact loop_end (k + 1) ⟨by omega, by omega, all_take_succ hx hg (by rw [h3, h4]; rfl)⟩ (by omega) (by exact leGo trivial)
      · have h3 : ¬ (s.r.length : Int) ≤ 10 := by omega
        refine aGo (cj4 hres h1 h2 h3) ?_
        repeat (guard_target =~ ∀ _ : St → Prop, _; intro K hK)
        exact bool_eq (by simp [few9, h3])
    · rw [List.take_of_length_le (by omega)] at hg
      by_cases h3 : (s.r.length : Int) ≤ 10
      · by_cases h4 : s.n ≤ 10
        · refine aGo (cj4 hres h1 h3 h4) ?_
          repeat (guard_target =~ ∀ _ : St → Prop, _; intro K hK)
          exact bool_eq (by simp [few9, h3, h4, hg])
        · by_cases h5 : s.n > 1500
          · refine aGo (cj4 hres h1 h3 (cj2 h4 h5)) ?_
            repeat (guard_target =~ ∀ _ : St → Prop, _; intro K hK)
            exact bool_eq (by simp only [few9, h3, h4, h5, hg]; rfl)
          · refine aGo (cj4 hres h1 h3 (cj2 h4 h5)) ?_
            repeat (guard_target =~ ∀ _ : St → Prop, _; intro K hK)
            exact bool_eq (by simp only [few9, h3, h4, h5]; rfl)
      · refine aGo (cj3 hres h1 h3) ?_
        repeat (guard_target =~ ∀ _ : St → Prop, _; intro K hK)
        exact bool_eq (by simp [few9, h3])
def few9O (o : OptD) : Bool := fewP o.x 12 6 && fewP o.y 12 6 && fewP o.d 12 6 && fewF 6 o.v
theorem few9O_c (o : OptD) : ContractN Tryz.prog 14 [encO o] (dB (few9O o)) := by
  refine Contract.toN ?_ rfl
  have k1 := shorts9_c o.x 12 (by decide)
  have k2 := shorts9_c o.y 12 (by decide)
  have k3 := shorts9_c o.d 12 (by decide)
  have k4 := short9_c o.v
  have e : few9O o = (fewP o.x 12 6 && fewP o.y 12 6 && fewP o.d 12 6 && fewF 6 o.v) := rfl
  rw [e]
  refine Contract.ofA (CallA.inline Tryz.func14 rfl (by kernel_rfl) (by kernel_rfl) (by kernel_rfl) ?_)
  rw [Tryz.ntmps14]
  have hres := Tryz.results14
  cases h1 : fewP o.x 12 6
  · rw [h1] at k1
    exact aGo hres trivial
  rw [h1] at k1
  cases h2 : fewP o.y 12 6
  · rw [h2] at k2
    exact aGo hres trivial
  rw [h2] at k2
  cases h3 : fewP o.d 12 6
  · rw [h3] at k3
    exact aGo hres trivial
  rw [h3] at k3
  exact aGo hres trivial

/-
  DualBounds, DualAgrees: the walks (k0: the examples).
-/
set_option maxHeartbeats 8000000

theorem dfew_c (s : SysD) (goal : List TermD) : ContractN Tryz.prog 12 [encS s, encTs goal] (dB (few9 s && fewT goal 10 6)) := by
  refine Contract.toN ?_ rfl
  have k1 := few9_c s
  have k2 := fewT9_c goal 10 (by decide)
  refine Contract.ofA (CallA.inline Tryz.func12 rfl (by kernel_rfl) (by kernel_rfl) (by kernel_rfl) ?_)
  rw [Tryz.ntmps12]
  have hres := Tryz.results12
  cases h1 : few9 s
  · rw [h1] at k1
    exact aGo hres trivial
  rw [h1] at k1
  exact aGo hres trivial
theorem tnF_few {n : Int} (hn : n ≤ 262144) {f : FracD} (h : fewF n f = true) : tnF f := by have := fewF_sz h; unfold tnF; omega
theorem tnT_few {l : List TermD} {most n : Int} (hm : most ≤ 64) (hn : n ≤ 262144) (h : fewT l most n = true) : tnT l := by
  obtain ⟨h1, h2⟩ := fewT_sz h
  exact ⟨by omega, fun t ht => by have := h2 t ht; unfold tnF; omega⟩
theorem tnFs_few {l : List FracD} {most n : Int} (hm : most ≤ 64) (hn : n ≤ 262144) (h : fewP l most n = true) : tnFs l := by
  obtain ⟨h1, h2⟩ := fewP_sz h
  exact ⟨by omega, fun t ht => by have := h2 t ht; unfold tnF; omega⟩
theorem tnS_few {s : SysD} (h : few9 s = true) : tnS s := by
  simp only [few9, Bool.and_eq_true, decide_eq_true_eq] at h
  refine ⟨by omega, fun w hw => ?_⟩
  have := List.all_eq_true.1 h.2 w hw
  simp only [Bool.and_eq_true] at this
  exact ⟨tnT_few (by decide) (by decide) this.1, tnF_few (by decide) this.2⟩
theorem four_or {a b c d : Bool} (h : ¬ (a = true ∧ b = true ∧ c = true ∧ d = true)) : a = false ∨ (a = true ∧ b = false) ∨ (a = true ∧ b = true ∧ c = false) ∨ (a = true ∧ b = true ∧ c = true ∧ d = false) := by
  revert h; cases a <;> cases b <;> cases c <;> cases d <;> decide

/-
  The examples of layer 9.
-/

theorem of9_c (p q : Int) (hq : q ≠ 0) (p1 : -9223372036854775808 ≤ p) (p2 : p ≤ 9223372036854775807) (q1 : -9223372036854775808 ≤ q) (q2 : q ≤ 9223372036854775807) : Contract Tryz.prog 52 [dI p, dI q] (encF (ofQ (Rat.divInt p q))) := by
  have hres := Tryz.results52
  have k1 := rof_c p q hq p1 p2 q1 q2
  refine Contract.ofA (CallA.inline Tryz.func52 rfl (by kernel_rfl) (by kernel_rfl) (by kernel_rfl) ?_)
  rw [Tryz.ntmps52]
  exact aGo hres trivial
theorem one9_c (v n : Int) (p1 : -9223372036854775808 ≤ n) (p2 : n ≤ 9223372036854775807) : Contract Tryz.prog 53 [dI v, dI n] (encT ⟨v, ofQ (q1 n)⟩) := by
  have hres := Tryz.results53
  have k1 := of9_c n 1 (by decide) p1 p2 (by decide) (by decide)
  refine Contract.ofA (CallA.inline Tryz.func53 rfl (by kernel_rfl) (by kernel_rfl) (by kernel_rfl) ?_)
  rw [Tryz.ntmps53]
  exact aGo hres trivial
def s9 : SysD := ⟨2, [⟨[tq 0 1, tq 1 1], 0, fq 4⟩, ⟨[tq 0 1], 1, fq 3⟩]⟩
def w9 : RowD := ⟨[tq 1 1], 1, ofQ (Rat.divInt 1 2)⟩
theorem example9_c : Contract Tryz.prog 51 [] (.tup [encS s9, encW w9]) := by
  have hres := Tryz.results51
  have t1 := one9_c 0 1 (by decide) (by decide)
  have t2 := one9_c 1 1 (by decide) (by decide)
  have f1 := of9_c 4 1 (by decide) (by decide) (by decide) (by decide) (by decide)
  have f2 := of9_c 3 1 (by decide) (by decide) (by decide) (by decide) (by decide)
  have f3 := of9_c 1 2 (by decide) (by decide) (by decide) (by decide) (by decide)
  refine Contract.ofA (CallA.inline Tryz.func51 rfl (by kernel_rfl) (by kernel_rfl) (by kernel_rfl) ?_)
  rw [Tryz.ntmps51]
  refine aGo hres ?_
  repeat (guard_target =~ ∀ _ : St → Prop, _; intro K hK)
  rfl
def y9 : List FracD := [fq 1, fq (-1)]
theorem right9 : rightS s9 = true := by
  have h1 : rightT [tq 0 1, tq 1 1] 2 = true := by simp only [rightT, rightT_cons, sgnD_ofQ, sgQ_q1, goR]; decide
  have h2 : rightT [tq 0 1] 2 = true := by simp only [rightT, rightT_cons, sgnD_ofQ, sgQ_q1, goR]; decide
  simp only [rightS, rightW, s9, List.all_cons, List.all_nil, h1, h2, okF_ofQ]
  decide
theorem goal9 : rightT [tq 1 1] 2 = true := by simp only [rightT, rightT_cons, sgnD_ofQ, sgQ_q1, goR]; decide
theorem down9 : rightT [tq 1 (-1)] 2 = true := by simp only [rightT, rightT_cons, sgnD_ofQ, sgQ_q1, goR]; decide
theorem mul9 : mulOk s9 y9 = true := mulOk_iff.2 ⟨right9, rfl, by simp [okP, y9, okF_ofQ]⟩
theorem signed9 : signedD s9 y9 = true := by
  unfold signedD
  rw [mul9, Bool.true_and]
  simp only [s9, y9, List.zip_cons_cons, List.zip_nil_left, List.all_cons, List.all_nil, signOk, sgnD_ofQ, sgQ_q1]; decide
theorem mix9 : mixT s9 y9 = [tq 1 1] := by
  unfold mixT
  have h0 : mixG (indI ((0 : Nat) : Int)) s9.r y9 = 0 := by simp only [s9, y9, mixG, dotS, indI, qOf_ofQ]; decide +kernel
  have h1 : mixG (indI ((1 : Nat) : Int)) s9.r y9 = q1 1 := by simp only [s9, y9, mixG, dotS, indI, qOf_ofQ]; decide +kernel
  show termsOf 2 _ = _
  rw [termsOf_yes (n := 1) (by rw [h1]; decide +kernel), termsOf_skip (n := 0) (by exact h0), termsOf_zero]
  rw [h1]; rfl
theorem mixV9 : mixV s9.r y9 = q1 1 := by simp only [s9, y9, mixV, qOf_ofQ]; decide +kernel
theorem lower9 : lowerD s9 [tq 1 1] y9 = (ofQ (q1 1), true) := by
  have h : belowN 2 [tq 1 1] [tq 1 1] = true := (belowN_iff goal9 goal9).2 fun _ => Rat.le_refl
  unfold lowerD
  rw [signed9, mix9, mixV9, show s9.n.toNat = 2 from rfl, show rightT [tq 1 1] s9.n = true from goal9, h]
  rfl
theorem lower9_no : lowerD s9 [tq 1 1] [fq 1, fq 1] = (zF, false) := by
  have h : signedD s9 [fq 1, fq 1] = false := by
    simp only [signedD, s9, List.zip_cons_cons, List.zip_nil_left, List.all_cons, List.all_nil, signOk, sgnD_ofQ, sgQ_q1]
    simp
  unfold lowerD
  rw [h]; rfl
theorem holds9 (a b : Int) (r : Bool) (hr : (decide (0 ≤ a) && decide (0 ≤ b) && (fitsK 0 (sgQ (0 + q1 1 * q1 a + q1 1 * q1 b - q1 4)) && fitsK 1 (sgQ (0 + q1 1 * q1 a - q1 3)))) = r) : holdsS s9 [fq a, fq b] = r := by
  have h2 : okP [fq a, fq b] = true := by simp [okP, okF_ofQ]
  have sg : ∀ n : Int, decide (0 ≤ n.sign) = decide (0 ≤ n) := fun n => decide_eq_decide.2 Int.sign_nonneg_iff
  have h3 : nonneg [fq a, fq b] = (decide (0 ≤ a) && decide (0 ≤ b)) := by
    simp only [nonneg, List.all_cons, List.all_nil, sgnD_ofQ, sgQ_q1, sg, Bool.and_true]
  have h4 : s9.r.all (fun w => holdsW w [fq a, fq b]) = (fitsK 0 (sgQ (0 + q1 1 * q1 a + q1 1 * q1 b - q1 4)) && fitsK 1 (sgQ (0 + q1 1 * q1 a - q1 3))) := by
    simp [s9, holdsW, dotD, atP, qOf_ofQ]
  rw [holdsS, right9, h2, h3, h4, ← hr]
  rfl
theorem value9 (a b : Int) : valueD [tq 1 1] [fq a, fq b] = (ofQ (0 + q1 1 * q1 b), true) := by
  have h2 : okP [fq a, fq b] = true := by simp [okP, okF_ofQ]
  have h3 : dotD [tq 1 1] [fq a, fq b] = 0 + q1 1 * q1 b := by simp [dotD, atP, qOf_ofQ]
  rw [valueD_yes (by rw [h2, show rightT [tq 1 1] (([fq a, fq b] : List FracD).length : Int) = true from goal9]; rfl), h3]
theorem ray9 (a b : Int) (r : Bool) (hr : (decide (0 ≤ a) && decide (0 ≤ b) && (fitsK 0 (sgQ (0 + q1 1 * q1 a + q1 1 * q1 b)) && fitsK 1 (sgQ (0 + q1 1 * q1 a))) && decide (sgQ (0 + q1 (-1) * q1 b) < 0)) = r) : rayD s9 [tq 1 (-1)] [fq a, fq b] = r := by
  have h2 : okP [fq a, fq b] = true := by simp [okP, okF_ofQ]
  have sg : ∀ n : Int, decide (0 ≤ n.sign) = decide (0 ≤ n) := fun n => decide_eq_decide.2 Int.sign_nonneg_iff
  have h3 : nonneg [fq a, fq b] = (decide (0 ≤ a) && decide (0 ≤ b)) := by
    simp only [nonneg, List.all_cons, List.all_nil, sgnD_ofQ, sgQ_q1, sg, Bool.and_true]
  have h4 : s9.r.all (fun w => fitsK w.k (sgQ (dotD w.t [fq a, fq b]))) = (fitsK 0 (sgQ (0 + q1 1 * q1 a + q1 1 * q1 b)) && fitsK 1 (sgQ (0 + q1 1 * q1 a))) := by
    simp [s9, dotD, atP, qOf_ofQ]
  have h5 : dotD [tq 1 (-1)] [fq a, fq b] = 0 + q1 (-1) * q1 b := by simp [dotD, atP, qOf_ofQ]
  rw [rayD, right9, show rightT [tq 1 (-1)] s9.n = true from down9, h2, h3, h4, h5, ← hr]
  rfl
def o9 : OptD := ⟨0, fq 1, [fq 3, fq 1], y9, []⟩
def b9 : OptD := ⟨0, fq 1, [fq 2, fq 2], y9, []⟩
theorem check9 : checkD s9 [tq 1 1] o9 = true := by
  have h1 : q1 1 = 0 + q1 1 * q1 1 := by decide +kernel
  simp only [checkD, o9, right9, show rightT [tq 1 1] s9.n = true from goal9, lower9, holds9 3 1 true (by decide +kernel), value9, ← h1, sameF_self]
  rfl
theorem check9_no : checkD s9 [tq 1 1] b9 = false := by
  have h : sameF (ofQ (0 + q1 1 * q1 2)) (fq 1) = false := by
    cases h : sameF (ofQ (0 + q1 1 * q1 2)) (fq 1)
    · rfl
    · exact absurd (ofQ_inj (sameF_iff.1 h)) (by decide +kernel)
  simp only [checkD, b9, right9, show rightT [tq 1 1] s9.n = true from goal9, lower9, value9, h]
  simp
def m9 : SysD := ⟨2, [⟨[tq 0 1, tq 1 1], 0, fq 4⟩, ⟨[tq 0 1], 1, fq 3⟩, w9]⟩
def z9 : List FracD := [fq 1, fq (-1), fq (-1)]
theorem rightM9 : rightS m9 = true := by
  have h1 : rightT [tq 0 1, tq 1 1] 2 = true := by simp only [rightT, rightT_cons, sgnD_ofQ, sgQ_q1, goR]; decide
  have h2 : rightT [tq 0 1] 2 = true := by simp only [rightT, rightT_cons, sgnD_ofQ, sgQ_q1, goR]; decide
  simp only [rightS, rightW, m9, w9, List.all_cons, List.all_nil, h1, h2, goal9, okF_ofQ]
  decide
theorem refutes9 : refutesD m9 z9 = true := by
  have hm : mulOk m9 z9 = true := mulOk_iff.2 ⟨rightM9, rfl, by simp [okP, z9, okF_ofQ]⟩
  have hs : signedD m9 z9 = true := by
    unfold signedD
    rw [hm, Bool.true_and]
    simp only [m9, w9, z9, List.zip_cons_cons, List.zip_nil_left, List.all_cons, List.all_nil, signOk, sgnD_ofQ, sgQ_q1]; decide
  have hmix : mixT m9 z9 = [] := by
    unfold mixT
    have h0 : mixG (indI ((0 : Nat) : Int)) m9.r z9 = 0 := by simp only [m9, w9, z9, mixG, dotS, indI, qOf_ofQ]; decide +kernel
    have h1 : mixG (indI ((1 : Nat) : Int)) m9.r z9 = 0 := by simp only [m9, w9, z9, mixG, dotS, indI, qOf_ofQ]; decide +kernel
    show termsOf 2 _ = _
    rw [termsOf_skip (n := 1) (by exact h1), termsOf_skip (n := 0) (by exact h0), termsOf_zero]
  have hv : mixV m9.r z9 = Rat.divInt 1 2 := by simp only [m9, w9, z9, mixV, qOf_ofQ]; decide +kernel
  have hl : lowerD m9 [] z9 = (ofQ (Rat.divInt 1 2), true) := by
    unfold lowerD
    rw [hs, hmix, hv]; rfl
  unfold refutesD
  rw [hl, sgnD_ofQ]
  decide +kernel
theorem refutes9_no : refutesD s9 y9 = false := by
  have h : belowN 2 [tq 1 1] [] = false := by
    cases h : belowN 2 [tq 1 1] []
    · rfl
    · have := (belowN_iff goal9 (rfl : rightT [] 2 = true)).1 h 1
      simp only [dotS, indI, qOf_ofQ] at this
      exact absurd this (by decide +kernel)
  have hl : lowerD s9 [] y9 = (zF, false) := by
    unfold lowerD
    rw [signed9, mix9, show s9.n.toNat = 2 from rfl, h, Bool.and_false]; rfl
  unfold refutesD
  rw [hl]; rfl

/-
  The examples of layer 9: the walk.
-/
set_option maxHeartbeats 16000000

/-- f: facts; y: what is left; the contracts of callees are taken from the context. -/
theorem aGoB {F Y X : Prop} (f : F) (y : Y) (h : F → Keep Y → X := by
    intro hf y
    repeat (first
      | (refine hI _ ?_; clear hI; clear KI)
      | (refine hK _ ?_; try clear hK; try clear K)
      | (refine aSeq fun KI hI => ?_)
      | (refine aBlock ?_)
      | (refine aSkip ?_)
      | (refine aExit ?_)
      | (refine aRet ?_)
      | (refine aOps _ rfl (by kernel_rfl) ?_)
      | (refine aRunK _ rfl mixed (by kernel_rfl) (by kernel_rfl) fun KE hE => ?_)
      | (refine hE _ _ (by kernel_rfl) (intsOk_no rfl) ?_; clear hE; clear KE)
      | (refine hE _ _ (by kernel_rfl) (intsOk_all (by (repeat (refine intsDead_updB rfl ?_)); exact intsDead_nil) rfl) ?_; clear hE; clear KE)
      | (refine aCondT rfl ?hc ?_; case hc => simp only [go_sem, ↓reduceIte, beq_self_eq_true, bne_self_eq_false, hf])
      | (refine aCondF rfl ?hc ?_; case hc => simp only [go_sem, ↓reduceIte, beq_self_eq_true, bne_self_eq_false, hf])
      | ((with_reducible apply callT_of); (first | with_reducible assumption | assumption); rotate_left; (repeat (refine intsDead_updB rfl ?_)); exact intsDead_nil)
      | ((with_reducible apply callT_ofN); (first | with_reducible assumption | assumption))
      | ((with_reducible apply callU_of); (first | with_reducible assumption | assumption); rfl)
      | ((with_reducible apply callU_ofN); (first | with_reducible assumption | assumption); rfl)
      | (simp only [go_sem, ↓reduceIte, beq_self_eq_true, bne_self_eq_false, hf])
      | (refine And.intro ?ho ?_; (case ho => omega))
      | (clear hI; clear KI))
    repeat (first | (revert hE; revert KE) | (revert hI; revert KI))
    first | done | exact y.out) : X := h f ⟨y⟩

theorem sameT9_c (a b : List TermD) (ha : (a.length : Int) ≤ 1099511627776) (hz : ∀ t ∈ a, (szF t.f : Int) ≤ 9007199254740992) : ContractN Tryz.prog 19 [encTs a, encTs b] (dB (sameTs a b)) := by
  refine Contract.toN ?_ rfl
  refine Contract.ofA (CallA.inline Tryz.func19 rfl (by kernel_rfl) (by kernel_rfl) (by kernel_rfl) ?_)
  rw [Tryz.ntmps19]
  have hres := Tryz.results19
  cases hl : (a.length : Int) != b.length
  rotate_left
  · refine aGo (cj2 hres hl) ?_
    repeat (guard_target =~ ∀ _ : St → Prop, _; intro K hK)
    exact bool_eq (sameTs_len hl).symm
  have hl' : a.length = b.length := by simp at hl; omega
  refine aGo (cj2 hres hl) ?_
  repeat (guard_target =~ ∀ _ : St → Prop, _; intro K hK)
  refine aLoopT (fun (k : Nat) => [(0, encTs a), (1, encTs b), (5, dI k)]) (fun _ => []) 0 0 (fun k => k ≤ a.length ∧ ∀ (j : Nat) x y, j < k → a[j]? = some x → b[j]? = some y → sameT x y = true) (fun k => a.length - k) 0 ⟨by omega, fun j x y h => absurd h (Nat.not_lt_zero _)⟩ ?_ ?_
  · exact leGo trivial
  · rintro k ⟨hk, hg⟩
    have hw : IntKind.i64.wrap ((k : Int) + 1) = (k : Int) + 1 := wrap_in (by omega) (by omega)
    have h0 : (0 : Int) ≤ k := by omega
    by_cases h1 : (k : Int) < a.length
    · obtain ⟨x, hx⟩ : ∃ e, a[k]? = some e := ⟨_, List.getElem?_eq_getElem (by omega)⟩
      obtain ⟨y, hy⟩ : ∃ e, b[k]? = some e := ⟨_, List.getElem?_eq_getElem (by omega)⟩
      have h1b : (k : Int) < b.length := by omega
      have hc := same9_c x.f y.f (hz x (mem_at hx))
      cases h2 : x.v != y.v
      rotate_left
      · refine aGo (cj4 hres h0 h1 (cj4 h1b hx hy (cj2 h2 hw))) ?_
        repeat (guard_target =~ ∀ _ : St → Prop, _; intro K hK)
        exact bool_eq (sameTs_at hx hy (by simp at h2; simp [sameT, h2])).symm
      cases h3 : sameF x.f y.f
      · rw [h3] at hc
        refine aGo (cj4 hres h0 h1 (cj4 h1b hx hy (cj2 h2 hw))) ?_
        repeat (guard_target =~ ∀ _ : St → Prop, _; intro K hK)
        exact bool_eq (sameTs_at hx hy (by simp [sameT, h3])).symm
      · rw [h3] at hc
        refine aGo (cj4 hres h0 h1 (cj4 h1b hx hy (cj2 h2 hw))) ?_
        repeat (guard_target =~ ∀ _ : St → Prop, _; intro K hK)
        refine loop_end (k + 1) ⟨by omega, fun j u v hj hu hv => ?_⟩ (by omega) (by exact leGo trivial)
        rcases Nat.lt_or_ge j k with h | h
        · exact hg j u v h hu hv
        · obtain rfl : j = k := by omega
          rw [hx] at hu; rw [hy] at hv; cases hu; cases hv
          simp at h2
          simp [sameT, h2, h3]
    · refine aGo (cj2 hres h1) ?_
      repeat (guard_target =~ ∀ _ : St → Prop, _; intro K hK)
      exact bool_eq (sameTs_all hl' fun j x y hx hy => hg j x y (by have := (List.getElem?_eq_some_iff.1 hx).1; omega) hx hy).symm

theorem tnF_fq (n : Int) (p1 : -9223372036854775808 ≤ n) (p2 : n ≤ 9223372036854775807) : tnF (fq n) := by
  have := szQ_frac n 1 (by decide) p1 p2 (by decide) (by decide)
  unfold tnF; rw [szQ_ofQ]; show (szQ (Rat.divInt n 1) : Int) ≤ _; omega
theorem tnFs_of {l : List FracD} (hl : (l.length : Int) ≤ 64) (h : ∀ f ∈ l, tnF f) : tnFs l := ⟨hl, h⟩
theorem tnT1 (a b : Int) (h : -1000 ≤ b ∧ b ≤ 1000) : tnT [tq a b] := ⟨by simp, fun t ht => by
  simp only [List.mem_cons, List.not_mem_nil, or_false] at ht; subst ht; exact tnF_fq _ (by omega) (by omega)⟩
theorem tnT2 (a b c d : Int) (h : (-1000 ≤ b ∧ b ≤ 1000) ∧ (-1000 ≤ d ∧ d ≤ 1000)) : tnT [tq a b, tq c d] := ⟨by simp, fun t ht => by
  simp only [List.mem_cons, List.not_mem_nil, or_false] at ht; rcases ht with rfl | rfl <;> exact tnF_fq _ (by omega) (by omega)⟩
theorem tnFs2 (a b : Int) (h : (-1000 ≤ a ∧ a ≤ 1000) ∧ (-1000 ≤ b ∧ b ≤ 1000)) : tnFs [fq a, fq b] := ⟨by simp, fun t ht => by
  simp only [List.mem_cons, List.not_mem_nil, or_false] at ht; rcases ht with rfl | rfl <;> exact tnF_fq _ (by omega) (by omega)⟩
theorem tn_s9 : tnS s9 := ⟨by decide, fun w hw => by
  simp only [s9, List.mem_cons, List.not_mem_nil, or_false] at hw
  rcases hw with rfl | rfl
  · exact ⟨tnT2 _ _ _ _ (by decide), tnF_fq _ (by decide) (by decide)⟩
  · exact ⟨tnT1 _ _ (by decide), tnF_fq _ (by decide) (by decide)⟩⟩
theorem tn_m9 : tnS m9 := ⟨by decide, fun w hw => by
  simp only [m9, w9, List.mem_cons, List.not_mem_nil, or_false] at hw
  rcases hw with rfl | rfl | rfl
  · exact ⟨tnT2 _ _ _ _ (by decide), tnF_fq _ (by decide) (by decide)⟩
  · exact ⟨tnT1 _ _ (by decide), tnF_fq _ (by decide) (by decide)⟩
  · refine ⟨tnT1 _ _ (by decide), ?_⟩
    have := szQ_frac 1 2 (by decide) (by decide) (by decide) (by decide) (by decide)
    unfold tnF; rw [szQ_ofQ]; omega⟩
theorem tn_z9 : tnFs z9 := ⟨by decide, fun t ht => by
  simp only [z9, List.mem_cons, List.not_mem_nil, or_false] at ht; rcases ht with rfl | rfl | rfl <;> exact tnF_fq _ (by decide) (by decide)⟩
theorem tn_y9 : tnFs y9 := tnFs2 _ _ (by decide)
theorem tnFs_nil : tnFs [] := ⟨by decide, fun t ht => by cases ht⟩
theorem small9_c : Contract Tryz.prog 11 [] (dB true) := by
  have hres := Tryz.results11
  have x0 := example9_c
  have f1 := of9_c 1 1 (by decide) (by decide) (by decide) (by decide) (by decide)
  have f2 := of9_c (-1) 1 (by decide) (by decide) (by decide) (by decide) (by decide)
  have f3 := of9_c 3 1 (by decide) (by decide) (by decide) (by decide) (by decide)
  have f4 := of9_c 2 1 (by decide) (by decide) (by decide) (by decide) (by decide)
  have f5 := of9_c 0 1 (by decide) (by decide) (by decide) (by decide) (by decide)
  have t1 := one9_c 1 1 (by decide) (by decide)
  have t2 := one9_c 1 (-1) (by decide) (by decide)
  have g1 : smT [tq 1 1] := (tnT1 1 1 (by decide)).sm
  have g2 : smT [tq 1 (-1)] := (tnT1 1 (-1) (by decide)).sm
  have m1 := dmix_c s9 y9 tn_s9 tn_y9
  rw [show mixD9 s9 y9 = ([tq 1 1], ofQ (q1 1)) by simp [mixD9, mul9, mix9, mixV9]] at m1
  have l1 := dlower_c s9 [tq 1 1] y9 tn_s9 g1 tn_y9
  rw [lower9] at l1
  have l2 := dlower_c s9 [tq 1 1] [fq 1, fq 1] tn_s9 g1 (tnFs2 _ _ (by decide))
  rw [lower9_no] at l2
  have e1 := sameT9_c [tq 1 1] [tq 1 1] (by decide) (fun t ht => by have := smF_i (g1.2 t ht); omega)
  rw [sameTs_iff.2 rfl] at e1
  have e2 := same9_c (ofQ (q1 1)) (ofQ (q1 1)) (by have := szQ_frac 1 1 (by decide) (by decide) (by decide) (by decide) (by decide); rw [szQ_ofQ]; show (szQ (Rat.divInt 1 1) : Int) ≤ _; omega)
  rw [sameF_self] at e2
  have s1 := dsigned_c s9 y9 tn_s9.sm tn_y9.sm
  rw [signed9] at s1
  have r1 := dray_c s9 [tq 1 (-1)] [fq 0, fq 1] tn_s9.sm g2 (tnFs2 _ _ (by decide)).sm
  rw [ray9 0 1 true (by decide +kernel)] at r1
  have r2 := dray_c s9 [tq 1 (-1)] [fq 1, fq 1] tn_s9.sm g2 (tnFs2 _ _ (by decide)).sm
  rw [ray9 1 1 false (by decide +kernel)] at r2
  have k1 := dcheck_c s9 [tq 1 1] o9 tn_s9 g1 ⟨tnF_fq 1 (by decide) (by decide), tnFs2 _ _ (by decide), tn_y9, tnFs_nil⟩
  rw [check9] at k1
  have k2 := dcheck_c s9 [tq 1 1] b9 tn_s9 g1 ⟨tnF_fq 1 (by decide) (by decide), tnFs2 _ _ (by decide), tn_y9, tnFs_nil⟩
  rw [check9_no] at k2
  have u1 := drefutes_c m9 z9 tn_m9 tn_z9
  rw [refutes9] at u1
  have u2 := drefutes_c s9 y9 tn_s9 tn_y9
  rw [refutes9_no] at u2
  refine Contract.ofA (CallA.inline Tryz.func11 rfl (by kernel_rfl) (by kernel_rfl) (by kernel_rfl) ?_)
  rw [Tryz.ntmps11]
  have n9 : s9.r.length = 2 := rfl
  have n9i : (s9.r.length : Int) = 2 := rfl
  have j1 : List.map (List.map datJ) (List.map cW s9.r ++ [[encTs w9.t, dI w9.k, dI w9.v.p.s, encInts w9.v.p.d, dI w9.v.q.s, encInts w9.v.q.d]]) = List.map cW m9.r := rfl
  exact aGoB (cj4 hres j1 n9 n9i) trivial
end Go.Proofs.YtfcfcbamiaajlaaGreat
