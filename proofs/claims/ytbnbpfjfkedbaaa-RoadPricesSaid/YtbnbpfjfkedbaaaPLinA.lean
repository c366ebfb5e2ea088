/-
  Terms, rows, systems and points, as data; RightTerms of linear and of the reference.
-/
import Derived.Test.YtbnbpfjfkedbaaaPRefB
namespace Go.Proofs.Ytbnbpfjfkedbaaa
set_option linter.unusedVariables false
set_option linter.unusedSimpArgs false
set_option linter.unusedSectionVars false
open Go Go.RowKit
attribute [local go_sem] opsL_nil opsL_go opsL_guard gSel_tt gSel_ff gSel_tf gSel_ft stepR_some stepR_none callS_some callE_some runL_nil runL_go runL_guard gSelE_tt gSelE_ff gSelE_tf gSelE_ft stepE_some stepE_none opF callD rd constD putT upd_get guardL gOf_bool gOf_undef fieldAddrF fieldF loadF storeF indexAddrF indexF sliceF strSliceF bound buildF fillF buildSliceF elemsF allocF makeSliceF lenF elemsOf appendF minmaxF convertF boxF ldE blkAt spliceE D.cells? D.isCell Res.pure ov TyI.agg binD unD boolD initT thenA inBlockA argD argDs refsD refsL killW datJ datJs endA_ret endA_normal endR_some oneD_one oneD_two oneD_three oneD_four resDs resD fzT Value.oneCell' strip tabT tabM
attribute [local go_sem] List.map Nat.reduceEqDiff Nat.reduceBEq List.getElem?_cons_zero List.getElem?_cons_succ List.getElem?_nil Option.getD_some Option.getD_none true_and and_true true_or or_true false_or or_false and_self Nat.add_zero Nat.zero_add List.length_nil List.length_cons forall_const ite_true ite_false Bool.or_self Bool.false_eq_true Option.map_some Option.map_none beq_self_eq_true Nat.reduceAdd Nat.reduceSub Nat.reduceMul reduceCtorEq List.getElem?_toArray Bool.not_true Bool.not_false decide_eq_true_eq decide_true decide_false Nat.reduceLeDiff Nat.reduceLT Bool.or_false Bool.or_true Bool.and_true Bool.and_false Bool.false_and Bool.true_and Bool.true_beq Bool.false_beq beq_true beq_false Bool.not_eq_true List.drop_succ_cons List.take_succ_cons List.drop_zero List.take_zero List.length_map List.getElem?_map List.length_append List.all_cons List.all_nil List.append_nil List.nil_append List.cons_append List.set_cons_zero List.set_cons_succ Int.toNat_natCast Int.toNat_zero Option.isSome_some Option.isSome_none Array.size_empty ByteArray.size_empty Int.reduceToNat Int.reduceAdd Int.reduceSub Int.reduceLT Int.reduceLE Int.reduceEq Int.reduceNe Int.reduceBEq Int.reduceNeg List.forall_mem_cons List.not_mem_nil false_implies List.forall_mem_map implies_true Nat.reduceBNe Int.cast_ofNat_Int Int.reduceMul Int.reduceGE Int.reduceGT wrap_in ty_2 ty_3 ty_4 ty_5 ty_6 ty_7 ty_8 ty_9 ty_10 ty_11 ty_12 ty_13 ty_14 ty_18 ty_19 ty_21 ty_22 ty_23 ty_24 ty_25 ty_26 ty_27 ty_28 ty_29 ty_30 ty_34 ty_37 ty_41 ty_42 ty_49 ty_51 ty_53 ty_54 ty_55 ty_57 ty_58 ty_59 ty_60 ty_61 ty_62 ty_63 ty_64 ty_65 ty_66 ty_69 ty_70 ty_118 ty_119 ty_129 ty_130 ty_131 ty_132 ty_134 ty_139 ty_140 ty_141 ty_142 ty_145 ty_146 ty_162 ty_163 ty_173 ty_174 ty_175 ty_176 ty_177 ty_178 ty_179 ty_180 ty_183 ty_184 ty_185 ty_186
set_option maxRecDepth 100000
set_option maxHeartbeats 2000000
theorem at_region {P : Program} {n : Nat} {Q : Exit → St → Prop} {s : St} {l : Array Oper} {b : Bool} (id : Nat) (h : AWP P n (.region id l b) Q s) : AWP P n (.region id l b) Q s := h
structure TermD where
 v : Int
 f : FracD
structure RowD where
 t : List TermD
 k : Int
 v : FracD
structure SysD where
 n : Int
 r : List RowD
abbrev cT (t : TermD) : List D := [dI t.v, dI t.f.p.s, encInts t.f.p.d, dI t.f.q.s, encInts t.f.q.d]
abbrev encT (t : TermD) : D := .agg (cT t)
abbrev encTs (l : List TermD) : D := .sl (l.map cT)
abbrev encFs (l : List FracD) : D := .sl (l.map cF)
abbrev cW (w : RowD) : List D := [encTs w.t, dI w.k, dI w.v.p.s, encInts w.v.p.d, dI w.v.q.s, encInts w.v.q.d]
abbrev encW (w : RowD) : D := .agg (cW w)
abbrev encWs (l : List RowD) : D := .sl (l.map cW)
abbrev cS (s : SysD) : List D := [dI s.n, encWs s.r]
abbrev encS (s : SysD) : D := .agg (cS s)
def smF (f : FracD) : Prop := (szF f : Int) ≤ 4194304
def smT (l : List TermD) : Prop := (l.length : Int) ≤ 4096 ∧ ∀ t ∈ l, smF t.f
def smFs (l : List FracD) : Prop := (l.length : Int) ≤ 4096 ∧ ∀ f ∈ l, smF f
def smW (w : RowD) : Prop := smT w.t ∧ smF w.v
def smS (s : SysD) : Prop := (s.r.length : Int) ≤ 4096 ∧ ∀ w ∈ s.r, smW w
theorem smT_len {l : List TermD} (h : smT l) : (l.length : Int) ≤ 4096 := h.1
theorem smFs_len {l : List FracD} (h : smFs l) : (l.length : Int) ≤ 4096 := h.1
theorem smS_len {s : SysD} (h : smS s) : (s.r.length : Int) ≤ 4096 := h.1
def goR (n : Int) : Int → List TermD → Bool
 | _, [] => true
 | last, t :: l => decide (last < t.v) && decide (t.v < n) && (sgnD t.f != 0) && goR n t.v l
def rightT (l : List TermD) (n : Int) : Bool := decide (0 ≤ n) && goR n (-1) l
def lastV (l : List TermD) (k : Nat) : Int := match k with
 | 0 => -1
 | k + 1 => match l[k]? with
   | some t => t.v
   | none => -1
theorem lastV_succ {l : List TermD} {k : Nat} {t : TermD} (h : l[k]? = some t) : lastV l (k + 1) = t.v := by simp [lastV, h]
theorem goR_split {n : Int} : ∀ (l m : List TermD) (last : Int), goR n last (l ++ m) = (goR n last l && goR n ((l.getLast?.map (·.v)).getD last) m)
 | [], m, last => by simp [goR]
 | t :: l, m, last => by
   rw [List.cons_append, goR, goR, goR_split l m t.v]
   have : ((t :: l).getLast?.map (·.v)).getD last = (l.getLast?.map (·.v)).getD t.v := by
    cases l with
    | nil => rfl
    | cons u l => rw [List.getLast?_cons_cons]; rw [List.getLast?_eq_some_getLast (by simp : (u :: l) ≠ [])]; rfl
   rw [this]
   simp only [Bool.and_assoc]
theorem lastV_take {l : List TermD} {k : Nat} (hk : k ≤ l.length) : ((l.take k).getLast?.map (·.v)).getD (-1) = lastV l k := by
 cases k with
 | zero => rfl
 | succ k =>
   obtain ⟨t, hx⟩ : ∃ e, l[k]? = some e := ⟨_, List.getElem?_eq_getElem (by omega)⟩
   rw [lastV_succ hx, List.take_add_one, hx]
   simp
theorem goR_step {n : Int} {l : List TermD} {k : Nat} {t : TermD} (hx : l[k]? = some t) : goR n (-1) (l.take (k + 1)) = (goR n (-1) (l.take k) && (decide (lastV l k < t.v) && decide (t.v < n) && (sgnD t.f != 0))) := by
 have hk : k < l.length := (List.getElem?_eq_some_iff.1 hx).1
 rw [List.take_add_one, hx, Option.toList_some, goR_split, lastV_take (Nat.le_of_lt hk)]
 simp [goR]
theorem goR_stop {n : Int} {l : List TermD} {k : Nat} (h : goR n (-1) (l.take k) = false) : goR n (-1) l = false := by
 have := goR_split (n := n) (l.take k) (l.drop k) (-1)
 rw [List.take_append_drop, h] at this
 simpa using this
theorem mem_at {α : Type} {l : List α} {k : Nat} {x : α} (h : l[k]? = some x) : x ∈ l := List.mem_of_getElem? h
theorem smF_i {f : FracD} (h : smF f) : (szF f : Int) ≤ 549755813888 := by unfold smF at h; omega
theorem lright_c (l : List TermD) (n : Int) (hs : smT l) : ContractN Try.prog 56 [encTs l, dI n] (dB (rightT l n)) := by
 refine Contract.toN ?_ rfl
 refine Contract.ofA (CallA.inline Try.func56 rfl (by kernel_rfl) (by kernel_rfl) (by kernel_rfl) ?_)
 rw [Try.ntmps56]
 have hres := Try.results56
 have hl := smT_len hs
 by_cases hn : n < 0
 · refine aGo (cj2 hres hn) ?_
   repeat (guard_target =~ ∀ _ : St → Prop, _; intro K hK)
   exact bool_eq (by simp [rightT]; omega)
 refine aGo (cj2 hres hn) ?_
 repeat (guard_target =~ ∀ _ : St → Prop, _; intro K hK)
 refine aLoopT (fun (k : Nat) => [(0, encTs l), (1, dI n), (5, dI (lastV l k)), (10, encTs l), (11, dI l.length), (12, dI k)]) (fun _ => []) 0 0 (fun k => k ≤ l.length ∧ goR n (-1) (l.take k) = true) (fun k => l.length - k) 0 ⟨by omega, rfl⟩ ?_ ?_
 · refine le_head _ _ _ ?_ ?_ ?_ ?_ ?_ (.inl rfl) <;> simp [go_sem, okD, okDs, okBlk, lastV] <;> (first | (intros; subst_vars; simp [okD, okDs]; done) | (intro _ h; rcases h with ⟨_, _, rfl⟩ | rfl <;> simp [okD, okDs]; done) | (intros; rename_i h; rcases h with ⟨_, _, rfl⟩ | rfl <;> simp [okD, okDs]))
 · rintro k ⟨hk, hg⟩
   have hw : IntKind.i64.wrap ((k : Int) + 1) = (k : Int) + 1 := wrap_in (by omega) (by omega)
   have h0 : (0 : Int) ≤ k := by omega
   by_cases h1 : (k : Int) < l.length
   · obtain ⟨t, hx⟩ : ∃ e, l[k]? = some e := ⟨_, List.getElem?_eq_getElem (by omega)⟩
     have hc := fsign_c t.f (smF_i (hs.2 t (mem_at hx)))
     have hstep := goR_step (n := n) hx
     rw [hg, Bool.true_and] at hstep
     have hla := lastV_succ hx
     by_cases h2 : t.v ≤ lastV l k
     · refine aGo (cj4 hres h0 h1 (cj2 hx h2)) ?_
       repeat (guard_target =~ ∀ _ : St → Prop, _; intro K hK)
       refine bool_eq (Eq.symm ?_)
       have : goR n (-1) (l.take (k + 1)) = false := by rw [hstep]; simp; omega
       simp [rightT, goR_stop this]
     by_cases h3 : t.v ≥ n
     · refine aGo (cj4 hres h0 h1 (cj3 hx h2 h3)) ?_
       repeat (guard_target =~ ∀ _ : St → Prop, _; intro K hK)
       refine bool_eq (Eq.symm ?_)
       have : goR n (-1) (l.take (k + 1)) = false := by rw [hstep]; simp; omega
       simp [rightT, goR_stop this]
     cases h4 : sgnD t.f == 0
     · refine aGo (cj4 hres h0 h1 (cj4 hx h2 h3 (cj2 h4 hw))) ?_
       repeat (guard_target =~ ∀ _ : St → Prop, _; intro K hK)
       refine loop_end (k + 1) ⟨by omega, ?_⟩ (by omega) (by exact leGo hla)
       rw [hstep]
       simp at h4
       simp [h4]; omega
     · refine aGo (cj4 hres h0 h1 (cj4 hx h2 h3 (cj2 h4 hw))) ?_
       repeat (guard_target =~ ∀ _ : St → Prop, _; intro K hK)
       refine bool_eq (Eq.symm ?_)
       have : goR n (-1) (l.take (k + 1)) = false := by rw [hstep]; simp at h4; simp [h4]
       simp [rightT, goR_stop this]
   · refine aGo (cj2 hres h1) ?_
     repeat (guard_target =~ ∀ _ : St → Prop, _; intro K hK)
     rw [List.take_of_length_le (by omega)] at hg
     exact bool_eq (by simp [rightT, hg]; omega)
theorem sgnD_no {f : FracD} (h : okF f = false) : sgnD f = 0 := by simp [sgnD, h]
def rightW (n : Int) (w : RowD) : Bool := rightT w.t n && decide (0 ≤ w.k) && decide (w.k < 3) && okF w.v
def rightS (s : SysD) : Bool := decide (0 ≤ s.n) && decide (s.n ≤ 1500) && decide ((s.r.length : Int) ≤ 6000) && s.r.all (rightW s.n)
theorem all_take_succ {α : Type} {p : α → Bool} {l : List α} {k : Nat} {x : α} (hx : l[k]? = some x) (h : (l.take k).all p = true) (hp : p x = true) : (l.take (k + 1)).all p = true := by
 rw [List.take_add_one, hx]; simp [List.all_append, h, hp]
theorem all_not {α : Type} {p : α → Bool} {l : List α} {k : Nat} {x : α} (hx : l[k]? = some x) (hp : p x = false) : l.all p = false := by
 rw [List.all_eq_false]
 exact ⟨x, List.mem_of_getElem? hx, by simp [hp]⟩
theorem lrightS_c (s : SysD) (hs : smS s) : ContractN Try.prog 59 [encS s] (dB (rightS s)) := by
 refine Contract.toN ?_ rfl
 have hres := Try.results59
 have hl := smS_len hs
 refine Contract.ofA (CallA.inline Try.func59 rfl (by kernel_rfl) (by kernel_rfl) (by kernel_rfl) ?_)
 rw [Try.ntmps59]
 by_cases h1 : s.n < 0
 · refine aGo (cj2 hres h1) ?_
   repeat (guard_target =~ ∀ _ : St → Prop, _; intro K hK)
   exact bool_eq (by simp [rightS]; omega)
 by_cases h2 : s.n > 1500
 · refine aGo (cj3 hres h1 h2) ?_
   repeat (guard_target =~ ∀ _ : St → Prop, _; intro K hK)
   exact bool_eq (by simp [rightS]; omega)
 by_cases h3 : (s.r.length : Int) > 6000
 · refine aGo (cj4 hres h1 h2 h3) ?_
   repeat (guard_target =~ ∀ _ : St → Prop, _; intro K hK)
   exact bool_eq (by simp [rightS]; omega)
 refine aGo (cj4 hres h1 h2 h3) ?_
 repeat (guard_target =~ ∀ _ : St → Prop, _; intro K hK)
 refine aLoopT (fun (k : Nat) => [(1, .lp 0 0 0 0), (20, encWs s.r), (21, dI s.r.length), (22, dI k)]) (fun _ => [(0, ⟨64, 0, 2, [cS s], 0, false⟩)]) 1 0 (fun k => k ≤ s.r.length ∧ (s.r.take k).all (rightW s.n) = true) (fun k => s.r.length - k) 0 ⟨by omega, rfl⟩ ?_ ?_
 · exact leGo trivial
 · rintro k ⟨hk, hg⟩
   have hw : IntKind.i64.wrap ((k : Int) + 1) = (k : Int) + 1 := wrap_in (by omega) (by omega)
   have h0 : (0 : Int) ≤ k := by omega
   by_cases h4 : (k : Int) < s.r.length
   · obtain ⟨w, hx⟩ : ∃ e, s.r[k]? = some e := ⟨_, List.getElem?_eq_getElem (by omega)⟩
     have sm := hs.2 w (mem_at hx)
     have k1 := lright_c w.t s.n sm.1
     have k2 := fright_c w.v (smF_i sm.2)
     have bad : rightW s.n w = false → D.v (.bool false) = dB (rightS s) := fun h => bool_eq (by simp [rightS, all_not hx h])
     cases h5 : rightT w.t s.n
     · rw [h5] at k1
       refine aGo (cj4 hres h0 h4 (cj2 hx hw)) ?_
       repeat (guard_target =~ ∀ _ : St → Prop, _; intro K hK)
       exact bad (by simp [rightW, h5])
     rw [h5] at k1
     by_cases h6 : w.k < 0
     · refine aGo (cj4 hres h0 h4 (cj3 hx hw h6)) ?_
       repeat (guard_target =~ ∀ _ : St → Prop, _; intro K hK)
       exact bad (by simp [rightW]; omega)
     by_cases h7 : w.k ≥ 3
     · refine aGo (cj4 hres h0 h4 (cj4 hx hw h6 h7)) ?_
       repeat (guard_target =~ ∀ _ : St → Prop, _; intro K hK)
       exact bad (by simp [rightW]; omega)
     cases h8 : okF w.v
     · rw [h8] at k2
       refine aGo (cj4 hres h0 h4 (cj4 hx hw h6 h7)) ?_
       repeat (guard_target =~ ∀ _ : St → Prop, _; intro K hK)
       exact bad (by simp [rightW, h8])
     rw [h8] at k2
     refine aGo (cj4 hres h0 h4 (cj4 hx hw h6 h7)) ?_
     repeat (guard_target =~ ∀ _ : St → Prop, _; intro K hK)
     exact loop_end (k + 1) ⟨by omega, all_take_succ hx hg (by simp [rightW, h5, h8]; omega)⟩ (by omega) (by exact leGo trivial)
   · refine aGo (cj2 hres h4) ?_
     repeat (guard_target =~ ∀ _ : St → Prop, _; intro K hK)
     rw [List.take_of_length_le (by omega)] at hg
     exact bool_eq (by simp [rightS, hg]; omega)
def okP (x : List FracD) : Bool := x.all okF
theorem any_take_no {α : Type} {p : α → Bool} {l : List α} {k : Nat} {x : α} (hx : l[k]? = some x) (h : (l.take k).all p = true) (hp : p x = false) : l.findIdx (fun y => !p y) = k := by
 obtain ⟨hk, rfl⟩ := List.getElem?_eq_some_iff.1 hx
 refine (List.findIdx_eq hk).2 ⟨by simp [hp], fun j hj => ?_⟩
 rw [List.all_eq_true] at h
 simp [h l[j] (List.mem_take_iff_getElem.2 ⟨j, by omega, rfl⟩)]
def wrongI (x : List FracD) : Int := if okP x then -1 else x.findIdx (fun y => !okF y)
theorem wrongI_ge (x : List FracD) : decide (wrongI x ≥ 0) = !okP x := by
 unfold wrongI
 cases okP x
 · simp only [Bool.false_eq_true, if_false, Bool.not_false]; exact decide_eq_true (by omega)
 · rfl
theorem wrongF_c (f : FracD) (hs : smF f) : ContractN Try.prog 116 [encF f] (dB (!okF f)) := by
 refine Contract.toN ?_ rfl
 have hc := fright_c f (smF_i hs)
 refine Contract.ofA (CallA.inline Try.func116 rfl (by kernel_rfl) (by kernel_rfl) (by kernel_rfl) ?_)
 rw [Try.ntmps116]
 have hres := Try.results116
 exact aGo hres trivial
theorem indexF_c (x : List FracD) (hs : smFs x) : ContractN Try.prog 76 [encFs x, .clo 116 []] (dI (wrongI x)) := by
 refine Contract.toN ?_ rfl
 have hl := smFs_len hs
 refine Contract.ofA (CallA.inline Try.func76 rfl (by kernel_rfl) (by kernel_rfl) (by kernel_rfl) ?_)
 rw [Try.ntmps76]
 have hres := Try.results76
 refine aGo hres ?_
 repeat (guard_target =~ ∀ _ : St → Prop, _; intro K hK)
 refine aLoopT (fun (k : Nat) => [(0, encFs x), (1, .clo 116 []), (7, dI x.length), (8, dI k)]) (fun _ => []) 0 0 (fun k => k ≤ x.length ∧ (x.take k).all okF = true) (fun k => x.length - k) 0 ⟨by omega, rfl⟩ ?_ ?_
 · exact leGo trivial
 · rintro k ⟨hk, hn⟩
   have hw : IntKind.i64.wrap ((k : Int) + 1) = (k : Int) + 1 := wrap_in (by omega) (by omega)
   have h0 : (0 : Int) ≤ k := by omega
   by_cases h1 : (k : Int) < x.length
   · obtain ⟨f, hx⟩ : ∃ e, x[k]? = some e := ⟨_, List.getElem?_eq_getElem (by omega)⟩
     have hc := wrongF_c f (hs.2 f (mem_at hx))
     cases h2 : okF f
     · rw [h2] at hc
       refine aGo (cj4 hres h0 h1 (cj2 hx hw)) ?_
       repeat (guard_target =~ ∀ _ : St → Prop, _; intro K hK)
       have : wrongI x = k := by
        have h3 : okP x = false := all_not hx h2
        simp only [wrongI, h3, any_take_no hx hn h2]; rfl
       rw [this]
     · rw [h2] at hc
       refine aGo (cj4 hres h0 h1 (cj2 hx hw)) ?_
       repeat (guard_target =~ ∀ _ : St → Prop, _; intro K hK)
       exact loop_end (k + 1) ⟨by omega, all_take_succ hx hn h2⟩ (by omega) (by exact leGo trivial)
   · refine aGo (cj2 hres h1) ?_
     repeat (guard_target =~ ∀ _ : St → Prop, _; intro K hK)
     rw [List.take_of_length_le (by omega)] at hn
     have : wrongI x = -1 := by have h3 : okP x = true := hn; simp only [wrongI, h3]; rfl
     rw [this]
theorem containsF_c (x : List FracD) (hs : smFs x) : ContractN Try.prog 43 [encFs x, .clo 116 []] (dB (!okP x)) := by
 refine Contract.toN ?_ rfl
 refine Contract.ofA (CallA.inline Try.func43 rfl (by kernel_rfl) (by kernel_rfl) (by kernel_rfl) ?_)
 rw [Try.ntmps43]
 have hres := Try.results43
 have hc := indexF_c x hs
 refine aGo hres ?_
 repeat (guard_target =~ ∀ _ : St → Prop, _; intro K hK)
 exact bool_eq (wrongI_ge _)
theorem lpoint_c (x : List FracD) (hs : smFs x) : ContractN Try.prog 100 [encFs x] (dB (okP x)) := by
 refine Contract.toN ?_ rfl
 refine Contract.ofA (CallA.inline Try.func100 rfl (by kernel_rfl) (by kernel_rfl) (by kernel_rfl) ?_)
 rw [Try.ntmps100]
 have hres := Try.results100
 have hc := containsF_c x hs
 refine aGo hres ?_
 repeat (guard_target =~ ∀ _ : St → Prop, _; intro K hK)
 exact bool_eq (by simp)
def atP (x : List FracD) (v : Int) : Rat := qOf ((x[v.toNat]?).getD zF)
def dotD (l : List TermD) (x : List FracD) : Rat := l.foldl (fun a t => a + qOf t.f * atP x t.v) 0
def valueD (l : List TermD) (x : List FracD) : FracD × Bool := if rightT l x.length && okP x then (ofQ (dotD l x), true) else (zF, false)
theorem goR_mem {n : Int} : ∀ (l : List TermD) (last : Int), -1 ≤ last → goR n last l = true → ∀ t ∈ l, 0 ≤ t.v ∧ t.v < n ∧ sgnD t.f ≠ 0
 | [], _, _, _, t, ht => by cases ht
 | u :: l, last, h0, h, t, ht => by
   simp only [goR, Bool.and_eq_true, decide_eq_true_eq, bne_iff_ne] at h
   rcases List.mem_cons.1 ht with rfl | ht
   · exact ⟨by omega, h.1.1.2, h.1.2⟩
   · exact goR_mem l u.v (by omega) h.2 t ht
theorem rightT_mem {l : List TermD} {n : Int} (h : rightT l n = true) {t : TermD} (ht : t ∈ l) : 0 ≤ t.v ∧ t.v < n ∧ okF t.f = true ∧ qOf t.f ≠ 0 := by
 simp only [rightT, Bool.and_eq_true] at h
 obtain ⟨h1, h2, h3⟩ := goR_mem l (-1) (Int.le_refl _) h.2 t ht
 cases ho : okF t.f
 · exact absurd (sgnD_no ho) h3
 · refine ⟨h1, h2, rfl, fun h0 => h3 ?_⟩
   simp [sgnD, ho, h0, sgQ]
theorem szF_at {x : List FracD} {A : Int} (h0 : 0 ≤ A) (hx : ∀ f ∈ x, (szF f : Int) ≤ A) (ho : okP x = true) {v : Int} (h1 : 0 ≤ v) (h2 : v < x.length) : ∃ f, x[v.toNat]? = some f ∧ okF f = true ∧ (szF f : Int) ≤ A ∧ atP x v = qOf f := by
 obtain ⟨f, hf⟩ : ∃ e, x[v.toNat]? = some e := ⟨_, List.getElem?_eq_getElem (by omega)⟩
 have hm := List.mem_of_getElem? hf
 exact ⟨f, hf, (List.all_eq_true.1 ho) f hm, hx f hm, by simp [atP, hf]⟩
theorem dotD_succ {l : List TermD} {x : List FracD} {k : Nat} {t : TermD} (hx : l[k]? = some t) : dotD (l.take (k + 1)) x = dotD (l.take k) x + qOf t.f * atP x t.v := by
 unfold dotD
 rw [List.take_add_one, hx]
 simp
theorem szQ_dot {l : List TermD} {x : List FracD} {A B : Nat} (hl : ∀ t ∈ l, szF t.f ≤ A) (hx : ∀ f ∈ x, szF f ≤ B) (hr : rightT l x.length = true) (ho : okP x = true) : ∀ k, k ≤ l.length → szQ (dotD (l.take k) x) ≤ 4 + k * (A + B + 1) := by
 intro k
 induction k with
 | zero => intro _; rw [Nat.zero_mul]; exact Nat.le_trans (szQ_int 0 (by decide) (by decide)) (by omega)
 | succ k ih =>
   intro hk
   obtain ⟨t, ht⟩ : ∃ e, l[k]? = some e := ⟨_, List.getElem?_eq_getElem (by omega)⟩
   rw [dotD_succ ht]
   have hm := List.mem_of_getElem? ht
   obtain ⟨h1, h2, h3, _⟩ := rightT_mem hr hm
   obtain ⟨f, hf⟩ : ∃ e, x[t.v.toNat]? = some e := ⟨_, List.getElem?_eq_getElem (by omega)⟩
   have hmf := List.mem_of_getElem? hf
   have hof := (List.all_eq_true.1 ho) f hmf
   have e : atP x t.v = qOf f := by simp [atP, hf]
   rw [e]
   have i1 := ih (by omega)
   have i2 := szQ_add (dotD (l.take k) x) (qOf t.f * qOf f)
   have i3 := szQ_mul (qOf t.f) (qOf f)
   rw [szF_ok h3, szF_ok hof] at i3
   have i4 := hl t hm
   have i5 := hx f hmf
   rw [Nat.add_mul, Nat.one_mul]
   omega
theorem smF_n {f : FracD} (h : smF f) : szF f ≤ 2048 * 2048 := by unfold smF at h; omega
theorem szQ_dot' {l : List TermD} {x : List FracD} (hl : smT l) (hx : smFs x) (hr : rightT l x.length = true) (ho : okP x = true) {k : Nat} (hk : k ≤ l.length) : (szQ (dotD (l.take k) x) : Int) ≤ 34359750000 := by
 have h := szQ_dot (A := 2048 * 2048) (B := 2048 * 2048) (fun t ht => smF_n (hl.2 t ht)) (fun f hf => smF_n (hx.2 f hf)) hr ho k hk
 have hk2 : (k : Int) ≤ 4096 := by have := hl.1; omega
 have h2 : (szQ (dotD (l.take k) x) : Int) ≤ 4 + (k : Int) * 8388609 := by
  have := Int.ofNat_le.2 h
  simp only [Int.natCast_add, Int.natCast_mul] at this
  omega
 omega
theorem lvalue_c (l : List TermD) (x : List FracD) (hs : smT l) (hxs : smFs x) (hr : rightT l x.length = true) (ho : okP x = true) : Contract Try.prog 101 [encTs l, encFs x] (encF (ofQ (dotD l x))) := by
 have hl := smT_len hs
 have hlx := smFs_len hxs
 have hz := fint_c 0 (by decide) (by decide)
 refine Contract.ofA (CallA.inline Try.func101 rfl (by kernel_rfl) (by kernel_rfl) (by kernel_rfl) ?_)
 rw [Try.ntmps101]
 have hres := Try.results101
 refine aGo hres ?_
 repeat (guard_target =~ ∀ _ : St → Prop, _; intro K hK)
 refine aLoopT (fun (k : Nat) => [(0, encTs l), (1, encFs x), (4, .lp 0 0 0 0), (5, .lp 1 0 0 0), (11, encTs l), (12, dI l.length), (13, dI k)]) (fun k => [(0, ⟨28, 0, 4, [[dI 0, .nil, dI 0, .nil]], 0, false⟩), (1, ⟨28, 0, 4, [cF (ofQ (dotD (l.take k) x))], 0, false⟩)]) 2 0 (fun k => k ≤ l.length) (fun k => l.length - k) 0 (by omega) ?_ ?_
 · refine le_head _ _ _ ?_ ?_ ?_ ?_ ?_ (.inl rfl) <;> simp [go_sem, okD, okDs, okBlk, dotD] <;> (first | (intros; subst_vars; simp [okD, okDs]; done) | (intro _ h; rcases h with ⟨_, _, rfl⟩ | rfl <;> simp [okD, okDs]; done) | (intros; rename_i h; rcases h with ⟨_, _, rfl⟩ | rfl <;> simp [okD, okDs]))
 · rintro k hk
   have hw : IntKind.i64.wrap ((k : Int) + 1) = (k : Int) + 1 := wrap_in (by omega) (by omega)
   have h0 : (0 : Int) ≤ k := by omega
   by_cases h1 : (k : Int) < l.length
   · obtain ⟨t, ht⟩ : ∃ e, l[k]? = some e := ⟨_, List.getElem?_eq_getElem (by omega)⟩
     obtain ⟨h2, h3, h4, _⟩ := rightT_mem hr (mem_at ht)
     obtain ⟨f, h5, h6, h7, h8⟩ := szF_at (A := 4194304) (by decide) hxs.2 ho h2 h3
     have hd := dotD_succ (x := x) ht
     rw [h8] at hd
     have k1 := fmul_c t.f f (smF_i (hs.2 t (mem_at ht))) (by omega)
     rw [show mulD t.f f = (ofQ (qOf t.f * qOf f), 0) by simp [mulD, h4, h6]] at k1
     have z1 := szQ_dot' hs hxs hr ho hk
     have z2 := szQ_mul (qOf t.f) (qOf f)
     rw [szF_ok h4, szF_ok h6] at z2
     have z3 : (szF t.f : Int) ≤ 4194304 := hs.2 t (mem_at ht)
     have k2 := fadd_c (ofQ (dotD (l.take k) x)) (ofQ (qOf t.f * qOf f)) (by rw [szQ_ofQ]; omega) (by rw [szQ_ofQ]; omega)
     rw [addD_ofQ] at k2
     refine aGo (cj4 hres h0 h1 (cj4 ht h2 h3 (cj2 h5 hw))) ?_
     repeat (guard_target =~ ∀ _ : St → Prop, _; intro K hK)
     exact loop_end (k + 1) (by omega) (by omega) (by exact leGo hd)
   · refine aGo (cj2 hres h1) ?_
     repeat (guard_target =~ ∀ _ : St → Prop, _; intro K hK)
     rw [List.take_of_length_le (by omega)]
theorem tupV_no {l : List TermD} {x : List FracD} (h : (rightT l x.length && okP x) = false) : D.tup [encF zF, dB false] = D.tup [encF (valueD l x).1, dB (valueD l x).2] := by
 unfold valueD; rw [h]; rfl
theorem tupV_yes {l : List TermD} {x : List FracD} (h1 : rightT l x.length = true) (h2 : okP x = true) : D.tup [encF (ofQ (dotD l x)), dB true] = D.tup [encF (valueD l x).1, dB (valueD l x).2] := by
 unfold valueD; rw [h1, h2]; rfl
theorem lValue_c (l : List TermD) (x : List FracD) (hs : smT l) (hxs : smFs x) : Contract Try.prog 65 [encTs l, encFs x] (.tup [encF (valueD l x).1, dB (valueD l x).2]) := by
 have hres := Try.results65
 have k1 := lright_c l x.length hs
 have k2 := lpoint_c x hxs
 cases h1 : rightT l x.length
 · rw [h1] at k1
   refine Contract.ofA (CallA.inline Try.func65 rfl (by kernel_rfl) (by kernel_rfl) (by kernel_rfl) ?_)
   rw [Try.ntmps65]
   refine aGo hres ?_
   repeat (guard_target =~ ∀ _ : St → Prop, _; intro K hK)
   exact tupV_no (by rw [h1]; rfl)
 rw [h1] at k1
 cases h2 : okP x
 · rw [h2] at k2
   refine Contract.ofA (CallA.inline Try.func65 rfl (by kernel_rfl) (by kernel_rfl) (by kernel_rfl) ?_)
   rw [Try.ntmps65]
   refine aGo hres ?_
   repeat (guard_target =~ ∀ _ : St → Prop, _; intro K hK)
   exact tupV_no (by rw [h2, Bool.and_false])
 rw [h2] at k2
 have k3 := lvalue_c l x hs hxs h1 h2
 refine Contract.ofA (CallA.inline Try.func65 rfl (by kernel_rfl) (by kernel_rfl) (by kernel_rfl) ?_)
 rw [Try.ntmps65]
 refine aGo hres ?_
 repeat (guard_target =~ ∀ _ : St → Prop, _; intro K hK)
 exact tupV_yes h1 h2
def fitsK (k c : Int) : Bool := c == 0 || (decide (c > 0) && k == 0) || (decide (c < 0) && k == 1)
def holdsW (w : RowD) (x : List FracD) : Bool := fitsK w.k (sgQ (dotD w.t x - qOf w.v))
def nonneg (x : List FracD) : Bool := x.all fun f => decide (0 ≤ sgnD f)
def holdsS (s : SysD) (x : List FracD) : Bool := rightS s && decide ((x.length : Int) = s.n) && okP x && nonneg x && s.r.all (fun w => holdsW w x)
theorem rightS_mem {s : SysD} (h : rightS s = true) {w : RowD} (hw : w ∈ s.r) : rightW s.n w = true := by
 simp only [rightS, Bool.and_eq_true] at h
 exact List.all_eq_true.1 h.2 w hw
theorem map_map_id {α : Type} {f : α → List D} {g : D → D} (h : ∀ a, List.map g (f a) = f a) (l : List α) : List.map (List.map g) (List.map f l) = List.map f l := by
 rw [List.map_map]
 exact List.map_congr_left fun a _ => h a
theorem fz_terms (m : Mem) (n : Nat) (l : List TermD) : D.sl (List.map (List.map (fzT true m (n + 1))) (List.map cT l)) = encTs l := by rw [map_map_id (fun _ => rfl)]
def plusF : Nat → List TermD → List TermD → List TermD
 | 0, _, _ => []
 | _ + 1, [], [] => []
 | n + 1, x :: a, [] => x :: plusF n a []
 | n + 1, [], y :: b => y :: plusF n [] b
 | n + 1, x :: a, y :: b =>
   if x.v < y.v then x :: plusF n a (y :: b)
   else if y.v < x.v then y :: plusF n (x :: a) b
   else if qOf x.f + qOf y.f = 0 then plusF n a b
   else ⟨x.v, ofQ (qOf x.f + qOf y.f)⟩ :: plusF n a b
def sumT (a b : List TermD) : List TermD := plusF (a.length + b.length) a b
def plusD (a b : List TermD) : List TermD := if rightT a 1500 && rightT b 1500 then sumT a b else []
theorem sumT_nil : sumT [] [] = [] := rfl
theorem sumT_left (x : TermD) (a : List TermD) : sumT (x :: a) [] = x :: sumT a [] := rfl
theorem sumT_right (y : TermD) (b : List TermD) : sumT [] (y :: b) = y :: sumT [] b := by
 unfold sumT
 rw [show ([] : List TermD).length + (y :: b).length = (([] : List TermD).length + b.length) + 1 by simp]
 rfl
theorem sumT_lt {x y : TermD} (a b : List TermD) (h : x.v < y.v) : sumT (x :: a) (y :: b) = x :: sumT a (y :: b) := by
 unfold sumT
 rw [show (x :: a).length + (y :: b).length = (a.length + (y :: b).length) + 1 by simp; omega]
 simp only [plusF]
 rw [if_pos h]
theorem sumT_gt {x y : TermD} (a b : List TermD) (h : y.v < x.v) : sumT (x :: a) (y :: b) = y :: sumT (x :: a) b := by
 unfold sumT
 rw [show (x :: a).length + (y :: b).length = ((x :: a).length + b.length) + 1 by simp; omega]
 simp only [plusF]
 rw [if_neg (by omega), if_pos h]
theorem plusF_more : ∀ (n m : Nat) (a b : List TermD), a.length + b.length ≤ n → a.length + b.length ≤ m → plusF n a b = plusF m a b := by
 intro n
 induction n with
 | zero =>
   intro m a b h _
   obtain rfl : a = [] := List.eq_nil_of_length_eq_zero (by omega)
   obtain rfl : b = [] := List.eq_nil_of_length_eq_zero (by have : ([] : List TermD).length = 0 := rfl; omega)
   cases m <;> rfl
 | succ n ih =>
   intro m a b h k
   cases m with
   | zero =>
     obtain rfl : a = [] := List.eq_nil_of_length_eq_zero (by omega)
     obtain rfl : b = [] := List.eq_nil_of_length_eq_zero (by have : ([] : List TermD).length = 0 := rfl; omega)
     rfl
   | succ m =>
     match a, b with
     | [], [] => rfl
     | x :: a, [] => simp only [plusF]; rw [ih m a [] (by simp at h ⊢; omega) (by simp at k ⊢; omega)]
     | [], y :: b => simp only [plusF]; rw [ih m [] b (by simp at h ⊢; omega) (by simp at k ⊢; omega)]
     | x :: a, y :: b =>
       simp only [List.length_cons] at h k
       simp only [plusF]
       rw [ih m a (y :: b) (by simp; omega) (by simp; omega), ih m (x :: a) b (by simp; omega) (by simp; omega), ih m a b (by omega) (by omega)]
theorem sumT_zero {x y : TermD} (a b : List TermD) (h1 : ¬ x.v < y.v) (h2 : ¬ y.v < x.v) (h : qOf x.f + qOf y.f = 0) : sumT (x :: a) (y :: b) = sumT a b := by
 have e : sumT (x :: a) (y :: b) = plusF (a.length + b.length + 1) a b := by
  unfold sumT
  rw [show (x :: a).length + (y :: b).length = (a.length + b.length + 1) + 1 by simp; omega]
  simp only [plusF]
  rw [if_neg h1, if_neg h2, if_pos h]
 rw [e]
 exact plusF_more _ _ a b (by omega) (by omega)
theorem sumT_eq {x y : TermD} (a b : List TermD) (h1 : ¬ x.v < y.v) (h2 : ¬ y.v < x.v) (h : qOf x.f + qOf y.f ≠ 0) : sumT (x :: a) (y :: b) = ⟨x.v, ofQ (qOf x.f + qOf y.f)⟩ :: sumT a b := by
 have e : sumT (x :: a) (y :: b) = ⟨x.v, ofQ (qOf x.f + qOf y.f)⟩ :: plusF (a.length + b.length + 1) a b := by
  unfold sumT
  rw [show (x :: a).length + (y :: b).length = (a.length + b.length + 1) + 1 by simp; omega]
  simp only [plusF]
  rw [if_neg h1, if_neg h2, if_neg h]
 rw [e, plusF_more _ _ a b (by omega) (Nat.le_refl _)]
 rfl
theorem plusD_no {a b : List TermD} (h : (rightT a 1500 && rightT b 1500) = false) : D.sl [] = encTs (plusD a b) := by unfold plusD; rw [h]; rfl
theorem plusD_yes {a b : List TermD} (h1 : rightT a 1500 = true) (h2 : rightT b 1500 = true) : plusD a b = sumT a b := by unfold plusD; rw [h1, h2]; rfl
def okT (l : List TermD) : Prop := ∀ t ∈ l, smF t.f ∧ okF t.f = true
theorem okT_of {l : List TermD} {n : Int} (hs : smT l) (h : rightT l n = true) : okT l := fun t ht => ⟨hs.2 t ht, (rightT_mem h ht).2.2.1⟩
theorem okT_tl {x : TermD} {l : List TermD} (h : okT (x :: l)) : okT l := fun t ht => h t (List.mem_cons_of_mem _ ht)
theorem okT_hd {x : TermD} {l : List TermD} (h : okT (x :: l)) : smF x.f ∧ okF x.f = true := h x List.mem_cons_self
theorem fresh_c (f : FracD) (hs : smF f) (h : okF f = true) : Contract Try.prog 57 [encF f] (encF f) := by
 have hres := Try.results57
 have k1 := fneg_c f (smF_i hs)
 have e : szF (negD f) = szF f := by
  rw [show negD f = ofQ (- qOf f) by simp [negD, h], szQ_ofQ, szQ_neg, szF_ok h]
 have k2 := fneg_c (negD f) (by rw [e]; exact smF_i hs)
 rw [show negD (negD f) = f by
  rw [show negD f = ofQ (- qOf f) by simp [negD, h], negD_ofQ, show - - qOf f = qOf f by grind]
  exact (okF_eq h).symm] at k2
 refine Contract.ofA (CallA.inline Try.func57 rfl (by kernel_rfl) (by kernel_rfl) (by kernel_rfl) ?_)
 rw [Try.ntmps57]
 exact aGo hres trivial
theorem take_cT (l : List TermD) : List.take l.length (List.map cT l) = List.map cT l := List.take_of_length_le (by simp)
structure PlusX where
 a : List TermD
 b : List TermD
 o : List TermD
theorem lplus_c (a b : List TermD) (hs : smT a) (hs2 : smT b) : Contract Try.prog 23 [encTs a, encTs b] (encTs (plusD a b)) := by
 have hres := Try.results23
 have hla := smT_len hs
 have hlb := smT_len hs2
 have k1 := lright_c a 1500 hs
 have k2 := lright_c b 1500 hs2
 cases h1 : rightT a 1500
 · rw [h1] at k1
   refine Contract.ofA (CallA.inline Try.func23 rfl (by kernel_rfl) (by kernel_rfl) (by kernel_rfl) ?_)
   rw [Try.ntmps23]
   refine aGo hres ?_
   repeat (guard_target =~ ∀ _ : St → Prop, _; intro K hK)
   exact plusD_no (by rw [h1]; rfl)
 rw [h1] at k1
 cases h2 : rightT b 1500
 · rw [h2] at k2
   refine Contract.ofA (CallA.inline Try.func23 rfl (by kernel_rfl) (by kernel_rfl) (by kernel_rfl) ?_)
   rw [Try.ntmps23]
   refine aGo hres ?_
   repeat (guard_target =~ ∀ _ : St → Prop, _; intro K hK)
   exact plusD_no (by rw [h2, Bool.and_false])
 rw [h2] at k2
 refine Contract.ofA (CallA.inline Try.func23 rfl (by kernel_rfl) (by kernel_rfl) (by kernel_rfl) ?_)
 rw [Try.ntmps23]
 refine aGo hres ?_
 repeat (guard_target =~ ∀ _ : St → Prop, _; intro K hK)
 refine aLe (le_row 5 58 5 rfl) ?_
 refine aLoopT (fun (x : PlusX) => [(0, encTs x.a), (1, encTs x.b), (5, .ls 0 x.o.length)]) (fun x => [(0, ⟨58, x.o.length, 5, x.o.map cT, 0, false⟩)]) 1 0 (fun x => okT x.a ∧ okT x.b ∧ x.o ++ sumT x.a x.b = sumT a b ∧ x.o.length + x.a.length + x.b.length ≤ 8192) (fun x => x.a.length + x.b.length) ⟨a, b, []⟩ ⟨okT_of hs h1, okT_of hs2 h2, rfl, by simp; omega⟩ ?_ ?_
 · exact leGo trivial
 · rintro ⟨a', b', o⟩ ⟨ha, hb, ho, hlen⟩
   dsimp only at ha hb ho hlen ⊢
   match a', b', ha, hb, ho, hlen with
   | [], [], ha, hb, ho, hlen =>
     rw [sumT_nil, List.append_nil] at ho
     subst ho
     refine aGo hres ?_
     repeat (guard_target =~ ∀ _ : St → Prop, _; intro K hK)
     rw [plusD_yes h1 h2]
     exact fz_terms _ _ _
   | x :: a', [], ha, hb, ho, hlen =>
     simp only [List.length_cons, List.length_nil] at hlen
     have p1 : ((a'.length + 1 : Nat) : Int) > 0 := by omega
     have p2 : (1 : Int) ≤ ((a'.length + 1 : Nat) : Int) := by omega
     have kf := fresh_c x.f (okT_hd ha).1 (okT_hd ha).2
     refine aGo (cj4 hres take_cT p1 p2) ?_
     repeat (guard_target =~ ∀ _ : St → Prop, _; intro K hK)
     exact loop_end ⟨a', [], o ++ [x]⟩ ⟨okT_tl ha, hb, by rw [← ho, sumT_left]; simp, by simp; omega⟩ (by simp) (by exact leGo take_cT)
   | [], y :: b', ha, hb, ho, hlen =>
     simp only [List.length_cons, List.length_nil] at hlen
     have p1 : ((b'.length + 1 : Nat) : Int) > 0 := by omega
     have p2 : (1 : Int) ≤ ((b'.length + 1 : Nat) : Int) := by omega
     have p3 : (((b'.length + 1 : Nat) : Int) == 0) = false := by simp; omega
     have kf := fresh_c y.f (okT_hd hb).1 (okT_hd hb).2
     refine aGo (cj4 hres take_cT p1 (cj2 p2 p3)) ?_
     repeat (guard_target =~ ∀ _ : St → Prop, _; intro K hK)
     exact loop_end ⟨[], b', o ++ [y]⟩ ⟨ha, okT_tl hb, by rw [← ho, sumT_right]; simp, by simp; omega⟩ (by simp) (by exact leGo take_cT)
   | x :: a', y :: b', ha, hb, ho, hlen =>
     simp only [List.length_cons] at hlen
     have p1 : ((a'.length + 1 : Nat) : Int) > 0 := by omega
     have p2 : (1 : Int) ≤ ((a'.length + 1 : Nat) : Int) := by omega
     have p3 : (((a'.length + 1 : Nat) : Int) == 0) = false := by simp; omega
     have q1 : ((b'.length + 1 : Nat) : Int) > 0 := by omega
     have q2 : (1 : Int) ≤ ((b'.length + 1 : Nat) : Int) := by omega
     have q3 : (((b'.length + 1 : Nat) : Int) == 0) = false := by simp; omega
     by_cases h3 : x.v < y.v
     · have kf := fresh_c x.f (okT_hd ha).1 (okT_hd ha).2
       refine aGo (cj4 hres take_cT p1 (cj4 p2 p3 q1 (cj3 q2 q3 h3))) ?_
       repeat (guard_target =~ ∀ _ : St → Prop, _; intro K hK)
       exact loop_end ⟨a', y :: b', o ++ [x]⟩ ⟨okT_tl ha, hb, by rw [← ho, sumT_lt _ _ h3]; simp, by simp; omega⟩ (by simp) (by exact leGo take_cT)
     by_cases h4 : y.v < x.v
     · have kf := fresh_c y.f (okT_hd hb).1 (okT_hd hb).2
       refine aGo (cj4 hres take_cT p1 (cj4 p2 p3 q1 (cj4 q2 q3 h3 h4))) ?_
       repeat (guard_target =~ ∀ _ : St → Prop, _; intro K hK)
       exact loop_end ⟨x :: a', b', o ++ [y]⟩ ⟨ha, okT_tl hb, by rw [← ho, sumT_gt _ _ h4]; simp, by simp; omega⟩ (by simp) (by exact leGo take_cT)
     have ka := fadd_c x.f y.f (smF_i (okT_hd ha).1) (smF_i (okT_hd hb).1)
     rw [show addD x.f y.f = (ofQ (qOf x.f + qOf y.f), 0) by simp [addD, (okT_hd ha).2, (okT_hd hb).2]] at ka
     have zz := szQ_add (qOf x.f) (qOf y.f)
     rw [szF_ok (okT_hd ha).2, szF_ok (okT_hd hb).2] at zz
     have z1 : (szF x.f : Int) ≤ 4194304 := (okT_hd ha).1
     have z2 : (szF y.f : Int) ≤ 4194304 := (okT_hd hb).1
     have ks := fsign_c (ofQ (qOf x.f + qOf y.f)) (by rw [szQ_ofQ]; omega)
     rw [sgnD_ofQ] at ks
     by_cases h5 : qOf x.f + qOf y.f = 0
     · have h6 : (sgQ (qOf x.f + qOf y.f) != 0) = false := by simp [sgQ_zero.2 h5]
       refine aGo (cj4 hres take_cT p1 (cj4 p2 p3 q1 (cj4 q2 q3 h3 (cj2 h4 h6)))) ?_
       repeat (guard_target =~ ∀ _ : St → Prop, _; intro K hK)
       exact loop_end ⟨a', b', o⟩ ⟨okT_tl ha, okT_tl hb, by rw [← ho, sumT_zero _ _ h3 h4 h5], by dsimp only; omega⟩ (by simp; omega) (by exact leGo take_cT)
     · have h6 : (sgQ (qOf x.f + qOf y.f) != 0) = true := by simp [sgQ_zero, h5]
       refine aGo (cj4 hres take_cT p1 (cj4 p2 p3 q1 (cj4 q2 q3 h3 (cj2 h4 h6)))) ?_
       repeat (guard_target =~ ∀ _ : St → Prop, _; intro K hK)
       exact loop_end ⟨a', b', o ++ [⟨x.v, ofQ (qOf x.f + qOf y.f)⟩]⟩ ⟨okT_tl ha, okT_tl hb, by rw [← ho, sumT_eq _ _ h3 h4 h5]; simp, by simp; omega⟩ (by simp; omega) (by exact leGo take_cT)
set_option maxHeartbeats 4000000
structure PlusI where
 i : Nat
 k : Nat
 o : List TermD
end Go.Proofs.Ytbnbpfjfkedbaaa
