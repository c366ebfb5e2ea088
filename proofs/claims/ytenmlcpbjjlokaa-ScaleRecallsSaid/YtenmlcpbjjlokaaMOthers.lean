/-
  ScaleOthers: the walk.
-/
import Derived.Test.YtenmlcpbjjlokaaMLawT

/-
  ScaleOthers: the walk.
-/
namespace Go.Proofs.Ytenmlcpbjjlokaa
set_option linter.unusedVariables false
set_option linter.unusedSimpArgs false
open Go Go.RowKit
attribute [local go_sem] opsL_nil opsL_go opsL_guard gSel_tt gSel_ff gSel_tf gSel_ft stepR_some stepR_none callS_some callE_some runL_nil runL_go runL_guard gSelE_tt gSelE_ff gSelE_tf gSelE_ft stepE_some stepE_none opF callD rd constD putT upd_get guardL gOf_bool gOf_undef fieldAddrF fieldF loadF storeF indexAddrF indexF sliceF strSliceF bound buildF fillF buildSliceF elemsF allocF makeSliceF lenF elemsOf appendF minmaxF convertF boxF ldE blkAt spliceE D.cells? D.isCell Res.pure ov TyI.agg binD unD boolD initT thenA inBlockA argD argDs refsD refsL killW datJ datJs endA_ret endA_normal endR_some oneD_one oneD_two oneD_three oneD_four resDs resD fzT Value.oneCell' strip tabT tabM
attribute [local go_sem] List.map Nat.reduceEqDiff Nat.reduceBEq List.getElem?_cons_zero List.getElem?_cons_succ List.getElem?_nil Option.getD_some Option.getD_none true_and and_true true_or or_true false_or or_false and_self Nat.add_zero Nat.zero_add List.length_nil List.length_cons forall_const ite_true ite_false Bool.or_self Bool.false_eq_true Option.map_some Option.map_none beq_self_eq_true Nat.reduceAdd Nat.reduceSub Nat.reduceMul reduceCtorEq List.getElem?_toArray Bool.not_true Bool.not_false decide_eq_true_eq decide_true decide_false Nat.reduceLeDiff Nat.reduceLT Bool.or_false Bool.or_true Bool.and_true Bool.and_false Bool.false_and Bool.true_and Bool.true_beq Bool.false_beq beq_true beq_false Bool.not_eq_true List.drop_succ_cons List.take_succ_cons List.drop_zero List.take_zero List.length_map List.getElem?_map List.length_append List.all_cons List.all_nil List.append_nil List.nil_append List.cons_append List.set_cons_zero List.set_cons_succ Int.toNat_natCast Int.toNat_zero Option.isSome_some Option.isSome_none Array.size_empty ByteArray.size_empty Int.reduceToNat Int.reduceAdd Int.reduceSub Int.reduceLT Int.reduceLE Int.reduceEq Int.reduceNe Int.reduceBEq Int.reduceNeg List.forall_mem_cons List.not_mem_nil false_implies List.forall_mem_map implies_true Nat.reduceBNe Int.cast_ofNat_Int Int.reduceMul Int.reduceGE Int.reduceGT wrap_in ty_2 ty_3 ty_4 ty_5 ty_6 ty_7 ty_8 ty_9 ty_10 ty_11 ty_12 ty_13 ty_14 ty_18 ty_19 ty_21 ty_22 ty_23 ty_24 ty_25 ty_30 ty_31 ty_32 ty_33 ty_34 ty_44 ty_51 ty_52 ty_54 ty_55 ty_56 ty_57 ty_58 ty_74 ty_75 ty_78 ty_93 ty_94 ty_121 ty_122 ty_131 ty_132 ty_133 ty_134 ty_135 ty_137 ty_138 ty_139 ty_142 ty_143 ty_144 ty_145
set_option maxRecDepth 100000
set_option maxHeartbeats 2000000

/-! The certificate in force, as a value. -/
def stepV (s day : Int) (o : Option CertD) (c : CertD) : Option CertD :=
  if ownC c s day then (match o with
    | none => some c
    | some x => if c.f ≥ x.f then some c else some x) else o
def findV (l : List CertD) (s day : Int) : Option CertD := l.foldl (stepV s day) none
theorem foldl_take_succ {α β : Type} (f : β → α → β) (z : β) {l : List α} {k : Nat} {x : α} (hx : l[k]? = some x) : (l.take (k + 1)).foldl f z = f ((l.take k).foldl f z) x := by
  rw [List.take_add_one, hx]; simp
theorem findN_val {l : List CertD} {s day : Int} : ∀ k, k ≤ l.length → (findN l s day k).bind (fun b => l[b]?) = (l.take k).foldl (stepV s day) none ∧ (findN l s day k).isSome = ((l.take k).foldl (stepV s day) none).isSome := by
  intro k
  induction k with
  | zero => intro _; exact ⟨rfl, rfl⟩
  | succ k ih =>
    intro hk
    obtain ⟨h1, h2⟩ := ih (by omega)
    obtain ⟨c, hx⟩ : ∃ e, l[k]? = some e := ⟨_, List.getElem?_eq_getElem (by omega)⟩
    rw [foldl_take_succ _ _ hx, ← h1]
    unfold stepV
    cases ho : ownC c s day
    · rw [findN_not hx ho]
      exact ⟨rfl, by rw [h2, ← h1]; rfl⟩
    · cases hf : findN l s day k with
      | none =>
        rw [findN_take hx ho (by rw [hf]; rfl)]
        exact ⟨by simp [hx], rfl⟩
      | some b =>
        obtain ⟨hb, x, hy, _⟩ := findN_lt k b hf
        by_cases hc : c.f ≥ x.f
        · rw [findN_take hx ho (by simp [hf, takesC, hy, hc])]
          simp [hx, hy, hc]
        · rw [findN_keep hx (by simp [hf, takesC, hy]; omega), hf]
          simp [hy, hc]
theorem findC_val (l : List CertD) (s day : Int) : (findC l s day).bind (fun b => l[b]?) = findV l s day ∧ (findC l s day).isSome = (findV l s day).isSome := by
  have := findN_val (l := l) (s := s) (day := day) l.length (Nat.le_refl _)
  rwa [List.take_length] at this
theorem intD_val (cs : List CertD) (rs : List RecD) (which reading day : Int) : intD cs rs which reading day = match findV cs which day with
    | none => noI
    | some c => if recC rs which day || !inB reading 0 1099511627776 then noI else okI (reading : Int) (errQ c reading day) := by
  rw [← (findC_val cs which day).1]
  unfold intD
  cases findC cs which day with
  | none => rfl
  | some b => rfl
theorem findV_filter (l : List CertD) (s day : Int) : findV (l.filter (fun c => ownC c s day)) s day = findV l s day := by
  unfold findV
  rw [List.foldl_filter]
  congr 1
  funext o c
  unfold stepV
  cases ownC c s day <;> rfl
theorem stepV_some (l : List CertD) (s day : Int) : ∀ o, (l.foldl (stepV s day) o).isSome = (o.isSome || l.any (fun c => ownC c s day)) := by
  induction l with
  | nil => intro o; simp
  | cons c l ih =>
    intro o
    rw [List.foldl_cons, ih, List.any_cons]
    unfold stepV
    cases ownC c s day
    · simp
    · cases o with
      | none => simp
      | some x =>
        by_cases h : c.f ≥ x.f <;> simp [h]
theorem findC_filter (l : List CertD) (s day : Int) : (findC l s day).isSome = decide (((l.filter (fun c => ownC c s day)).length : Int) > 0) := by
  rw [(findC_val l s day).2]
  unfold findV
  rw [stepV_some]
  simp only [Option.isSome_none, Bool.false_or]
  cases h : l.any (fun c => ownC c s day)
  · rw [List.any_eq_false] at h
    have : l.filter (fun c => ownC c s day) = [] := List.filter_eq_nil_iff.2 h
    rw [this]; rfl
  · obtain ⟨c, hc, ho⟩ := List.any_eq_true.1 h
    have : 0 < (l.filter (fun c => ownC c s day)).length := List.length_pos_of_mem (List.mem_filter.2 ⟨hc, ho⟩)
    exact (decide_eq_true (by omega)).symm
theorem recC_filter (l : List RecD) (s day : Int) : recC (l.filter (fun r => r.s == s)) s day = recC l s day := by
  unfold recC
  rw [List.any_filter]
  congr 1
  funext r
  unfold hitR
  cases r.s == s <;> rfl
theorem intD_others (cs : List CertD) (rs : List RecD) (which reading day : Int) : intD (cs.filter (fun c => ownC c which day)) (rs.filter (fun r => r.s == which)) which reading day = intD cs rs which reading day := by
  rw [intD_val, intD_val, findV_filter, recC_filter]
theorem filter_take_yes {α : Type} {p : α → Bool} {l : List α} {k : Nat} {x : α} (hx : l[k]? = some x) (h : p x = true) : (l.take (k + 1)).filter p = (l.take k).filter p ++ [x] := by
  rw [List.take_add_one, hx, List.filter_append]; simp [h]
theorem filter_take_no {α : Type} {p : α → Bool} {l : List α} {k : Nat} {x : α} (hx : l[k]? = some x) (h : p x = false) : (l.take (k + 1)).filter p = (l.take k).filter p := by
  rw [List.take_add_one, hx, List.filter_append]; simp [h]

theorem map_datJ {α : Type} {f : α → List D} (h : ∀ a, List.map datJ (f a) = f a) (l : List α) : List.map (List.map datJ) (List.map f l) = List.map f l := by
  rw [List.map_map]
  exact List.map_congr_left fun a _ => h a
theorem others13_c (cs : List CertD) (rs : List RecD) (which reading day : Int) : Contract Try.prog 6 [encCs cs, encRs rs, dI which, dI reading, dI day] (dB true) := by
  have hres := Try.results6
  have k1 := sane_c
  have k2 := few13_c cs rs
  cases hfew : (decide ((cs.length : Int) ≤ 120) && decide ((rs.length : Int) ≤ 60))
  · rw [hfew] at k2
    refine Contract.ofA (CallA.inline Try.func6 rfl (by kernel_rfl) (by kernel_rfl) (by kernel_rfl) ?_)
    rw [Try.ntmps6]
    repeat (first
      | (refine hK _ ?_; clear hK; clear K)
      | (refine aSeq fun K hK => ?_)
      | (refine aBlock ?_)
      | (refine aSkip ?_)
      | (refine aExit ?_)
      | (refine aRet ?_)
      | (refine aOps _ rfl (by kernel_rfl) ?_)
      | (refine aRunK _ rfl mixed (by kernel_rfl) (by kernel_rfl) fun KE hE => ?_)
      | (refine hE _ _ (by kernel_rfl) (intsOk_no rfl) ?_; clear hE; clear KE)
      | (refine hE _ _ (by kernel_rfl) (intsOk_yes ?hi ?hj) ?_; (case hi => (repeat (refine intsDead_updB rfl ?_)); exact intsDead_nil); (case hj => simp); clear hE; clear KE)
      | (refine aCondT rfl ?hc ?_; case hc => simp only [go_sem, ↓reduceIte, hres])
      | (refine aCondF rfl ?hc ?_; case hc => simp only [go_sem, ↓reduceIte, hres])
      | (refine callT_of (k1) ?_ ?_; rotate_left; (repeat (refine intsDead_updB rfl ?_)); exact intsDead_nil)
      | (refine callT_ofN (k1) ?_)
      | (refine callU_of (k1) rfl ?_)
      | (refine callU_ofN (k1) rfl ?_)
      | (refine callT_of (k2) ?_ ?_; rotate_left; (repeat (refine intsDead_updB rfl ?_)); exact intsDead_nil)
      | (refine callT_ofN (k2) ?_)
      | (refine callU_of (k2) rfl ?_)
      | (refine callU_ofN (k2) rfl ?_)
      | (simp only [go_sem, ↓reduceIte, hres])
      | (refine And.intro ?ho ?_; (case ho => omega))
      | (clear hK; clear K))
  rw [hfew] at k2
  simp only [Bool.and_eq_true, decide_eq_true_eq] at hfew
  refine Contract.ofA (CallA.inline Try.func6 rfl (by kernel_rfl) (by kernel_rfl) (by kernel_rfl) ?_)
  rw [Try.ntmps6]
  repeat (first
      | (refine hK _ ?_; clear hK; clear K)
      | (refine aSeq fun K hK => ?_)
      | (refine aBlock ?_)
      | (refine aSkip ?_)
      | (refine aExit ?_)
      | (refine aRet ?_)
      | (refine aOps _ rfl (by kernel_rfl) ?_)
      | (refine aRunK _ rfl mixed (by kernel_rfl) (by kernel_rfl) fun KE hE => ?_)
      | (refine hE _ _ (by kernel_rfl) (intsOk_no rfl) ?_; clear hE; clear KE)
      | (refine hE _ _ (by kernel_rfl) (intsOk_yes ?hi ?hj) ?_; (case hi => (repeat (refine intsDead_updB rfl ?_)); exact intsDead_nil); (case hj => simp); clear hE; clear KE)
      | (refine aCondT rfl ?hc ?_; case hc => simp only [go_sem, ↓reduceIte, hres])
      | (refine aCondF rfl ?hc ?_; case hc => simp only [go_sem, ↓reduceIte, hres])
      | (refine callT_of (k1) ?_ ?_; rotate_left; (repeat (refine intsDead_updB rfl ?_)); exact intsDead_nil)
      | (refine callT_ofN (k1) ?_)
      | (refine callU_of (k1) rfl ?_)
      | (refine callU_ofN (k1) rfl ?_)
      | (refine callT_of (k2) ?_ ?_; rotate_left; (repeat (refine intsDead_updB rfl ?_)); exact intsDead_nil)
      | (refine callT_ofN (k2) ?_)
      | (refine callU_of (k2) rfl ?_)
      | (refine callU_ofN (k2) rfl ?_)
      | (simp only [go_sem, ↓reduceIte, hres])
      | (refine And.intro ?ho ?_; (case ho => omega))
      | (clear hK; clear K))
  refine aLoopT (fun (k : Nat) => [(0, encCs cs), (1, encRs rs), (2, dI which), (3, dI reading), (4, dI day), (11, dB true), (12, .ls 0 ((cs.take k).filter (fun c => ownC c which day)).length), (13, dI k)]) (fun k => [(0, ⟨25, ((cs.take k).filter (fun c => ownC c which day)).length, 6, ((cs.take k).filter (fun c => ownC c which day)).map cC, 0, false⟩)]) 1 0 (fun k => k ≤ cs.length) (fun k => cs.length - k) 0 (by omega) ?_ ?_
  · refine le_head _ _ _ ?_ ?_ ?_ ?_ ?_ (.inl rfl) <;> simp [go_sem, okD, okDs, okBlk] <;> (first | (intros; subst_vars; simp [okD, okDs]; done) | (intro _ h; rcases h with ⟨_, _, rfl⟩ | rfl <;> simp [okD, okDs]; done) | (intros; rename_i h; rcases h with ⟨_, _, rfl⟩ | rfl <;> simp [okD, okDs]))
  · rintro k hk
    have hw : IntKind.i64.wrap ((k : Int) + 1) = (k : Int) + 1 := wrap_in (by omega) (by omega)
    have h0 : (0 : Int) ≤ k := by omega
    by_cases h1 : (k : Int) < cs.length
    · obtain ⟨c, hx⟩ : ∃ e, cs[k]? = some e := ⟨_, List.getElem?_eq_getElem (by omega)⟩
      have hrt := sright_c c
      cases ho : ownC c which day
      · have hn := filter_take_no (p := fun c => ownC c which day) hx ho
        cases h2 : rightC c
        · rw [h2] at hrt
          repeat (first
      | (refine hK _ ?_; clear hK; clear K)
      | (refine aSeq fun K hK => ?_)
      | (refine aBlock ?_)
      | (refine aSkip ?_)
      | (refine aExit ?_)
      | (refine aRet ?_)
      | (refine aOps _ rfl (by kernel_rfl) ?_)
      | (refine aRunK _ rfl mixed (by kernel_rfl) (by kernel_rfl) fun KE hE => ?_)
      | (refine hE _ _ (by kernel_rfl) (intsOk_no rfl) ?_; clear hE; clear KE)
      | (refine hE _ _ (by kernel_rfl) (intsOk_yes ?hi ?hj) ?_; (case hi => (repeat (refine intsDead_updB rfl ?_)); exact intsDead_nil); (case hj => simp); clear hE; clear KE)
      | (refine aCondT rfl ?hc ?_; case hc => simp only [go_sem, ↓reduceIte, hres, h0, h1, hx, hw])
      | (refine aCondF rfl ?hc ?_; case hc => simp only [go_sem, ↓reduceIte, hres, h0, h1, hx, hw])
      | (refine callT_of (hrt) ?_ ?_; rotate_left; (repeat (refine intsDead_updB rfl ?_)); exact intsDead_nil)
      | (refine callT_ofN (hrt) ?_)
      | (refine callU_of (hrt) rfl ?_)
      | (refine callU_ofN (hrt) rfl ?_)
      | (simp only [go_sem, ↓reduceIte, hres, h0, h1, hx, hw])
      | (refine And.intro ?ho ?_; (case ho => omega))
      | (clear hK; clear K))
          exact loop_end (k + 1) (by omega) (by omega) (by refine le_head _ _ _ ?_ ?_ ?_ ?_ ?_ (.inl rfl) <;> simp [go_sem, okD, okDs, okBlk, hn] <;> (first | (intros; subst_vars; simp [okD, okDs]; done) | (intro _ h; rcases h with ⟨_, _, rfl⟩ | rfl <;> simp [okD, okDs]; done) | (intros; rename_i h; rcases h with ⟨_, _, rfl⟩ | rfl <;> simp [okD, okDs])))
        rw [h2] at hrt
        cases h3 : c.s == which
        · repeat (first
      | (refine hK _ ?_; clear hK; clear K)
      | (refine aSeq fun K hK => ?_)
      | (refine aBlock ?_)
      | (refine aSkip ?_)
      | (refine aExit ?_)
      | (refine aRet ?_)
      | (refine aOps _ rfl (by kernel_rfl) ?_)
      | (refine aRunK _ rfl mixed (by kernel_rfl) (by kernel_rfl) fun KE hE => ?_)
      | (refine hE _ _ (by kernel_rfl) (intsOk_no rfl) ?_; clear hE; clear KE)
      | (refine hE _ _ (by kernel_rfl) (intsOk_yes ?hi ?hj) ?_; (case hi => (repeat (refine intsDead_updB rfl ?_)); exact intsDead_nil); (case hj => simp); clear hE; clear KE)
      | (refine aCondT rfl ?hc ?_; case hc => simp only [go_sem, ↓reduceIte, hres, h0, h1, hx, hw, h3])
      | (refine aCondF rfl ?hc ?_; case hc => simp only [go_sem, ↓reduceIte, hres, h0, h1, hx, hw, h3])
      | (refine callT_of (hrt) ?_ ?_; rotate_left; (repeat (refine intsDead_updB rfl ?_)); exact intsDead_nil)
      | (refine callT_ofN (hrt) ?_)
      | (refine callU_of (hrt) rfl ?_)
      | (refine callU_ofN (hrt) rfl ?_)
      | (simp only [go_sem, ↓reduceIte, hres, h0, h1, hx, hw, h3])
      | (refine And.intro ?ho ?_; (case ho => omega))
      | (clear hK; clear K))
          exact loop_end (k + 1) (by omega) (by omega) (by refine le_head _ _ _ ?_ ?_ ?_ ?_ ?_ (.inl rfl) <;> simp [go_sem, okD, okDs, okBlk, hn] <;> (first | (intros; subst_vars; simp [okD, okDs]; done) | (intro _ h; rcases h with ⟨_, _, rfl⟩ | rfl <;> simp [okD, okDs]; done) | (intros; rename_i h; rcases h with ⟨_, _, rfl⟩ | rfl <;> simp [okD, okDs])))
        by_cases h4 : c.f ≤ day
        · have h5 : ¬ day ≤ c.u := fun h => by simp [ownC, coversC, h2, h3, h4, h] at ho
          repeat (first
      | (refine hK _ ?_; clear hK; clear K)
      | (refine aSeq fun K hK => ?_)
      | (refine aBlock ?_)
      | (refine aSkip ?_)
      | (refine aExit ?_)
      | (refine aRet ?_)
      | (refine aOps _ rfl (by kernel_rfl) ?_)
      | (refine aRunK _ rfl mixed (by kernel_rfl) (by kernel_rfl) fun KE hE => ?_)
      | (refine hE _ _ (by kernel_rfl) (intsOk_no rfl) ?_; clear hE; clear KE)
      | (refine hE _ _ (by kernel_rfl) (intsOk_yes ?hi ?hj) ?_; (case hi => (repeat (refine intsDead_updB rfl ?_)); exact intsDead_nil); (case hj => simp); clear hE; clear KE)
      | (refine aCondT rfl ?hc ?_; case hc => simp only [go_sem, ↓reduceIte, hres, h0, h1, hx, hw, h3, h4, h5])
      | (refine aCondF rfl ?hc ?_; case hc => simp only [go_sem, ↓reduceIte, hres, h0, h1, hx, hw, h3, h4, h5])
      | (refine callT_of (hrt) ?_ ?_; rotate_left; (repeat (refine intsDead_updB rfl ?_)); exact intsDead_nil)
      | (refine callT_ofN (hrt) ?_)
      | (refine callU_of (hrt) rfl ?_)
      | (refine callU_ofN (hrt) rfl ?_)
      | (simp only [go_sem, ↓reduceIte, hres, h0, h1, hx, hw, h3, h4, h5])
      | (refine And.intro ?ho ?_; (case ho => omega))
      | (clear hK; clear K))
          exact loop_end (k + 1) (by omega) (by omega) (by refine le_head _ _ _ ?_ ?_ ?_ ?_ ?_ (.inl rfl) <;> simp [go_sem, okD, okDs, okBlk, hn] <;> (first | (intros; subst_vars; simp [okD, okDs]; done) | (intro _ h; rcases h with ⟨_, _, rfl⟩ | rfl <;> simp [okD, okDs]; done) | (intros; rename_i h; rcases h with ⟨_, _, rfl⟩ | rfl <;> simp [okD, okDs])))
        · repeat (first
      | (refine hK _ ?_; clear hK; clear K)
      | (refine aSeq fun K hK => ?_)
      | (refine aBlock ?_)
      | (refine aSkip ?_)
      | (refine aExit ?_)
      | (refine aRet ?_)
      | (refine aOps _ rfl (by kernel_rfl) ?_)
      | (refine aRunK _ rfl mixed (by kernel_rfl) (by kernel_rfl) fun KE hE => ?_)
      | (refine hE _ _ (by kernel_rfl) (intsOk_no rfl) ?_; clear hE; clear KE)
      | (refine hE _ _ (by kernel_rfl) (intsOk_yes ?hi ?hj) ?_; (case hi => (repeat (refine intsDead_updB rfl ?_)); exact intsDead_nil); (case hj => simp); clear hE; clear KE)
      | (refine aCondT rfl ?hc ?_; case hc => simp only [go_sem, ↓reduceIte, hres, h0, h1, hx, hw, h3, h4])
      | (refine aCondF rfl ?hc ?_; case hc => simp only [go_sem, ↓reduceIte, hres, h0, h1, hx, hw, h3, h4])
      | (refine callT_of (hrt) ?_ ?_; rotate_left; (repeat (refine intsDead_updB rfl ?_)); exact intsDead_nil)
      | (refine callT_ofN (hrt) ?_)
      | (refine callU_of (hrt) rfl ?_)
      | (refine callU_ofN (hrt) rfl ?_)
      | (simp only [go_sem, ↓reduceIte, hres, h0, h1, hx, hw, h3, h4])
      | (refine And.intro ?ho ?_; (case ho => omega))
      | (clear hK; clear K))
          exact loop_end (k + 1) (by omega) (by omega) (by refine le_head _ _ _ ?_ ?_ ?_ ?_ ?_ (.inl rfl) <;> simp [go_sem, okD, okDs, okBlk, hn] <;> (first | (intros; subst_vars; simp [okD, okDs]; done) | (intro _ h; rcases h with ⟨_, _, rfl⟩ | rfl <;> simp [okD, okDs]; done) | (intros; rename_i h; rcases h with ⟨_, _, rfl⟩ | rfl <;> simp [okD, okDs])))
      · have hn := filter_take_yes (p := fun c => ownC c which day) hx ho
        have ho' := ho
        simp only [ownC, coversC, Bool.and_eq_true, decide_eq_true_eq] at ho'
        obtain ⟨h3, ⟨h2, h4⟩, h5⟩ := ho'
        rw [h2] at hrt
        have hlen : ((cs.take k).filter (fun c => ownC c which day)).length ≤ 120 := by
          have h8 := List.length_filter_le (fun c => ownC c which day) (cs.take k)
          have h9 := List.length_take_le k cs
          omega
        repeat (first
      | (refine hK _ ?_; clear hK; clear K)
      | (refine aSeq fun K hK => ?_)
      | (refine aBlock ?_)
      | (refine aSkip ?_)
      | (refine aExit ?_)
      | (refine aRet ?_)
      | (refine aOps _ rfl (by kernel_rfl) ?_)
      | (refine aRunK _ rfl mixed (by kernel_rfl) (by kernel_rfl) fun KE hE => ?_)
      | (refine hE _ _ (by kernel_rfl) (intsOk_no rfl) ?_; clear hE; clear KE)
      | (refine hE _ _ (by kernel_rfl) (intsOk_yes ?hi ?hj) ?_; (case hi => (repeat (refine intsDead_updB rfl ?_)); exact intsDead_nil); (case hj => simp); clear hE; clear KE)
      | (refine aCondT rfl ?hc ?_; case hc => simp only [go_sem, ↓reduceIte, hres, h0, h1, hx, hw, h3, h4, h5])
      | (refine aCondF rfl ?hc ?_; case hc => simp only [go_sem, ↓reduceIte, hres, h0, h1, hx, hw, h3, h4, h5])
      | (refine callT_of (hrt) ?_ ?_; rotate_left; (repeat (refine intsDead_updB rfl ?_)); exact intsDead_nil)
      | (refine callT_ofN (hrt) ?_)
      | (refine callU_of (hrt) rfl ?_)
      | (refine callU_ofN (hrt) rfl ?_)
      | (simp only [go_sem, ↓reduceIte, hres, h0, h1, hx, hw, h3, h4, h5])
      | (refine And.intro ?ho ?_; (case ho => omega))
      | (clear hK; clear K))
        exact loop_end (k + 1) (by omega) (by omega) (by refine le_head _ _ _ ?_ ?_ ?_ ?_ ?_ (.inl rfl) <;> simp [go_sem, okD, okDs, okBlk, hn] <;> (first | (intros; subst_vars; simp [okD, okDs]; done) | (intro _ h; rcases h with ⟨_, _, rfl⟩ | rfl <;> simp [okD, okDs]; done) | (intros; rename_i h; rcases h with ⟨_, _, rfl⟩ | rfl <;> simp [okD, okDs])))
    · have e : k = cs.length := by omega
      subst e
      rw [List.take_length]
      repeat (first
      | (refine hK _ ?_; clear hK; clear K)
      | (refine aSeq fun K hK => ?_)
      | (refine aBlock ?_)
      | (refine aSkip ?_)
      | (refine aExit ?_)
      | (refine aRet ?_)
      | (refine aOps _ rfl (by kernel_rfl) ?_)
      | (refine aRunK _ rfl mixed (by kernel_rfl) (by kernel_rfl) fun KE hE => ?_)
      | (refine hE _ _ (by kernel_rfl) (intsOk_no rfl) ?_; clear hE; clear KE)
      | (refine hE _ _ (by kernel_rfl) (intsOk_yes ?hi ?hj) ?_; (case hi => (repeat (refine intsDead_updB rfl ?_)); exact intsDead_nil); (case hj => simp); clear hE; clear KE)
      | (refine aCondT rfl ?hc ?_; case hc => simp only [go_sem, ↓reduceIte, hres, h1])
      | (refine aCondF rfl ?hc ?_; case hc => simp only [go_sem, ↓reduceIte, hres, h1])
      | (simp only [go_sem, ↓reduceIte, hres, h1])
      | (refine And.intro ?ho ?_; (case ho => omega))
      | (clear hK; clear K))
      generalize hown : cs.filter (fun c => ownC c which day) = own
      refine aLoopT (fun (k : Nat) => [(0, encCs cs), (1, encRs rs), (2, dI which), (3, dI reading), (4, dI day), (11, dB true), (12, .ls 0 own.length), (14, .ls 1 ((rs.take k).filter (fun r => r.s == which)).length), (15, dI k)]) (fun k => [(0, ⟨25, own.length, 6, own.map cC, 0, false⟩), (1, ⟨52, ((rs.take k).filter (fun r => r.s == which)).length, 2, ((rs.take k).filter (fun r => r.s == which)).map cR, 0, false⟩)]) 2 0 (fun k => k ≤ rs.length) (fun k => rs.length - k) 0 (by omega) ?_ ?_
      · refine le_head _ _ _ ?_ ?_ ?_ ?_ ?_ (.inl rfl) <;> simp [go_sem, okD, okDs, okBlk, hown] <;> (first | (intros; subst_vars; simp [okD, okDs]; done) | (intro _ h; rcases h with ⟨_, _, rfl⟩ | rfl <;> simp [okD, okDs]; done) | (intros; rename_i h; rcases h with ⟨_, _, rfl⟩ | rfl <;> simp [okD, okDs]))
      · rintro k hk
        have hw : IntKind.i64.wrap ((k : Int) + 1) = (k : Int) + 1 := wrap_in (by omega) (by omega)
        have h0 : (0 : Int) ≤ k := by omega
        by_cases h1 : (k : Int) < rs.length
        · obtain ⟨c, hx⟩ : ∃ e, rs[k]? = some e := ⟨_, List.getElem?_eq_getElem (by omega)⟩
          cases h3 : c.s == which
          · have hn := filter_take_no (p := fun r => r.s == which) hx h3
            repeat (first
      | (refine hK _ ?_; clear hK; clear K)
      | (refine aSeq fun K hK => ?_)
      | (refine aBlock ?_)
      | (refine aSkip ?_)
      | (refine aExit ?_)
      | (refine aRet ?_)
      | (refine aOps _ rfl (by kernel_rfl) ?_)
      | (refine aRunK _ rfl mixed (by kernel_rfl) (by kernel_rfl) fun KE hE => ?_)
      | (refine hE _ _ (by kernel_rfl) (intsOk_no rfl) ?_; clear hE; clear KE)
      | (refine hE _ _ (by kernel_rfl) (intsOk_yes ?hi ?hj) ?_; (case hi => (repeat (refine intsDead_updB rfl ?_)); exact intsDead_nil); (case hj => simp); clear hE; clear KE)
      | (refine aCondT rfl ?hc ?_; case hc => simp only [go_sem, ↓reduceIte, hres, h0, h1, hx, hw, h3])
      | (refine aCondF rfl ?hc ?_; case hc => simp only [go_sem, ↓reduceIte, hres, h0, h1, hx, hw, h3])
      | (simp only [go_sem, ↓reduceIte, hres, h0, h1, hx, hw, h3])
      | (refine And.intro ?ho ?_; (case ho => omega))
      | (clear hK; clear K))
            exact loop_end (k + 1) (by omega) (by omega) (by refine le_head _ _ _ ?_ ?_ ?_ ?_ ?_ (.inl rfl) <;> simp [go_sem, okD, okDs, okBlk, hn] <;> (first | (intros; subst_vars; simp [okD, okDs]; done) | (intro _ h; rcases h with ⟨_, _, rfl⟩ | rfl <;> simp [okD, okDs]; done) | (intros; rename_i h; rcases h with ⟨_, _, rfl⟩ | rfl <;> simp [okD, okDs])))
          · have hn := filter_take_yes (p := fun r => r.s == which) hx h3
            have hlen : ((rs.take k).filter (fun r => r.s == which)).length ≤ 120 := by
              have h8 := List.length_filter_le (fun r => r.s == which) (rs.take k)
              have h9 := List.length_take_le k rs
              omega
            repeat (first
      | (refine hK _ ?_; clear hK; clear K)
      | (refine aSeq fun K hK => ?_)
      | (refine aBlock ?_)
      | (refine aSkip ?_)
      | (refine aExit ?_)
      | (refine aRet ?_)
      | (refine aOps _ rfl (by kernel_rfl) ?_)
      | (refine aRunK _ rfl mixed (by kernel_rfl) (by kernel_rfl) fun KE hE => ?_)
      | (refine hE _ _ (by kernel_rfl) (intsOk_no rfl) ?_; clear hE; clear KE)
      | (refine hE _ _ (by kernel_rfl) (intsOk_yes ?hi ?hj) ?_; (case hi => (repeat (refine intsDead_updB rfl ?_)); exact intsDead_nil); (case hj => simp); clear hE; clear KE)
      | (refine aCondT rfl ?hc ?_; case hc => simp only [go_sem, ↓reduceIte, hres, h0, h1, hx, hw, h3])
      | (refine aCondF rfl ?hc ?_; case hc => simp only [go_sem, ↓reduceIte, hres, h0, h1, hx, hw, h3])
      | (simp only [go_sem, ↓reduceIte, hres, h0, h1, hx, hw, h3])
      | (refine And.intro ?ho ?_; (case ho => omega))
      | (clear hK; clear K))
            exact loop_end (k + 1) (by omega) (by omega) (by refine le_head _ _ _ ?_ ?_ ?_ ?_ ?_ (.inl rfl) <;> simp [go_sem, okD, okDs, okBlk, hn] <;> (first | (intros; subst_vars; simp [okD, okDs]; done) | (intro _ h; rcases h with ⟨_, _, rfl⟩ | rfl <;> simp [okD, okDs]; done) | (intros; rename_i h; rcases h with ⟨_, _, rfl⟩ | rfl <;> simp [okD, okDs])))
        · have e : k = rs.length := by omega
          subst e
          rw [List.take_length]
          have q1 := inter_c cs rs which reading day (by omega) (by omega)
          have q2 := inter_c own (rs.filter (fun r => r.s == which)) which reading day (by rw [← hown]; have := List.length_filter_le (fun c => ownC c which day) cs; omega) (by have := List.length_filter_le (fun r => r.s == which) rs; omega)
          rw [← hown, intD_others, hown] at q2
          have q3 := find_c cs which day (by omega)
          rw [findC_filter, hown] at q3
          have q4 := same_c (intD cs rs which reading day).lo (intD cs rs which reading day).lo (by have := (szF_inter cs rs which reading day).1; omega)
          have q5 := same_c (intD cs rs which reading day).hi (intD cs rs which reading day).hi (by have := (szF_inter cs rs which reading day).2; omega)
          rw [sameF_self] at q4 q5
          have j1 := map_datJ (f := cC) (fun _ => rfl) own
          have j2 := map_datJ (f := cR) (fun _ => rfl) (rs.filter (fun r => r.s == which))
          repeat (first
      | (refine hK _ ?_; clear hK; clear K)
      | (refine aSeq fun K hK => ?_)
      | (refine aBlock ?_)
      | (refine aSkip ?_)
      | (refine aExit ?_)
      | (refine aRet ?_)
      | (refine aOps _ rfl (by kernel_rfl) ?_)
      | (refine aRunK _ rfl mixed (by kernel_rfl) (by kernel_rfl) fun KE hE => ?_)
      | (refine hE _ _ (by kernel_rfl) (intsOk_no rfl) ?_; clear hE; clear KE)
      | (refine hE _ _ (by kernel_rfl) (intsOk_yes ?hi ?hj) ?_; (case hi => (repeat (refine intsDead_updB rfl ?_)); exact intsDead_nil); (case hj => simp); clear hE; clear KE)
      | (refine aCondT rfl ?hc ?_; case hc => simp only [go_sem, ↓reduceIte, hres, h1, j1, j2, beq_self_eq_true])
      | (refine aCondF rfl ?hc ?_; case hc => simp only [go_sem, ↓reduceIte, hres, h1, j1, j2, beq_self_eq_true])
      | (refine callT_of (q1) ?_ ?_; rotate_left; (repeat (refine intsDead_updB rfl ?_)); exact intsDead_nil)
      | (refine callT_ofN (q1) ?_)
      | (refine callU_of (q1) rfl ?_)
      | (refine callU_ofN (q1) rfl ?_)
      | (refine callT_of (q2) ?_ ?_; rotate_left; (repeat (refine intsDead_updB rfl ?_)); exact intsDead_nil)
      | (refine callT_ofN (q2) ?_)
      | (refine callU_of (q2) rfl ?_)
      | (refine callU_ofN (q2) rfl ?_)
      | (refine callT_of (q3) ?_ ?_; rotate_left; (repeat (refine intsDead_updB rfl ?_)); exact intsDead_nil)
      | (refine callT_ofN (q3) ?_)
      | (refine callU_of (q3) rfl ?_)
      | (refine callU_ofN (q3) rfl ?_)
      | (refine callT_of (q4) ?_ ?_; rotate_left; (repeat (refine intsDead_updB rfl ?_)); exact intsDead_nil)
      | (refine callT_ofN (q4) ?_)
      | (refine callU_of (q4) rfl ?_)
      | (refine callU_ofN (q4) rfl ?_)
      | (refine callT_of (q5) ?_ ?_; rotate_left; (repeat (refine intsDead_updB rfl ?_)); exact intsDead_nil)
      | (refine callT_ofN (q5) ?_)
      | (refine callU_of (q5) rfl ?_)
      | (refine callU_ofN (q5) rfl ?_)
      | (simp only [go_sem, ↓reduceIte, hres, h1, j1, j2, beq_self_eq_true])
      | (refine And.intro ?ho ?_; (case ho => omega))
      | (clear hK; clear K))
end Go.Proofs.Ytenmlcpbjjlokaa
