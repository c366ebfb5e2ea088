/-
  dual.multipliers, Signed, add, below.
-/
import Derived.Test.YtkddoopknapemaaPDualP
namespace Go.Proofs.Ytkddoopknapemaa
set_option linter.unusedVariables false
set_option linter.unusedSimpArgs false
set_option linter.unusedSectionVars false
open Go Go.RowKit
attribute [local go_sem] opsL_nil opsL_go opsL_guard gSel_tt gSel_ff gSel_tf gSel_ft stepR_some stepR_none callS_some callE_some runL_nil runL_go runL_guard gSelE_tt gSelE_ff gSelE_tf gSelE_ft stepE_some stepE_none opF callD rd constD putT upd_get guardL gOf_bool gOf_undef fieldAddrF fieldF loadF storeF indexAddrF indexF sliceF strSliceF bound buildF fillF buildSliceF elemsF allocF makeSliceF lenF elemsOf appendF minmaxF convertF boxF ldE blkAt spliceE D.cells? D.isCell Res.pure ov TyI.agg binD unD boolD initT thenA inBlockA argD argDs refsD refsL killW datJ datJs endA_ret endA_normal endR_some oneD_one oneD_two oneD_three oneD_four resDs resD fzT Value.oneCell' strip tabT tabM
attribute [local go_sem] List.map Nat.reduceEqDiff Nat.reduceBEq List.getElem?_cons_zero List.getElem?_cons_succ List.getElem?_nil Option.getD_some Option.getD_none true_and and_true true_or or_true false_or or_false and_self Nat.add_zero Nat.zero_add List.length_nil List.length_cons forall_const ite_true ite_false Bool.or_self Bool.false_eq_true Option.map_some Option.map_none beq_self_eq_true Nat.reduceAdd Nat.reduceSub Nat.reduceMul reduceCtorEq List.getElem?_toArray Bool.not_true Bool.not_false decide_eq_true_eq decide_true decide_false Nat.reduceLeDiff Nat.reduceLT Bool.or_false Bool.or_true Bool.and_true Bool.and_false Bool.false_and Bool.true_and Bool.true_beq Bool.false_beq beq_true beq_false Bool.not_eq_true List.drop_succ_cons List.take_succ_cons List.drop_zero List.take_zero List.length_map List.getElem?_map List.length_append List.all_cons List.all_nil List.append_nil List.nil_append List.cons_append List.set_cons_zero List.set_cons_succ Int.toNat_natCast Int.toNat_zero Option.isSome_some Option.isSome_none Array.size_empty ByteArray.size_empty Int.reduceToNat Int.reduceAdd Int.reduceSub Int.reduceLT Int.reduceLE Int.reduceEq Int.reduceNe Int.reduceBEq Int.reduceNeg List.forall_mem_cons List.not_mem_nil false_implies List.forall_mem_map implies_true Nat.reduceBNe Int.cast_ofNat_Int Int.reduceMul Int.reduceGE Int.reduceGT wrap_in ty_2 ty_3 ty_4 ty_5 ty_6 ty_7 ty_8 ty_9 ty_10 ty_11 ty_12 ty_13 ty_14 ty_18 ty_19 ty_21 ty_22 ty_23 ty_24 ty_25 ty_26 ty_27 ty_28 ty_29 ty_30 ty_31 ty_32 ty_37 ty_38 ty_41 ty_47 ty_65 ty_66 ty_67 ty_68 ty_77 ty_78 ty_115 ty_116 ty_124 ty_125 ty_126 ty_127 ty_130 ty_131 ty_137 ty_138 ty_144 ty_145 ty_146 ty_147 ty_148 ty_150 ty_151 ty_152 ty_155 ty_156 ty_157 ty_158
set_option maxRecDepth 100000
set_option maxHeartbeats 4000000
def tnF (f : FracD) : Prop := (szF f : Int) ≤ 262144
def tnT (l : List TermD) : Prop := (l.length : Int) ≤ 64 ∧ ∀ t ∈ l, tnF t.f
def tnFs (l : List FracD) : Prop := (l.length : Int) ≤ 64 ∧ ∀ f ∈ l, tnF f
def tnW (w : RowD) : Prop := tnT w.t ∧ tnF w.v
def tnS (s : SysD) : Prop := (s.r.length : Int) ≤ 64 ∧ ∀ w ∈ s.r, tnW w
theorem tnF.sm {f : FracD} (h : tnF f) : smF f := by unfold tnF at h; unfold smF; omega
theorem tnT.sm {l : List TermD} (h : tnT l) : smT l := ⟨by have := h.1; omega, fun t ht => (h.2 t ht).sm⟩
theorem tnFs.sm {l : List FracD} (h : tnFs l) : smFs l := ⟨by have := h.1; omega, fun t ht => (h.2 t ht).sm⟩
theorem tnW.sm {w : RowD} (h : tnW w) : smW w := ⟨h.1.sm, h.2.sm⟩
theorem tnS.sm {s : SysD} (h : tnS s) : smS s := ⟨by have := h.1; omega, fun t ht => (h.2 t ht).sm⟩
structure BelowX where
 a : List TermD
 b : List TermD
 l : Int
def wkT (l : List TermD) : Prop := (l.length : Int) ≤ 4096 ∧ ∀ t ∈ l, (szF t.f : Int) ≤ 549755813888
theorem smT.wk {l : List TermD} (h : smT l) : wkT l := ⟨h.1, fun t ht => smF_i (h.2 t ht)⟩
set_option maxHeartbeats 8000000
def tabL (n : Nat) (c : Nat → List D) : List (List D) := (List.range n).map c
theorem tab_len (n : Nat) (c : Nat → List D) : (tabL n c).length = n := by simp [tabL]
theorem tab_get {n k : Nat} (c : Nat → List D) (h : k < n) : (tabL n c)[k]? = some (c k) := by simp [tabL, h]
theorem tab_congr {n : Nat} {c d : Nat → List D} (h : ∀ u, u < n → c u = d u) : tabL n c = tabL n d := List.map_congr_left fun u hu => h u (List.mem_range.1 hu)
theorem tab_set {n k : Nat} (c : Nat → List D) (x : List D) : (tabL n c).set k x = tabL n (fun u => if u = k then x else c u) := by
 apply List.ext_getElem
 · simp [tabL]
 · intro i h1 h2
   simp only [tabL, List.length_map, List.length_range] at h2
   rw [List.getElem_set]
   simp only [tabL, List.getElem_map, List.getElem_range]
   by_cases e : k = i
   · subst e; simp
   · rw [if_neg e, if_neg (Ne.symm e)]
theorem tab_rep (n : Nat) (z : List D) : List.replicate n z = tabL n (fun _ => z) := by
 unfold tabL; rw [List.map_const', List.length_range]
abbrev zc : List D := [dI 0, .nil, dI 0, .nil]
def fillL (n k : Nat) : List (List D) := tabL n (fun v => if v < k then cF (ofQ 0) else zc)
theorem fill_zero (n : Nat) : fillL n 0 = List.replicate n zc := by rw [tab_rep]; exact tab_congr fun u _ => by rw [if_neg (by omega)]
theorem fill_len (n k : Nat) : (fillL n k).length = n := tab_len _ _
theorem fill_set (n k : Nat) : (fillL n k).set k (cF (ofQ 0)) = fillL n (k + 1) := by
 unfold fillL
 rw [tab_set]
 refine tab_congr fun u _ => ?_
 by_cases h : u = k
 · rw [if_pos h, if_pos (by omega)]
 · rw [if_neg h]
   by_cases h2 : u < k
   · rw [if_pos h2, if_pos (by omega)]
   · rw [if_neg h2, if_neg (by omega)]
def ratL (n : Nat) (c : Nat → Rat) : List (List D) := tabL n (fun v => cF (ofQ (c v)))
theorem rat_len (n : Nat) (c : Nat → Rat) : (ratL n c).length = n := tab_len _ _
theorem rat_get {n k : Nat} (c : Nat → Rat) (h : k < n) : (ratL n c)[k]? = some (cF (ofQ (c k))) := tab_get _ h
theorem rat_set {n k : Nat} (c : Nat → Rat) (q : Rat) : (ratL n c).set k (cF (ofQ q)) = ratL n (fun u => if u = k then q else c u) := by
 unfold ratL
 rw [tab_set]
 refine tab_congr fun u _ => ?_
 by_cases h : u = k <;> simp [h]
theorem rat_congr {n : Nat} {c d : Nat → Rat} (h : ∀ u, u < n → c u = d u) : ratL n c = ratL n d := tab_congr fun u hu => by rw [h u hu]
theorem fill_all (n : Nat) : fillL n n = ratL n (fun _ => 0) := tab_congr fun u hu => by rw [if_pos hu]
theorem dot_take_succ {g : Int → Rat} {l : List TermD} {k : Nat} {t : TermD} (hx : l[k]? = some t) : dotS g (l.take (k + 1)) = dotS g (l.take k) + qOf t.f * g t.v := by
 rw [List.take_add_one, hx, Option.toList_some, dotS_append]; simp only [dotS]; grind
theorem ray_false {s : SysD} {goal : List TermD} {d : List FracD} (h : rayD s goal d = false) : D.v (.bool false) = dB (rayD s goal d) := bool_eq h.symm
theorem dray_c (s : SysD) (goal : List TermD) (d : List FracD) (hs : smS s) (hg : smT goal) (hd : smFs d) : Contract Try.prog 31 [encS s, encTs goal, encFs d] (dB (rayD s goal d)) := by
 have hres := Try.results31
 have hl := smS_len hs
 have hlx := smFs_len hd
 have k1 := lrightS_c s hs
 have k2 := lright_c goal s.n hg
 cases h1 : rightS s
 · rw [h1] at k1
   refine Contract.ofA (CallA.inline Try.func31 rfl (by kernel_rfl) (by kernel_rfl) (by kernel_rfl) ?_)
   rw [Try.ntmps31]
   refine aGo hres ?_
   repeat (guard_target =~ ∀ _ : St → Prop, _; intro K hK)
   exact ray_false (by simp [rayD, h1])
 rw [h1] at k1
 cases h2 : rightT goal s.n
 · rw [h2] at k2
   refine Contract.ofA (CallA.inline Try.func31 rfl (by kernel_rfl) (by kernel_rfl) (by kernel_rfl) ?_)
   rw [Try.ntmps31]
   refine aGo hres ?_
   repeat (guard_target =~ ∀ _ : St → Prop, _; intro K hK)
   exact ray_false (by simp [rayD, h2])
 rw [h2] at k2
 cases h3 : (d.length : Int) != s.n
 rotate_left
 · refine Contract.ofA (CallA.inline Try.func31 rfl (by kernel_rfl) (by kernel_rfl) (by kernel_rfl) ?_)
   rw [Try.ntmps31]
   refine aGo (cj2 hres h3) ?_
   repeat (guard_target =~ ∀ _ : St → Prop, _; intro K hK)
   exact ray_false (by simp at h3; simp [rayD, h3])
 have hn : (d.length : Int) = s.n := by simpa using h3
 refine Contract.ofA (CallA.inline Try.func31 rfl (by kernel_rfl) (by kernel_rfl) (by kernel_rfl) ?_)
 rw [Try.ntmps31]
 refine aGo (cj2 hres h3) ?_
 repeat (guard_target =~ ∀ _ : St → Prop, _; intro K hK)
 refine aLoopT (fun (k : Nat) => [(1, encTs goal), (2, encFs d), (3, .lp 0 0 0 0), (33, encFs d), (34, dI d.length), (35, dI k)]) (fun k => [(0, ⟨24, 0, 2, [cS s], 0, false⟩)]) 1 0 (fun k => k ≤ d.length ∧ (d.take k).all okF = true ∧ (d.take k).all (fun f => decide (0 ≤ sgnD f)) = true) (fun k => d.length - k) 0 ⟨by omega, rfl, rfl⟩ ?_ ?_
 · exact leGo trivial
 · rintro k ⟨hk, hg1, hg2⟩
   have hw : IntKind.i64.wrap ((k : Int) + 1) = (k : Int) + 1 := wrap_in (by omega) (by omega)
   have h0 : (0 : Int) ≤ k := by omega
   by_cases h4 : (k : Int) < d.length
   · obtain ⟨f, hx⟩ : ∃ e, d[k]? = some e := ⟨_, List.getElem?_eq_getElem (by omega)⟩
     have k3 := fsign_c f (smF_i (hd.2 f (mem_at hx)))
     have k4 := fright_c f (smF_i (hd.2 f (mem_at hx)))
     cases h5 : okF f
     · rw [h5] at k4
       refine aGo (cj4 hres h0 h4 (cj2 hx hw)) ?_
       repeat (guard_target =~ ∀ _ : St → Prop, _; intro K hK)
       exact ray_false (by simp [rayD, okP, all_not hx h5])
     rw [h5] at k4
     by_cases h6 : sgnD f < 0
     · refine aGo (cj4 hres h0 h4 (cj3 hx hw h6)) ?_
       repeat (guard_target =~ ∀ _ : St → Prop, _; intro K hK)
       exact ray_false (by have : nonneg d = false := all_not hx (by simp; omega); simp [rayD, this])
     · refine aGo (cj4 hres h0 h4 (cj3 hx hw h6)) ?_
       repeat (guard_target =~ ∀ _ : St → Prop, _; intro K hK)
       exact loop_end (k + 1) ⟨by omega, all_take_succ hx hg1 h5, all_take_succ hx hg2 (by simp; omega)⟩ (by omega) (by exact leGo trivial)
   · rw [List.take_of_length_le (by omega)] at hg1 hg2
     refine aGo (cj2 hres h4) ?_
     repeat (guard_target =~ ∀ _ : St → Prop, _; intro K hK)
     refine aLoopT (fun (k : Nat) => [(1, encTs goal), (2, encFs d), (49, encWs s.r), (50, dI s.r.length), (51, dI k)]) (fun k => []) 0 0 (fun k => k ≤ s.r.length ∧ (s.r.take k).all (fun w => fitsK w.k (sgQ (dotD w.t d))) = true) (fun k => s.r.length - k) 0 ⟨by omega, rfl⟩ ?_ ?_
     · exact leGo trivial
     · rintro k ⟨hk, hr⟩
       have hw : IntKind.i64.wrap ((k : Int) + 1) = (k : Int) + 1 := wrap_in (by omega) (by omega)
       have h0 : (0 : Int) ≤ k := by omega
       by_cases h4 : (k : Int) < s.r.length
       · obtain ⟨w, hx⟩ : ∃ e, s.r[k]? = some e := ⟨_, List.getElem?_eq_getElem (by omega)⟩
         obtain ⟨h6, h7⟩ := holdsS_at h1 hn hx
         have sm := hs.2 w (mem_at hx)
         have k3 := lValue_c w.t d sm.1 hd
         rw [valueD_yes (by rw [h6, show okP d = true from hg1]; rfl)] at k3
         have k4 := fsign_c (ofQ (dotD w.t d)) (by have := szF_dot w d sm.1 hd h6 hg1; omega)
         rw [sgnD_ofQ] at k4
         have bad : fitsK w.k (sgQ (dotD w.t d)) = false → D.v (.bool false) = dB (rayD s goal d) := fun h => ray_false (by simp [rayD, all_not (p := fun w : RowD => fitsK w.k (sgQ (dotD w.t d))) hx h])
         have good : fitsK w.k (sgQ (dotD w.t d)) = true → (s.r.take (k + 1)).all (fun w => fitsK w.k (sgQ (dotD w.t d))) = true := fun h => all_take_succ (p := fun w : RowD => fitsK w.k (sgQ (dotD w.t d))) hx hr h
         generalize sgQ (dotD w.t d) = c at *
         by_cases g1 : c < 0
         · have g3 : ¬ c > 0 := by omega
           cases g2 : w.k != 1
           · refine aGo (cj4 hres h0 h4 (cj4 hx hw g1 (cj2 g2 g3))) ?_
             repeat (guard_target =~ ∀ _ : St → Prop, _; intro K hK)
             exact loop_end (k + 1) ⟨by omega, good (by simp at g2; simp [fitsK, g2]; omega)⟩ (by omega) (by exact leGo trivial)
           · refine aGo (cj4 hres h0 h4 (cj4 hx hw g1 (cj2 g2 g3))) ?_
             repeat (guard_target =~ ∀ _ : St → Prop, _; intro K hK)
             exact bad (by simp at g2; simp [fitsK, g2]; omega)
         by_cases g3 : c > 0
         · cases g2 : w.k != 0
           · refine aGo (cj4 hres h0 h4 (cj4 hx hw g1 (cj2 g2 g3))) ?_
             repeat (guard_target =~ ∀ _ : St → Prop, _; intro K hK)
             exact loop_end (k + 1) ⟨by omega, good (by simp at g2; simp [fitsK, g2]; omega)⟩ (by omega) (by exact leGo trivial)
           · refine aGo (cj4 hres h0 h4 (cj4 hx hw g1 (cj2 g2 g3))) ?_
             repeat (guard_target =~ ∀ _ : St → Prop, _; intro K hK)
             exact bad (by simp at g2; simp [fitsK, g2]; omega)
         · refine aGo (cj4 hres h0 h4 (cj4 hx hw g1 g3)) ?_
           repeat (guard_target =~ ∀ _ : St → Prop, _; intro K hK)
           exact loop_end (k + 1) ⟨by omega, good (by simp [fitsK]; omega)⟩ (by omega) (by exact leGo trivial)
       · rw [List.take_of_length_le (by omega)] at hr
         have k3 := lValue_c goal d hg hd
         rw [valueD_yes (by rw [hn, h2, show okP d = true from hg1]; rfl)] at k3
         have k4 := fsign_c (ofQ (dotD goal d)) (by have := szF_dot ⟨goal, 0, zF⟩ d hg hd (by rw [hn]; exact h2) hg1; dsimp only at this; omega)
         rw [sgnD_ofQ] at k4
         refine aGo (cj2 hres h4) ?_
         repeat (guard_target =~ ∀ _ : St → Prop, _; intro K hK)
         exact bool_eq (by simp only [rayD, h1, h2, hn, okP, nonneg, hg1, hg2, hr, decide_true, Bool.and_self, Bool.true_and])
def tnO (o : OptD) : Prop := tnF o.v ∧ tnFs o.x ∧ tnFs o.y ∧ tnFs o.d
end Go.Proofs.Ytkddoopknapemaa
