/-
  What an argument's reading tells, for whatever type of ints, bools, strings, slices and structs: it shows data of the type's shape.
-/
import Derived.Test.YtenmlcpbjjlokaaMConv
import Derived.Test.YtenmlcpbjjlokaaRows
import Derived.ProofKit
import Derived.OpenShut
import Derived.ChangeOld
import Derived.Lib.SmallJoins
import Derived.Deep.Slices
import Derived.Test.YtenmlcpbjjlokaaMScale

/-
  What an argument's reading tells, for whatever type of ints, bools, strings, slices and structs: it shows data of the type's shape.
-/
namespace Go.Proofs.Ytenmlcpbjjlokaa
set_option linter.unusedVariables false
set_option linter.unusedSimpArgs false
open Go.RowKit Go.ChangeShapes Go.WideShapes Go.ChangeAt

/-- Whether a struct's fields lie one behind the other. -/
def laidB (P : Program) : Nat → List Field → Nat → Bool
  | at', [], tot => at' == tot
  | at', f :: fs, tot => f.offset == at' && laidB P (at' + P.cellsOf f.type) fs tot
/-- Whether the reading covers a type. -/
def goodT (P : Program) : Nat → TypeId → Bool
  | 0, _ => false
  | n + 1, T => match P.underlying T with
    | some .bool => true
    | some (.int _) => true
    | some .string => true
    | some (.slice e) => decide (0 < P.cellsOf e) && goodT P n e
    | some (.struct fs) => laidB P 0 fs.toList (P.cellsOf T) && fs.toList.all (fun f => goodT P n f.type)
    | _ => false
/-- Data of a type's shape. -/
def Shown (P : Program) : Nat → TypeId → List D → Prop
  | 0, _, _ => False
  | n + 1, T, ds => match P.underlying T with
    | some .bool => ∃ b, ds = [.v (.bool b)]
    | some (.int k) => ∃ x, ds = [.v (.int k x)] ∧ (Lit.int k x).wf = true
    | some .string => ∃ s, ds = [.v (.string s)] ∧ s.size ≤ maxLen
    | some (.slice e) => ∃ es : List (List D), ds = [.sl es] ∧ (es.length : Int) ≤ maxLen ∧ ∀ x ∈ es, Shown P n e x
    | some (.struct fs) => fs.toList.foldr (fun f K ds => ∃ a b, ds = a ++ b ∧ Shown P n f.type a ∧ K b) (fun ds => ds = []) ds
    | _ => False

abbrev allS : Nat → Nat → Prop := fun _ _ => True
abbrev RepA (w : World) (v : Value) (d : D) : Prop := Rep noB noM allS w v d
abbrev RepsA (w : World) (vs : List Value) (ds : List D) : Prop := Reps noB noM allS w vs ds
theorem repsA_append {w : World} {vs us : List Value} {ds es : List D} (h : RepsA w vs ds) (k : RepsA w us es) : RepsA w (vs ++ us) (ds ++ es) := by
  refine ⟨by rw [List.length_append, List.length_append, h.1, k.1], fun i x d hx hd => ?_⟩
  have hl : vs.length = ds.length := h.1
  by_cases hi : i < vs.length
  · rw [List.getElem?_append_left hi] at hx
    rw [List.getElem?_append_left (by omega)] at hd
    exact h.2 i x d hx hd
  · rw [List.getElem?_append_right (by omega)] at hx
    rw [List.getElem?_append_right (by omega), ← hl] at hd
    exact k.2 _ x d hx hd
theorem repsA_one {w : World} {x : Value} {d : D} (h : RepA w x d) : RepsA w [x] [d] := Reps.cons h Reps.nil

section
variable {H : Type} {enc : TypeId × Value → H} {P : Program} {w : World} {base : Nat} {spare : Nat → Bool} {held : Bool}

theorem rep_of_trod : ∀ (n : Nat) (T : TypeId) (fuel : Nat) (cs : List Value) (y : DataW H × List MemPlace), goodT P n T = true → DataW.trod enc P w base spare held fuel T cs = some y → ∃ ds, Shown P n T ds ∧ RepsA w cs ds := by
  intro n
  induction n with
  | zero => intro T fuel cs y h; cases h
  | succ n ih =>
    intro T fuel cs y hg h
    unfold goodT at hg
    unfold Shown
    split at hg
    · rename_i ht
      obtain ⟨b, rfl, _⟩ := DataW.trod_bool ht h
      exact ⟨[.v (.bool b)], by exact ⟨b, rfl⟩, repsA_one (.v _)⟩
    · rename_i k ht
      obtain ⟨x, rfl, _, hw⟩ := DataW.trod_int ht h
      exact ⟨[.v (.int k x)], by exact ⟨x, rfl, hw⟩, repsA_one (.v _)⟩
    · rename_i ht
      obtain ⟨s, rfl, _, hw⟩ := DataW.trod_string ht h
      exact ⟨[.v (.string s)], by exact ⟨s, rfl, hw⟩, repsA_one (.v _)⟩
    · rename_i e ht
      rw [Bool.and_eq_true, decide_eq_true_eq] at hg
      obtain ⟨hk, hg⟩ := hg
      rcases Go.Deep.open_slice ht h with ⟨rfl, _⟩ | ⟨ad, len, cap, m, fl, Dd, Pl, rfl, hb, hl, hm, hmm, _, hx⟩
      · exact ⟨[.sl []], by exact ⟨[], rfl, by simp, fun x hx => by cases hx⟩, repsA_one (.sl0 _ _ (Nat.zero_le _))⟩
      · by_cases hz : len = 0
        · subst hz
          exact ⟨[.sl []], by exact ⟨[], rfl, by simp, fun x hx => by cases hx⟩, repsA_one (.sl0 _ _ hm)⟩
        have hmle : len ≤ m := by rw [hmm]; split <;> omega
        obtain ⟨f, hf⟩ := Go.Deep.choose_lt (n := len) (p := fun i (x : List D) => ∃ cs, Shown P n e x ∧ RepsA w cs x ∧ cs.length = P.cellsOf e ∧ ∀ j, j < P.cellsOf e → w.cell? ((ad.add (i * P.cellsOf e)).add j) = cs[j]?) (fun i hi => by
          obtain ⟨cs, h1, h2⟩ := hx i (by omega)
          obtain ⟨_, hcl, hcell⟩ := World.cells?_some h1
          obtain ⟨ds, h3, h4⟩ := ih e fl cs _ hg h2
          exact ⟨ds, cs, h3, h4, hcl, hcell⟩)
        obtain ⟨b, off, spot⟩ := ad
        obtain ⟨cs0, _, _, hl0, hc0⟩ := hf 0 (by omega)
        have hc00 := hc0 0 hk
        rw [List.getElem?_eq_getElem (by omega)] at hc00
        have hsp : spot = none := by simpa [Addr.add] using World.cell?_spot hc00
        subst hsp
        have hadd : ∀ i j, ((⟨b, off, none⟩ : Addr).add i).add j = ⟨b, off + i + j, none⟩ := fun i j => by
          rw [Go.Deep.add_add]
          unfold Addr.add
          split
          · rename_i h; simp; try omega
          · simp; try omega
        have hget : ∀ (i : Nat) (x : List D), ((List.range len).map f)[i]? = some x → i < len ∧ x = f i := by
          intro i x hi
          obtain ⟨hil, hix⟩ := List.getElem?_eq_some_iff.1 hi
          simp only [List.length_map, List.length_range] at hil
          simp only [List.getElem_map, List.getElem_range] at hix
          exact ⟨hil, hix.symm⟩
        refine ⟨[.sl ((List.range len).map f)], by
          refine ⟨_, rfl, by simp; omega, fun x hx => ?_⟩
          obtain ⟨i, hi, rfl⟩ := List.mem_map.1 hx
          obtain ⟨cs, h1, _⟩ := hf i (by simpa using hi)
          exact h1, repsA_one ?_⟩
        have := rep_sl (β := noB) (m := noM) (S := allS) (w := w) (b := b) (off := off) (k := P.cellsOf e) (cap := cap) (es := (List.range len).map f) ⟨fun i x hi => ?_, fun i j d hd => ?_⟩ (by simpa using hl) hm
        · simpa using this
        · obtain ⟨hil, rfl⟩ := hget i x hi
          obtain ⟨cs, _, h2, h3, _⟩ := hf i hil
          exact h2.1.symm.trans h3
        · obtain ⟨x, hx, hj⟩ := cellAt_some.1 hd
          obtain ⟨hil, rfl⟩ := hget i x hx
          obtain ⟨cs, _, h2, h3, h4⟩ := hf i hil
          have hjl : j < cs.length := by rw [h2.1]; exact (List.getElem?_eq_some_iff.1 hj).1
          have hcj : cs[j]? = some cs[j] := List.getElem?_eq_getElem hjl
          refine ⟨cs[j], trivial, ?_, h2.2 j _ d hcj hj⟩
          have := h4 j (by omega)
          rw [hadd, hcj] at this
          exact this
    · rename_i fs ht
      rw [Bool.and_eq_true, List.all_eq_true] at hg
      obtain ⟨hlaid, hgood⟩ := hg
      obtain ⟨xs, fl, _, _, hlen, hxs, hf⟩ := DataW.trod_struct ht h
      have key : ∀ (l : List Field) (at' : Nat), laidB P at' l (P.cellsOf T) = true → at' ≤ cs.length → (∀ f ∈ l, goodT P n f.type = true ∧ ∃ y, DataW.trod enc P w base spare held fl f.type ((cs.drop f.offset).take (P.cellsOf f.type)) = some y) →
          ∃ ds, l.foldr (fun f K ds => ∃ a b, ds = a ++ b ∧ Shown P n f.type a ∧ K b) (fun ds => ds = []) ds ∧ RepsA w (cs.drop at') ds := by
        intro l
        induction l with
        | nil =>
          intro at' hat hle _
          simp only [laidB, beq_iff_eq] at hat
          refine ⟨[], rfl, ?_⟩
          rw [hat, ← hlen, List.drop_length]
          exact Reps.nil
        | cons f l ihl =>
          intro at' hat hle hall
          simp only [laidB, Bool.and_eq_true, beq_iff_eq] at hat
          obtain ⟨ho, hrest⟩ := hat
          obtain ⟨hgf, y, hy⟩ := hall f List.mem_cons_self
          obtain ⟨a, ha, hra⟩ := ih f.type fl _ y hgf hy
          rw [ho] at hra
          have htot : ∀ (l : List Field) (k : Nat), laidB P k l (P.cellsOf T) = true → k ≤ P.cellsOf T := by
            intro l
            induction l with
            | nil => intro k hk; simp only [laidB, beq_iff_eq] at hk; omega
            | cons g l ihg => intro k hk; simp only [laidB, Bool.and_eq_true] at hk; have := ihg _ hk.2; omega
          obtain ⟨b, hb, hrb⟩ := ihl (at' + P.cellsOf f.type) hrest (by rw [hlen]; exact htot l _ hrest) (fun g hg => hall g (List.mem_cons_of_mem _ hg))
          refine ⟨a ++ b, ⟨a, b, rfl, ha, hb⟩, ?_⟩
          have := repsA_append hra hrb
          rwa [← List.drop_drop, List.take_append_drop] at this
      obtain ⟨ds, h1, h2⟩ := key fs.toList 0 hlaid (Nat.zero_le _) (fun f hf' => by
        obtain ⟨i, hi, hfi⟩ := List.mem_iff_getElem.1 hf'
        refine ⟨hgood f hf', ?_⟩
        have h3 := hf i f (by rw [← Array.getElem?_toList]; rw [List.getElem?_eq_getElem hi, hfi])
        have hi' : i < xs.length := by rw [hxs]; simpa using hi
        exact ⟨xs[i], by rw [h3, List.getElem?_eq_getElem hi']⟩)
      exact ⟨ds, h1, by simpa using h2⟩
    · cases hg

/-- An argument that is a struct. -/
theorem repA_struct {n : Nat} {T : TypeId} {fs : Array Field} {r : Reach} {b0 : Nat} {v : Value} {d : DataW H} {p : List MemPlace} (ht : P.underlying T = some (.struct fs)) (hg : goodT P n T = true)
    (hv : Value.okWide P w r b0 T v) (h : DataW.Trod enc P w base spare held T v d p) : ∃ ds, Shown P n T ds ∧ RepA w v (.agg ds) := by
  obtain ⟨cs, rfl, _⟩ := okWide_struct ht hv
  obtain ⟨fuel, hf⟩ := h
  obtain ⟨ds, h1, h2⟩ := rep_of_trod n T fuel _ _ hg hf
  refine ⟨ds, h1, ?_⟩
  have := Reps.rep_agg h2
  simpa [Value.cells] using this
/-- An argument that is a slice. -/
theorem repA_slice {n : Nat} {T e : TypeId} {r : Reach} {b0 : Nat} {v : Value} {d : DataW H} {p : List MemPlace} (ht : P.underlying T = some (.slice e)) (hg : goodT P (n + 1) T = true)
    (hv : Value.okWide P w r b0 T v) (h : DataW.Trod enc P w base spare held T v d p) : ∃ es : List (List D), (es.length : Int) ≤ maxLen ∧ (∀ x ∈ es, Shown P n e x) ∧ RepA w v (.sl es) := by
  obtain ⟨a, len, cap, rfl⟩ := okWide_slice ht hv
  obtain ⟨fuel, hf⟩ := h
  obtain ⟨ds, h1, h2⟩ := rep_of_trod (n + 1) T fuel _ _ hg hf
  unfold Shown at h1
  rw [ht] at h1
  obtain ⟨es, rfl, h3, h4⟩ := h1
  refine ⟨es, h3, h4, ?_⟩
  exact h2.2 0 _ _ (by simp [Value.cells]) rfl
end
/-- Elements that are each of a form are a list's image. -/
theorem map_of_all {α : Type} {f : α → List D} : ∀ {es : List (List D)}, (∀ x ∈ es, ∃ a, x = f a) → ∃ l : List α, es = l.map f
  | [], _ => ⟨[], rfl⟩
  | x :: es, h => by
    obtain ⟨a, ha⟩ := h x List.mem_cons_self
    obtain ⟨l, hl⟩ := map_of_all (es := es) fun y hy => h y (List.mem_cons_of_mem _ hy)
    exact ⟨a :: l, by rw [ha, hl]; rfl⟩
end Go.Proofs.Ytenmlcpbjjlokaa

/-
  Certificates and recalls that were handed in.
-/
namespace Go.Proofs.Ytenmlcpbjjlokaa
set_option linter.unusedVariables false
set_option linter.unusedSimpArgs false
open Go Go.RowKit
set_option linter.constructorNameAsVariable false
theorem cert_of {n : Nat} {x : List D} (h : Shown Try.prog (n + 2) 25 x) : ∃ c, x = cC c := by
  simp only [Shown, Try.underlying25, Try.underlying3, List.foldr] at h
  obtain ⟨_, _, rfl, ⟨a, rfl, _⟩, _, _, rfl, ⟨b, rfl, _⟩, _, _, rfl, ⟨c, rfl, _⟩, _, _, rfl, ⟨d, rfl, _⟩, _, _, rfl, ⟨e, rfl, _⟩, _, _, rfl, ⟨f, rfl, _⟩, rfl⟩ := h
  exact ⟨⟨a, b, c, d, e, f⟩, rfl⟩
theorem rec_of {n : Nat} {x : List D} (h : Shown Try.prog (n + 2) 52 x) : ∃ c, x = cR c := by
  simp only [Shown, Try.underlying52, Try.underlying3, List.foldr] at h
  obtain ⟨_, _, rfl, ⟨a, rfl, _⟩, _, _, rfl, ⟨b, rfl, _⟩, rfl⟩ := h
  exact ⟨⟨a, b⟩, rfl⟩
end Go.Proofs.Ytenmlcpbjjlokaa

/-
  The laws of layer 13: what they share.
-/
namespace Go.Proofs.Ytenmlcpbjjlokaa
set_option linter.unusedVariables false
set_option linter.unusedSimpArgs false
open Go Go.RowKit
attribute [local go_sem] opsL_nil opsL_go opsL_guard gSel_tt gSel_ff gSel_tf gSel_ft stepR_some stepR_none callS_some callE_some runL_nil runL_go runL_guard gSelE_tt gSelE_ff gSelE_tf gSelE_ft stepE_some stepE_none opF callD rd constD putT upd_get guardL gOf_bool gOf_undef fieldAddrF fieldF loadF storeF indexAddrF indexF sliceF strSliceF bound buildF fillF buildSliceF elemsF allocF makeSliceF lenF elemsOf appendF minmaxF convertF boxF ldE blkAt spliceE D.cells? D.isCell Res.pure ov TyI.agg binD unD boolD initT thenA inBlockA argD argDs refsD refsL killW datJ datJs endA_ret endA_normal endR_some oneD_one oneD_two oneD_three oneD_four resDs resD fzT Value.oneCell' strip tabT tabM
attribute [local go_sem] List.map Nat.reduceEqDiff Nat.reduceBEq List.getElem?_cons_zero List.getElem?_cons_succ List.getElem?_nil Option.getD_some Option.getD_none true_and and_true true_or or_true false_or or_false and_self Nat.add_zero Nat.zero_add List.length_nil List.length_cons forall_const ite_true ite_false Bool.or_self Bool.false_eq_true Option.map_some Option.map_none beq_self_eq_true Nat.reduceAdd Nat.reduceSub Nat.reduceMul reduceCtorEq List.getElem?_toArray Bool.not_true Bool.not_false decide_eq_true_eq decide_true decide_false Nat.reduceLeDiff Nat.reduceLT Bool.or_false Bool.or_true Bool.and_true Bool.and_false Bool.false_and Bool.true_and Bool.true_beq Bool.false_beq beq_true beq_false Bool.not_eq_true List.drop_succ_cons List.take_succ_cons List.drop_zero List.take_zero List.length_map List.getElem?_map List.length_append List.all_cons List.all_nil List.append_nil List.nil_append List.cons_append List.set_cons_zero List.set_cons_succ Int.toNat_natCast Int.toNat_zero Option.isSome_some Option.isSome_none Array.size_empty ByteArray.size_empty Int.reduceToNat Int.reduceAdd Int.reduceSub Int.reduceLT Int.reduceLE Int.reduceEq Int.reduceNe Int.reduceBEq Int.reduceNeg List.forall_mem_cons List.not_mem_nil false_implies List.forall_mem_map implies_true Nat.reduceBNe Int.cast_ofNat_Int Int.reduceMul Int.reduceGE Int.reduceGT wrap_in ty_2 ty_3 ty_4 ty_5 ty_6 ty_7 ty_8 ty_9 ty_10 ty_11 ty_12 ty_13 ty_14 ty_18 ty_19 ty_21 ty_22 ty_23 ty_24 ty_25 ty_30 ty_31 ty_32 ty_33 ty_34 ty_44 ty_51 ty_52 ty_54 ty_55 ty_56 ty_57 ty_58 ty_74 ty_75 ty_78 ty_93 ty_94 ty_121 ty_122 ty_131 ty_132 ty_133 ty_134 ty_135 ty_137 ty_138 ty_139 ty_142 ty_143 ty_144 ty_145
set_option maxRecDepth 100000
set_option maxHeartbeats 2000000

theorem sameF_iff {f g : FracD} : sameF f g = true ↔ f = g := by
  cases f; cases g
  simp [sameF, sameB_iff]
theorem sameF_self (f : FracD) : sameF f f = true := sameF_iff.2 rfl
theorem szF_ofQ (a : Rat) : szF (ofQ a) = szQ a := rfl
theorem same_c (f g : FracD) (hf : (szF f : Int) ≤ 9007199254740992) : ContractN Try.prog 22 [encF f, encF g] (dB (sameF f g)) := (rsameF_c f g hf).toN rfl
theorem whole_c (f : FracD) (n : Int) (hf : (szF f : Int) ≤ 9007199254740992) (h1 : -9223372036854775808 ≤ n) (h2 : n ≤ 9223372036854775807) : Contract Try.prog 60 [encF f, dI n] (dB (sameF f (ofQ (n : Rat)))) := by
  refine Contract.ofA (CallA.inline Try.func60 rfl (by kernel_rfl) (by kernel_rfl) (by kernel_rfl) ?_)
  rw [Try.ntmps60]
  have hres := Try.results60
  have k1 := rint_c n h1 h2
  have k2 := same_c f (ofQ (n : Rat)) hf
  repeat (first
      | (refine hK _ ?_; clear hK; clear K)
      | (refine aSeq fun K hK => ?_)
      | (refine aBlock ?_)
      | (refine aSkip ?_)
      | (refine aExit ?_)
      | (refine aRet ?_)
      | (refine aOps _ rfl (by kernel_rfl) ?_)
      | (refine aRunK _ rfl mixed (by kernel_rfl) (by kernel_rfl) fun KE hE => ?_)
      | (refine hE _ _ (by kernel_rfl) (intsOk_no rfl) ?_; clear hE; clear KE)
      | (refine hE _ _ (by kernel_rfl) (intsOk_yes ?hi ?hj) ?_; (case hi => (repeat (refine intsDead_updB rfl ?_)); exact intsDead_nil); (case hj => simp); clear hE; clear KE)
      | (refine aCondT rfl ?hc ?_; case hc => simp only [go_sem, ↓reduceIte, hres])
      | (refine aCondF rfl ?hc ?_; case hc => simp only [go_sem, ↓reduceIte, hres])
      | (refine callT_of (k1) ?_ ?_; rotate_left; (repeat (refine intsDead_updB rfl ?_)); exact intsDead_nil)
      | (refine callT_ofN (k1) ?_)
      | (refine callU_of (k1) rfl ?_)
      | (refine callU_ofN (k1) rfl ?_)
      | (refine callT_of (k2) ?_ ?_; rotate_left; (repeat (refine intsDead_updB rfl ?_)); exact intsDead_nil)
      | (refine callT_ofN (k2) ?_)
      | (refine callU_of (k2) rfl ?_)
      | (refine callU_ofN (k2) rfl ?_)
      | (simp only [go_sem, ↓reduceIte, hres])
      | (refine And.intro ?ho ?_; (case ho => omega))
      | (clear hK; clear K))
theorem few13_c (cs : List CertD) (rs : List RecD) : ContractN Try.prog 15 [encCs cs, encRs rs] (dB (decide ((cs.length : Int) ≤ 120) && decide ((rs.length : Int) ≤ 60))) := by
  refine Contract.toN ?_ rfl
  refine Contract.ofA (CallA.inline Try.func15 rfl (by kernel_rfl) (by kernel_rfl) (by kernel_rfl) ?_)
  rw [Try.ntmps15]
  have hres := Try.results15
  by_cases h1 : (cs.length : Int) ≤ 120
  · repeat (first
      | (refine hK _ ?_; clear hK; clear K)
      | (refine aSeq fun K hK => ?_)
      | (refine aBlock ?_)
      | (refine aSkip ?_)
      | (refine aExit ?_)
      | (refine aRet ?_)
      | (refine aOps _ rfl (by kernel_rfl) ?_)
      | (refine aRunK _ rfl mixed (by kernel_rfl) (by kernel_rfl) fun KE hE => ?_)
      | (refine hE _ _ (by kernel_rfl) (intsOk_no rfl) ?_; clear hE; clear KE)
      | (refine hE _ _ (by kernel_rfl) (intsOk_yes ?hi ?hj) ?_; (case hi => (repeat (refine intsDead_updB rfl ?_)); exact intsDead_nil); (case hj => simp); clear hE; clear KE)
      | (refine aCondT rfl ?hc ?_; case hc => simp only [go_sem, ↓reduceIte, hres, h1])
      | (refine aCondF rfl ?hc ?_; case hc => simp only [go_sem, ↓reduceIte, hres, h1])
      | (simp only [go_sem, ↓reduceIte, hres, h1])
      | (refine And.intro ?ho ?_; (case ho => omega))
      | (clear hK; clear K))
  · repeat (first
      | (refine hK _ ?_; clear hK; clear K)
      | (refine aSeq fun K hK => ?_)
      | (refine aBlock ?_)
      | (refine aSkip ?_)
      | (refine aExit ?_)
      | (refine aRet ?_)
      | (refine aOps _ rfl (by kernel_rfl) ?_)
      | (refine aRunK _ rfl mixed (by kernel_rfl) (by kernel_rfl) fun KE hE => ?_)
      | (refine hE _ _ (by kernel_rfl) (intsOk_no rfl) ?_; clear hE; clear KE)
      | (refine hE _ _ (by kernel_rfl) (intsOk_yes ?hi ?hj) ?_; (case hi => (repeat (refine intsDead_updB rfl ?_)); exact intsDead_nil); (case hj => simp); clear hE; clear KE)
      | (refine aCondT rfl ?hc ?_; case hc => simp only [go_sem, ↓reduceIte, hres, h1])
      | (refine aCondF rfl ?hc ?_; case hc => simp only [go_sem, ↓reduceIte, hres, h1])
      | (simp only [go_sem, ↓reduceIte, hres, h1])
      | (refine And.intro ?ho ?_; (case ho => omega))
      | (clear hK; clear K))

/-! The examples. -/
def c0 : CertD := ⟨2, 10, 100, 50, 2, 3⟩
theorem intD_some {cs : List CertD} {rs : List RecD} {which reading day : Int} {b : Nat} {c : CertD} {lo hi : Rat} (h1 : findC cs which day = some b) (h2 : cs[b]? = some c) (h3 : recC rs which day = false) (h4 : inB reading 0 1099511627776 = true) (h5 : maxQ ((reading : Rat) - errQ c reading day) 0 = lo) (h6 : (reading : Rat) + errQ c reading day = hi) : intD cs rs which reading day = ⟨ofQ lo, ofQ hi, true⟩ := by
  simp only [intD, h1, h2, h3, h4, okI, h5, h6]
  rfl
theorem ex1 : intD [c0] [] 2 10000 10 = ⟨ofQ ((9930 : Int) : Rat), ofQ ((10070 : Int) : Rat), true⟩ :=
  intD_some (b := 0) (c := c0) (by decide) rfl (by decide) (by decide) (by decide +kernel) (by decide +kernel)
theorem ex2 : intD [c0] [⟨2, 21⟩] 2 10000 20 = ⟨ofQ ((9900 : Int) : Rat), ofQ ((10100 : Int) : Rat), true⟩ :=
  intD_some (b := 0) (c := c0) (by decide) rfl (by decide) (by decide) (by decide +kernel) (by decide +kernel)
theorem ex3 : intD [c0] [] 2 30 20 = ⟨ofQ ((0 : Int) : Rat), ofQ (Rat.divInt 5503 50), true⟩ :=
  intD_some (b := 0) (c := c0) (by decide) rfl (by decide) (by decide) (by decide +kernel) (by decide +kernel)
theorem ex4 : intD [c0] [] 2 10000 101 = ⟨zF, zF, false⟩ := by
  have h1 : findC [c0] 2 101 = none := by decide
  simp only [intD, h1]
  rfl
theorem ex5 : intD [c0] [⟨2, 20⟩] 2 10000 20 = ⟨zF, zF, false⟩ := by
  have h1 : findC [c0] 2 20 = some 0 := by decide
  simp only [intD, h1, List.getElem?_cons_zero]
  rw [if_pos (by decide)]
  rfl
theorem szF_of {f : FracD} {n : Int} (h : f = ofQ (n : Rat)) (h1 : -9223372036854775808 ≤ n) (h2 : n ≤ 9223372036854775808) : (szF f : Int) ≤ 9007199254740992 := by
  rw [h, szF_ofQ]; have := szQ_int n h1 h2; omega
theorem wholeZ_c (n : Int) (h1 : -9223372036854775808 ≤ n) (h2 : n ≤ 9223372036854775807) : Contract Try.prog 60 [encF (ofQ (n : Rat)), dI n] (dB true) := by
  have := whole_c (ofQ (n : Rat)) n (szF_of rfl h1 (by omega)) h1 h2
  rwa [sameF_self] at this
theorem sane_c : Contract Try.prog 14 [] (dB true) := by
  refine Contract.ofA (CallA.inline Try.func14 rfl (by kernel_rfl) (by kernel_rfl) (by kernel_rfl) ?_)
  rw [Try.ntmps14]
  have hres := Try.results14
  have k1 := inter_c [c0] [] 2 10000 10 (by decide) (by decide)
  have k2 := inter_c [c0] [⟨2, 21⟩] 2 10000 20 (by decide) (by decide)
  have k3 := inter_c [c0] [] 2 30 20 (by decide) (by decide)
  have k4 := inter_c [c0] [] 2 10000 101 (by decide) (by decide)
  have k5 := inter_c [c0] [⟨2, 20⟩] 2 10000 20 (by decide) (by decide)
  have k6 := rof_c 5503 50 (by decide) (by decide) (by decide) (by decide) (by decide)
  have k7 := find_c [c0, c0] 2 50 (by decide)
  rw [show findC [c0, c0] 2 50 = some 1 by decide] at k7
  have k8 := sright_c c0
  rw [show rightC c0 = true by decide] at k8
  have k9 := recalled_c [] 2 20 (by decide)
  rw [show recC [] 2 20 = false by decide] at k9
  rw [ex1] at k1
  rw [ex2] at k2
  rw [ex3] at k3
  rw [ex4] at k4
  rw [ex5] at k5
  have w1 := wholeZ_c 9930 (by decide) (by decide)
  have w2 := wholeZ_c 10070 (by decide) (by decide)
  have w3 := wholeZ_c 9900 (by decide) (by decide)
  have w4 := wholeZ_c 10100 (by decide) (by decide)
  have w5 := wholeZ_c 0 (by decide) (by decide)
  have w6 := same_c (ofQ (Rat.divInt 5503 50)) (ofQ (Rat.divInt 5503 50)) (by rw [szF_ofQ]; have := szQ_frac 5503 50 (by decide) (by decide) (by decide) (by decide) (by decide); omega)
  rw [sameF_self] at w6
  repeat (first
      | (refine hK _ ?_; clear hK; clear K)
      | (refine aSeq fun K hK => ?_)
      | (refine aBlock ?_)
      | (refine aSkip ?_)
      | (refine aExit ?_)
      | (refine aRet ?_)
      | (refine aOps _ rfl (by kernel_rfl) ?_)
      | (refine aRunK _ rfl mixed (by kernel_rfl) (by kernel_rfl) fun KE hE => ?_)
      | (refine hE _ _ (by kernel_rfl) (intsOk_no rfl) ?_; clear hE; clear KE)
      | (refine hE _ _ (by kernel_rfl) (intsOk_yes ?hi ?hj) ?_; (case hi => (repeat (refine intsDead_updB rfl ?_)); exact intsDead_nil); (case hj => simp); clear hE; clear KE)
      | (refine aCondT rfl ?hc ?_; case hc => simp only [go_sem, ↓reduceIte, hres])
      | (refine aCondF rfl ?hc ?_; case hc => simp only [go_sem, ↓reduceIte, hres])
      | (refine callT_of (k1) ?_ ?_; rotate_left; (repeat (refine intsDead_updB rfl ?_)); exact intsDead_nil)
      | (refine callT_ofN (k1) ?_)
      | (refine callU_of (k1) rfl ?_)
      | (refine callU_ofN (k1) rfl ?_)
      | (refine callT_of (k2) ?_ ?_; rotate_left; (repeat (refine intsDead_updB rfl ?_)); exact intsDead_nil)
      | (refine callT_ofN (k2) ?_)
      | (refine callU_of (k2) rfl ?_)
      | (refine callU_ofN (k2) rfl ?_)
      | (refine callT_of (k3) ?_ ?_; rotate_left; (repeat (refine intsDead_updB rfl ?_)); exact intsDead_nil)
      | (refine callT_ofN (k3) ?_)
      | (refine callU_of (k3) rfl ?_)
      | (refine callU_ofN (k3) rfl ?_)
      | (refine callT_of (k4) ?_ ?_; rotate_left; (repeat (refine intsDead_updB rfl ?_)); exact intsDead_nil)
      | (refine callT_ofN (k4) ?_)
      | (refine callU_of (k4) rfl ?_)
      | (refine callU_ofN (k4) rfl ?_)
      | (refine callT_of (k5) ?_ ?_; rotate_left; (repeat (refine intsDead_updB rfl ?_)); exact intsDead_nil)
      | (refine callT_ofN (k5) ?_)
      | (refine callU_of (k5) rfl ?_)
      | (refine callU_ofN (k5) rfl ?_)
      | (refine callT_of (k6) ?_ ?_; rotate_left; (repeat (refine intsDead_updB rfl ?_)); exact intsDead_nil)
      | (refine callT_ofN (k6) ?_)
      | (refine callU_of (k6) rfl ?_)
      | (refine callU_ofN (k6) rfl ?_)
      | (refine callT_of (k7) ?_ ?_; rotate_left; (repeat (refine intsDead_updB rfl ?_)); exact intsDead_nil)
      | (refine callT_ofN (k7) ?_)
      | (refine callU_of (k7) rfl ?_)
      | (refine callU_ofN (k7) rfl ?_)
      | (refine callT_of (k8) ?_ ?_; rotate_left; (repeat (refine intsDead_updB rfl ?_)); exact intsDead_nil)
      | (refine callT_ofN (k8) ?_)
      | (refine callU_of (k8) rfl ?_)
      | (refine callU_ofN (k8) rfl ?_)
      | (refine callT_of (k9) ?_ ?_; rotate_left; (repeat (refine intsDead_updB rfl ?_)); exact intsDead_nil)
      | (refine callT_ofN (k9) ?_)
      | (refine callU_of (k9) rfl ?_)
      | (refine callU_ofN (k9) rfl ?_)
      | (refine callT_of (w1) ?_ ?_; rotate_left; (repeat (refine intsDead_updB rfl ?_)); exact intsDead_nil)
      | (refine callT_ofN (w1) ?_)
      | (refine callU_of (w1) rfl ?_)
      | (refine callU_ofN (w1) rfl ?_)
      | (refine callT_of (w2) ?_ ?_; rotate_left; (repeat (refine intsDead_updB rfl ?_)); exact intsDead_nil)
      | (refine callT_ofN (w2) ?_)
      | (refine callU_of (w2) rfl ?_)
      | (refine callU_ofN (w2) rfl ?_)
      | (refine callT_of (w3) ?_ ?_; rotate_left; (repeat (refine intsDead_updB rfl ?_)); exact intsDead_nil)
      | (refine callT_ofN (w3) ?_)
      | (refine callU_of (w3) rfl ?_)
      | (refine callU_ofN (w3) rfl ?_)
      | (refine callT_of (w4) ?_ ?_; rotate_left; (repeat (refine intsDead_updB rfl ?_)); exact intsDead_nil)
      | (refine callT_ofN (w4) ?_)
      | (refine callU_of (w4) rfl ?_)
      | (refine callU_ofN (w4) rfl ?_)
      | (refine callT_of (w5) ?_ ?_; rotate_left; (repeat (refine intsDead_updB rfl ?_)); exact intsDead_nil)
      | (refine callT_ofN (w5) ?_)
      | (refine callU_of (w5) rfl ?_)
      | (refine callU_ofN (w5) rfl ?_)
      | (refine callT_of (w6) ?_ ?_; rotate_left; (repeat (refine intsDead_updB rfl ?_)); exact intsDead_nil)
      | (refine callT_ofN (w6) ?_)
      | (refine callU_of (w6) rfl ?_)
      | (refine callU_ofN (w6) rfl ?_)
      | (simp only [go_sem, ↓reduceIte, hres])
      | (refine And.intro ?ho ?_; (case ho => omega))
      | (clear hK; clear K))
end Go.Proofs.Ytenmlcpbjjlokaa
