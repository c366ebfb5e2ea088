/-
  What an argument's reading tells, for whatever type of ints, bools, strings, slices and structs: it shows data of the type's shape.
-/
import Derived.Test.YtpkdhmnlpnijhaaGreatVConv
import Derived.Test.YtpkdhmnlpnijhaaGreatRows
import Derived.ProofKit
import Derived.OpenShut
import Derived.ChangeOld
import Derived.Lib.SmallJoins
import Derived.Deep.Slices
import Derived.Test.YtpkdhmnlpnijhaaGreatVLinA
namespace Go.Proofs.YtpkdhmnlpnijhaaGreat
set_option linter.unusedVariables false
set_option linter.unusedSimpArgs false
set_option linter.unusedSectionVars false
open Go.RowKit Go.ChangeShapes Go.WideShapes Go.ChangeAt
def laidB (P : Program) : Nat → List Field → Nat → Bool
 | at', [], tot => at' == tot
 | at', f :: fs, tot => f.offset == at' && laidB P (at' + P.cellsOf f.type) fs tot
def goodT (P : Program) : Nat → TypeId → Bool
 | 0, _ => false
 | n + 1, T => match P.underlying T with
   | some .bool => true
   | some (.int _) => true
   | some .string => true
   | some (.slice e) => decide (0 < P.cellsOf e) && goodT P n e
   | some (.struct fs) => laidB P 0 fs.toList (P.cellsOf T) && fs.toList.all (fun f => goodT P n f.type)
   | _ => false
def Shown (P : Program) : Nat → TypeId → List D → Prop
 | 0, _, _ => False
 | n + 1, T, ds => match P.underlying T with
   | some .bool => ∃ b, ds = [.v (.bool b)]
   | some (.int k) => ∃ x, ds = [.v (.int k x)] ∧ (Lit.int k x).wf = true
   | some .string => ∃ s, ds = [.v (.string s)] ∧ s.size ≤ maxLen
   | some (.slice e) => ∃ es : List (List D), ds = [.sl es] ∧ (es.length : Int) ≤ maxLen ∧ ∀ x ∈ es, Shown P n e x
   | some (.struct fs) => fs.toList.foldr (fun f K ds => ∃ a b, ds = a ++ b ∧ Shown P n f.type a ∧ K b) (fun ds => ds = []) ds
   | _ => False
abbrev allS : Nat → Nat → Prop := fun _ _ => True
abbrev RepA (w : World) (v : Value) (d : D) : Prop := Rep noB noM allS w v d
abbrev RepsA (w : World) (vs : List Value) (ds : List D) : Prop := Reps noB noM allS w vs ds
theorem repsA_append {w : World} {vs us : List Value} {ds es : List D} (h : RepsA w vs ds) (k : RepsA w us es) : RepsA w (vs ++ us) (ds ++ es) := by
 refine ⟨by rw [List.length_append, List.length_append, h.1, k.1], fun i x d hx hd => ?_⟩
 have hl : vs.length = ds.length := h.1
 by_cases hi : i < vs.length
 · rw [List.getElem?_append_left hi] at hx
   rw [List.getElem?_append_left (by omega)] at hd
   exact h.2 i x d hx hd
 · rw [List.getElem?_append_right (by omega)] at hx
   rw [List.getElem?_append_right (by omega), ← hl] at hd
   exact k.2 _ x d hx hd
theorem repsA_one {w : World} {x : Value} {d : D} (h : RepA w x d) : RepsA w [x] [d] := Reps.cons h Reps.nil
section
variable {H : Type} {enc : TypeId × Value → H} {P : Program} {w : World} {base : Nat} {spare : Nat → Bool} {held : Bool}
theorem rep_of_trod : ∀ (n : Nat) (T : TypeId) (fuel : Nat) (cs : List Value) (y : DataW H × List MemPlace), goodT P n T = true → DataW.trod enc P w base spare held fuel T cs = some y → ∃ ds, Shown P n T ds ∧ RepsA w cs ds := by
 intro n
 induction n with
 | zero => intro T fuel cs y h; cases h
 | succ n ih =>
   intro T fuel cs y hg h
   unfold goodT at hg
   unfold Shown
   split at hg
   · rename_i ht
     obtain ⟨b, rfl, _⟩ := DataW.trod_bool ht h
     exact ⟨[.v (.bool b)], by exact ⟨b, rfl⟩, repsA_one (.v _)⟩
   · rename_i k ht
     obtain ⟨x, rfl, _, hw⟩ := DataW.trod_int ht h
     exact ⟨[.v (.int k x)], by exact ⟨x, rfl, hw⟩, repsA_one (.v _)⟩
   · rename_i ht
     obtain ⟨s, rfl, _, hw⟩ := DataW.trod_string ht h
     exact ⟨[.v (.string s)], by exact ⟨s, rfl, hw⟩, repsA_one (.v _)⟩
   · rename_i e ht
     rw [Bool.and_eq_true, decide_eq_true_eq] at hg
     obtain ⟨hk, hg⟩ := hg
     rcases Go.Deep.open_slice ht h with ⟨rfl, _⟩ | ⟨ad, len, cap, m, fl, Dd, Pl, rfl, hb, hl, hm, hmm, _, hx⟩
     · exact ⟨[.sl []], by exact ⟨[], rfl, by simp, fun x hx => by cases hx⟩, repsA_one (.sl0 _ _ (Nat.zero_le _))⟩
     · by_cases hz : len = 0
       · subst hz
         exact ⟨[.sl []], by exact ⟨[], rfl, by simp, fun x hx => by cases hx⟩, repsA_one (.sl0 _ _ hm)⟩
       have hmle : len ≤ m := by rw [hmm]; split <;> omega
       obtain ⟨f, hf⟩ := Go.Deep.choose_lt (n := len) (p := fun i (x : List D) => ∃ cs, Shown P n e x ∧ RepsA w cs x ∧ cs.length = P.cellsOf e ∧ ∀ j, j < P.cellsOf e → w.cell? ((ad.add (i * P.cellsOf e)).add j) = cs[j]?) (fun i hi => by
        obtain ⟨cs, h1, h2⟩ := hx i (by omega)
        obtain ⟨_, hcl, hcell⟩ := World.cells?_some h1
        obtain ⟨ds, h3, h4⟩ := ih e fl cs _ hg h2
        exact ⟨ds, cs, h3, h4, hcl, hcell⟩)
       obtain ⟨b, off, spot⟩ := ad
       obtain ⟨cs0, _, _, hl0, hc0⟩ := hf 0 (by omega)
       have hc00 := hc0 0 hk
       rw [List.getElem?_eq_getElem (by omega)] at hc00
       have hsp : spot = none := by simpa [Addr.add] using World.cell?_spot hc00
       subst hsp
       have hadd : ∀ i j, ((⟨b, off, none⟩ : Addr).add i).add j = ⟨b, off + i + j, none⟩ := fun i j => by
        rw [Go.Deep.add_add]
        unfold Addr.add
        split
        · rename_i h; simp; try omega
        · simp; try omega
       have hget : ∀ (i : Nat) (x : List D), ((List.range len).map f)[i]? = some x → i < len ∧ x = f i := by
        intro i x hi
        obtain ⟨hil, hix⟩ := List.getElem?_eq_some_iff.1 hi
        simp only [List.length_map, List.length_range] at hil
        simp only [List.getElem_map, List.getElem_range] at hix
        exact ⟨hil, hix.symm⟩
       refine ⟨[.sl ((List.range len).map f)], by
        refine ⟨_, rfl, by simp; omega, fun x hx => ?_⟩
        obtain ⟨i, hi, rfl⟩ := List.mem_map.1 hx
        obtain ⟨cs, h1, _⟩ := hf i (by simpa using hi)
        exact h1, repsA_one ?_⟩
       have := rep_sl (β := noB) (m := noM) (S := allS) (w := w) (b := b) (off := off) (k := P.cellsOf e) (cap := cap) (es := (List.range len).map f) ⟨fun i x hi => ?_, fun i j d hd => ?_⟩ (by simpa using hl) hm
       · simpa using this
       · obtain ⟨hil, rfl⟩ := hget i x hi
         obtain ⟨cs, _, h2, h3, _⟩ := hf i hil
         exact h2.1.symm.trans h3
       · obtain ⟨x, hx, hj⟩ := cellAt_some.1 hd
         obtain ⟨hil, rfl⟩ := hget i x hx
         obtain ⟨cs, _, h2, h3, h4⟩ := hf i hil
         have hjl : j < cs.length := by rw [h2.1]; exact (List.getElem?_eq_some_iff.1 hj).1
         have hcj : cs[j]? = some cs[j] := List.getElem?_eq_getElem hjl
         refine ⟨cs[j], trivial, ?_, h2.2 j _ d hcj hj⟩
         have := h4 j (by omega)
         rw [hadd, hcj] at this
         exact this
   · rename_i fs ht
     rw [Bool.and_eq_true, List.all_eq_true] at hg
     obtain ⟨hlaid, hgood⟩ := hg
     obtain ⟨xs, fl, _, _, hlen, hxs, hf⟩ := DataW.trod_struct ht h
     have key : ∀ (l : List Field) (at' : Nat), laidB P at' l (P.cellsOf T) = true → at' ≤ cs.length → (∀ f ∈ l, goodT P n f.type = true ∧ ∃ y, DataW.trod enc P w base spare held fl f.type ((cs.drop f.offset).take (P.cellsOf f.type)) = some y) →
         ∃ ds, l.foldr (fun f K ds => ∃ a b, ds = a ++ b ∧ Shown P n f.type a ∧ K b) (fun ds => ds = []) ds ∧ RepsA w (cs.drop at') ds := by
      intro l
      induction l with
      | nil =>
        intro at' hat hle _
        simp only [laidB, beq_iff_eq] at hat
        refine ⟨[], rfl, ?_⟩
        rw [hat, ← hlen, List.drop_length]
        exact Reps.nil
      | cons f l ihl =>
        intro at' hat hle hall
        simp only [laidB, Bool.and_eq_true, beq_iff_eq] at hat
        obtain ⟨ho, hrest⟩ := hat
        obtain ⟨hgf, y, hy⟩ := hall f List.mem_cons_self
        obtain ⟨a, ha, hra⟩ := ih f.type fl _ y hgf hy
        rw [ho] at hra
        have htot : ∀ (l : List Field) (k : Nat), laidB P k l (P.cellsOf T) = true → k ≤ P.cellsOf T := by
         intro l
         induction l with
         | nil => intro k hk; simp only [laidB, beq_iff_eq] at hk; omega
         | cons g l ihg => intro k hk; simp only [laidB, Bool.and_eq_true] at hk; have := ihg _ hk.2; omega
        obtain ⟨b, hb, hrb⟩ := ihl (at' + P.cellsOf f.type) hrest (by rw [hlen]; exact htot l _ hrest) (fun g hg => hall g (List.mem_cons_of_mem _ hg))
        refine ⟨a ++ b, ⟨a, b, rfl, ha, hb⟩, ?_⟩
        have := repsA_append hra hrb
        rwa [← List.drop_drop, List.take_append_drop] at this
     obtain ⟨ds, h1, h2⟩ := key fs.toList 0 hlaid (Nat.zero_le _) (fun f hf' => by
      obtain ⟨i, hi, hfi⟩ := List.mem_iff_getElem.1 hf'
      refine ⟨hgood f hf', ?_⟩
      have h3 := hf i f (by rw [← Array.getElem?_toList]; rw [List.getElem?_eq_getElem hi, hfi])
      have hi' : i < xs.length := by rw [hxs]; simpa using hi
      exact ⟨xs[i], by rw [h3, List.getElem?_eq_getElem hi']⟩)
     exact ⟨ds, h1, by simpa using h2⟩
   · cases hg
theorem repA_struct {n : Nat} {T : TypeId} {fs : Array Field} {r : Reach} {b0 : Nat} {v : Value} {d : DataW H} {p : List MemPlace} (ht : P.underlying T = some (.struct fs)) (hg : goodT P n T = true)
    (hv : Value.okWide P w r b0 T v) (h : DataW.Trod enc P w base spare held T v d p) : ∃ ds, Shown P n T ds ∧ RepA w v (.agg ds) := by
 obtain ⟨cs, rfl, _⟩ := okWide_struct ht hv
 obtain ⟨fuel, hf⟩ := h
 obtain ⟨ds, h1, h2⟩ := rep_of_trod n T fuel _ _ hg hf
 refine ⟨ds, h1, ?_⟩
 have := Reps.rep_agg h2
 simpa [Value.cells] using this
theorem repA_slice {n : Nat} {T e : TypeId} {r : Reach} {b0 : Nat} {v : Value} {d : DataW H} {p : List MemPlace} (ht : P.underlying T = some (.slice e)) (hg : goodT P (n + 1) T = true)
    (hv : Value.okWide P w r b0 T v) (h : DataW.Trod enc P w base spare held T v d p) : ∃ es : List (List D), (es.length : Int) ≤ maxLen ∧ (∀ x ∈ es, Shown P n e x) ∧ RepA w v (.sl es) := by
 obtain ⟨a, len, cap, rfl⟩ := okWide_slice ht hv
 obtain ⟨fuel, hf⟩ := h
 obtain ⟨ds, h1, h2⟩ := rep_of_trod (n + 1) T fuel _ _ hg hf
 unfold Shown at h1
 rw [ht] at h1
 obtain ⟨es, rfl, h3, h4⟩ := h1
 refine ⟨es, h3, h4, ?_⟩
 exact h2.2 0 _ _ (by simp [Value.cells]) rfl
end
theorem map_of_all {α : Type} {f : α → List D} : ∀ {es : List (List D)}, (∀ x ∈ es, ∃ a, x = f a) → ∃ l : List α, es = l.map f
 | [], _ => ⟨[], rfl⟩
 | x :: es, h => by
   obtain ⟨a, ha⟩ := h x List.mem_cons_self
   obtain ⟨l, hl⟩ := map_of_all (es := es) fun y hy => h y (List.mem_cons_of_mem _ hy)
   exact ⟨a :: l, by rw [ha, hl]; rfl⟩
open Go Go.RowKit
set_option linter.constructorNameAsVariable false
set_option maxRecDepth 100000
section
variable {n : Nat} {x : List D}
theorem int_of (h : Shown Tryz.prog (n + 1) 3 x) : ∃ a, x = [dI a] := by
 unfold Shown at h
 simp only [Tryz.underlying3] at h
 obtain ⟨a, rfl, _⟩ := h
 exact ⟨a, rfl⟩
theorem ints_of (h : Shown Tryz.prog (n + 2) 28 x) : ∃ l, x = [encInts l] := by
 unfold Shown at h
 simp only [Tryz.underlying28] at h
 obtain ⟨es, rfl, _, h⟩ := h
 obtain ⟨l, rfl⟩ := map_of_all (f := fun a => [dI a]) (fun x hx => int_of (h x hx))
 exact ⟨l, rfl⟩
theorem big_of (h : Shown Tryz.prog (n + 3) 30 x) : ∃ b, x = cB b := by
 unfold Shown at h
 simp only [Tryz.underlying30, List.foldr] at h
 obtain ⟨_, _, rfl, h1, _, _, rfl, h2, rfl⟩ := h
 obtain ⟨a, rfl⟩ := int_of h1
 obtain ⟨l, rfl⟩ := ints_of h2
 exact ⟨⟨a, l⟩, rfl⟩
theorem frac_of (h : Shown Tryz.prog (n + 4) 32 x) : ∃ f, x = cF f := by
 unfold Shown at h
 simp only [Tryz.underlying32, List.foldr] at h
 obtain ⟨_, _, rfl, h1, _, _, rfl, h2, rfl⟩ := h
 obtain ⟨a, rfl⟩ := big_of h1
 obtain ⟨b, rfl⟩ := big_of h2
 exact ⟨⟨a, b⟩, rfl⟩
end
end Go.Proofs.YtpkdhmnlpnijhaaGreat
