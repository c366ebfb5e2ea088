/-
  dual.multipliers, Signed, add, below.
-/
import Derived.Test.YtpkdhmnlpnijhaaGreatVDualP
namespace Go.Proofs.YtpkdhmnlpnijhaaGreat
set_option linter.unusedVariables false
set_option linter.unusedSimpArgs false
set_option linter.unusedSectionVars false
open Go Go.RowKit
set_option maxRecDepth 100000
set_option maxHeartbeats 4000000
def tnF (f : FracD) : Prop := (szF f : Int) ≤ 262144
def tnT (l : List TermD) : Prop := (l.length : Int) ≤ 64 ∧ ∀ t ∈ l, tnF t.f
def tnFs (l : List FracD) : Prop := (l.length : Int) ≤ 64 ∧ ∀ f ∈ l, tnF f
def tnW (w : RowD) : Prop := tnT w.t ∧ tnF w.v
def tnS (s : SysD) : Prop := (s.r.length : Int) ≤ 64 ∧ ∀ w ∈ s.r, tnW w
theorem tnF.sm {f : FracD} (h : tnF f) : smF f := by unfold tnF at h; unfold smF; omega
theorem tnT.sm {l : List TermD} (h : tnT l) : smT l := ⟨by have := h.1; omega, fun t ht => (h.2 t ht).sm⟩
theorem tnFs.sm {l : List FracD} (h : tnFs l) : smFs l := ⟨by have := h.1; omega, fun t ht => (h.2 t ht).sm⟩
theorem tnW.sm {w : RowD} (h : tnW w) : smW w := ⟨h.1.sm, h.2.sm⟩
theorem tnS.sm {s : SysD} (h : tnS s) : smS s := ⟨by have := h.1; omega, fun t ht => (h.2 t ht).sm⟩
structure BelowX where
 a : List TermD
 b : List TermD
 l : Int
def wkT (l : List TermD) : Prop := (l.length : Int) ≤ 4096 ∧ ∀ t ∈ l, (szF t.f : Int) ≤ 549755813888
theorem smT.wk {l : List TermD} (h : smT l) : wkT l := ⟨h.1, fun t ht => smF_i (h.2 t ht)⟩
set_option maxHeartbeats 8000000
def tabL (n : Nat) (c : Nat → List D) : List (List D) := (List.range n).map c
theorem tab_len (n : Nat) (c : Nat → List D) : (tabL n c).length = n := by simp [tabL]
theorem tab_get {n k : Nat} (c : Nat → List D) (h : k < n) : (tabL n c)[k]? = some (c k) := by simp [tabL, h]
theorem tab_congr {n : Nat} {c d : Nat → List D} (h : ∀ u, u < n → c u = d u) : tabL n c = tabL n d := List.map_congr_left fun u hu => h u (List.mem_range.1 hu)
theorem tab_set {n k : Nat} (c : Nat → List D) (x : List D) : (tabL n c).set k x = tabL n (fun u => if u = k then x else c u) := by
 apply List.ext_getElem
 · simp [tabL]
 · intro i h1 h2
   simp only [tabL, List.length_map, List.length_range] at h2
   rw [List.getElem_set]
   simp only [tabL, List.getElem_map, List.getElem_range]
   by_cases e : k = i
   · subst e; simp
   · rw [if_neg e, if_neg (Ne.symm e)]
theorem tab_rep (n : Nat) (z : List D) : List.replicate n z = tabL n (fun _ => z) := by
 unfold tabL; rw [List.map_const', List.length_range]
abbrev zc : List D := [dI 0, .nil, dI 0, .nil]
def fillL (n k : Nat) : List (List D) := tabL n (fun v => if v < k then cF (ofQ 0) else zc)
theorem fill_zero (n : Nat) : fillL n 0 = List.replicate n zc := by rw [tab_rep]; exact tab_congr fun u _ => by rw [if_neg (by omega)]
theorem fill_len (n k : Nat) : (fillL n k).length = n := tab_len _ _
theorem fill_set (n k : Nat) : (fillL n k).set k (cF (ofQ 0)) = fillL n (k + 1) := by
 unfold fillL
 rw [tab_set]
 refine tab_congr fun u _ => ?_
 by_cases h : u = k
 · rw [if_pos h, if_pos (by omega)]
 · rw [if_neg h]
   by_cases h2 : u < k
   · rw [if_pos h2, if_pos (by omega)]
   · rw [if_neg h2, if_neg (by omega)]
def ratL (n : Nat) (c : Nat → Rat) : List (List D) := tabL n (fun v => cF (ofQ (c v)))
theorem rat_len (n : Nat) (c : Nat → Rat) : (ratL n c).length = n := tab_len _ _
theorem rat_get {n k : Nat} (c : Nat → Rat) (h : k < n) : (ratL n c)[k]? = some (cF (ofQ (c k))) := tab_get _ h
theorem rat_set {n k : Nat} (c : Nat → Rat) (q : Rat) : (ratL n c).set k (cF (ofQ q)) = ratL n (fun u => if u = k then q else c u) := by
 unfold ratL
 rw [tab_set]
 refine tab_congr fun u _ => ?_
 by_cases h : u = k <;> simp [h]
theorem rat_congr {n : Nat} {c d : Nat → Rat} (h : ∀ u, u < n → c u = d u) : ratL n c = ratL n d := tab_congr fun u hu => by rw [h u hu]
theorem fill_all (n : Nat) : fillL n n = ratL n (fun _ => 0) := tab_congr fun u hu => by rw [if_pos hu]
theorem dot_take_succ {g : Int → Rat} {l : List TermD} {k : Nat} {t : TermD} (hx : l[k]? = some t) : dotS g (l.take (k + 1)) = dotS g (l.take k) + qOf t.f * g t.v := by
 rw [List.take_add_one, hx, Option.toList_some, dotS_append]; simp only [dotS]; grind
theorem termsOf_yes {n : Nat} {c : Nat → Rat} (h : c n ≠ 0) : termsOf (n + 1) c = termsOf n c ++ [⟨(n : Int), ofQ (c n)⟩] := by rw [termsOf_succ, if_neg h]
theorem termsOf_skip {n : Nat} {c : Nat → Rat} (h : c n = 0) : termsOf (n + 1) c = termsOf n c := by rw [termsOf_succ, if_pos h, List.append_nil]
theorem termsOf_zero (c : Nat → Rat) : termsOf 0 c = [] := rfl
def tnO (o : OptD) : Prop := tnF o.v ∧ tnFs o.x ∧ tnFs o.y ∧ tnFs o.d
end Go.Proofs.YtpkdhmnlpnijhaaGreat
