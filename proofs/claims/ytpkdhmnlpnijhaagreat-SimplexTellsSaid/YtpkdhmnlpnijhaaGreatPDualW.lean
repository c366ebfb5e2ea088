/-
  dual.multipliers, Signed, add, below.
-/
import Derived.Test.YtpkdhmnlpnijhaaGreatPDualP
namespace Go.Proofs.YtpkdhmnlpnijhaaGreat
set_option linter.unusedVariables false
set_option linter.unusedSimpArgs false
set_option linter.unusedSectionVars false
open Go Go.RowKit
set_option maxRecDepth 100000
set_option maxHeartbeats 4000000
def tnF (f : FracD) : Prop := (szF f : Int) ≤ 262144
def tnT (l : List TermD) : Prop := (l.length : Int) ≤ 64 ∧ ∀ t ∈ l, tnF t.f
def tnFs (l : List FracD) : Prop := (l.length : Int) ≤ 64 ∧ ∀ f ∈ l, tnF f
def tnW (w : RowD) : Prop := tnT w.t ∧ tnF w.v
def tnS (s : SysD) : Prop := (s.r.length : Int) ≤ 64 ∧ ∀ w ∈ s.r, tnW w
theorem tnF.sm {f : FracD} (h : tnF f) : smF f := by unfold tnF at h; unfold smF; omega
theorem tnT.sm {l : List TermD} (h : tnT l) : smT l := ⟨by have := h.1; omega, fun t ht => (h.2 t ht).sm⟩
theorem tnFs.sm {l : List FracD} (h : tnFs l) : smFs l := ⟨by have := h.1; omega, fun t ht => (h.2 t ht).sm⟩
theorem tnW.sm {w : RowD} (h : tnW w) : smW w := ⟨h.1.sm, h.2.sm⟩
theorem tnS.sm {s : SysD} (h : tnS s) : smS s := ⟨by have := h.1; omega, fun t ht => (h.2 t ht).sm⟩
theorem zip_at {α β : Type} {l : List α} {m : List β} {k : Nat} {x : α} {y : β} (hx : l[k]? = some x) (hy : m[k]? = some y) : (l.zip m)[k]? = some (x, y) := by
 rw [List.getElem?_zip_eq_some]; exact ⟨hx, hy⟩
structure BelowX where
 a : List TermD
 b : List TermD
 l : Int
def wkT (l : List TermD) : Prop := (l.length : Int) ≤ 4096 ∧ ∀ t ∈ l, (szF t.f : Int) ≤ 549755813888
theorem smT.wk {l : List TermD} (h : smT l) : wkT l := ⟨h.1, fun t ht => smF_i (h.2 t ht)⟩
set_option maxHeartbeats 8000000
def tabL (n : Nat) (c : Nat → List D) : List (List D) := (List.range n).map c
theorem tab_len (n : Nat) (c : Nat → List D) : (tabL n c).length = n := by simp [tabL]
theorem tab_get {n k : Nat} (c : Nat → List D) (h : k < n) : (tabL n c)[k]? = some (c k) := by simp [tabL, h]
theorem tab_congr {n : Nat} {c d : Nat → List D} (h : ∀ u, u < n → c u = d u) : tabL n c = tabL n d := List.map_congr_left fun u hu => h u (List.mem_range.1 hu)
theorem tab_set {n k : Nat} (c : Nat → List D) (x : List D) : (tabL n c).set k x = tabL n (fun u => if u = k then x else c u) := by
 apply List.ext_getElem
 · simp [tabL]
 · intro i h1 h2
   simp only [tabL, List.length_map, List.length_range] at h2
   rw [List.getElem_set]
   simp only [tabL, List.getElem_map, List.getElem_range]
   by_cases e : k = i
   · subst e; simp
   · rw [if_neg e, if_neg (Ne.symm e)]
theorem tab_rep (n : Nat) (z : List D) : List.replicate n z = tabL n (fun _ => z) := by
 unfold tabL; rw [List.map_const', List.length_range]
abbrev zc : List D := [dI 0, .nil, dI 0, .nil]
def fillL (n k : Nat) : List (List D) := tabL n (fun v => if v < k then cF (ofQ 0) else zc)
theorem fill_zero (n : Nat) : fillL n 0 = List.replicate n zc := by rw [tab_rep]; exact tab_congr fun u _ => by rw [if_neg (by omega)]
theorem fill_len (n k : Nat) : (fillL n k).length = n := tab_len _ _
theorem fill_set (n k : Nat) : (fillL n k).set k (cF (ofQ 0)) = fillL n (k + 1) := by
 unfold fillL
 rw [tab_set]
 refine tab_congr fun u _ => ?_
 by_cases h : u = k
 · rw [if_pos h, if_pos (by omega)]
 · rw [if_neg h]
   by_cases h2 : u < k
   · rw [if_pos h2, if_pos (by omega)]
   · rw [if_neg h2, if_neg (by omega)]
def ratL (n : Nat) (c : Nat → Rat) : List (List D) := tabL n (fun v => cF (ofQ (c v)))
theorem rat_len (n : Nat) (c : Nat → Rat) : (ratL n c).length = n := tab_len _ _
theorem rat_get {n k : Nat} (c : Nat → Rat) (h : k < n) : (ratL n c)[k]? = some (cF (ofQ (c k))) := tab_get _ h
theorem rat_set {n k : Nat} (c : Nat → Rat) (q : Rat) : (ratL n c).set k (cF (ofQ q)) = ratL n (fun u => if u = k then q else c u) := by
 unfold ratL
 rw [tab_set]
 refine tab_congr fun u _ => ?_
 by_cases h : u = k <;> simp [h]
theorem rat_congr {n : Nat} {c d : Nat → Rat} (h : ∀ u, u < n → c u = d u) : ratL n c = ratL n d := tab_congr fun u hu => by rw [h u hu]
theorem fill_all (n : Nat) : fillL n n = ratL n (fun _ => 0) := tab_congr fun u hu => by rw [if_pos hu]
def sumsQ (s : SysD) (y : List FracD) (k : Nat) (v : Nat) : Rat := mixG (indI v) (s.r.take k) (y.take k)
theorem dot_take_succ {g : Int → Rat} {l : List TermD} {k : Nat} {t : TermD} (hx : l[k]? = some t) : dotS g (l.take (k + 1)) = dotS g (l.take k) + qOf t.f * g t.v := by
 rw [List.take_add_one, hx, Option.toList_some, dotS_append]; simp only [dotS]; grind
theorem sz_part (A : Rat) (f : Rat) (v : Int) {B : Nat} : ∀ (l : List TermD), (∀ t ∈ l, szF t.f ≤ B ∧ okF t.f = true) → ∀ j, j ≤ l.length → szQ (A + f * dotS (indI v) (l.take j)) ≤ szQ A + j * (szQ f + B + 1) := by
 intro l hl j
 induction j with
 | zero =>
   intro _
   rw [List.take_zero, show A + f * dotS (indI v) [] = A by simp only [dotS]; grind]
   omega
 | succ j ih =>
   intro hj
   obtain ⟨t, ht⟩ := getE (l := l) (k := j) (by omega)
   obtain ⟨h1, h2⟩ := hl t (mem_at ht)
   have i1 := ih (by omega)
   rw [dot_take_succ ht, Nat.add_mul, Nat.one_mul]
   by_cases hv : t.v = v
   · rw [show A + f * (dotS (indI v) (l.take j) + qOf t.f * indI v t.v) = (A + f * dotS (indI v) (l.take j)) + f * qOf t.f by simp only [indI, if_pos hv]; grind]
     have i2 := szQ_add (A + f * dotS (indI v) (l.take j)) (f * qOf t.f)
     have i3 := szQ_mul f (qOf t.f)
     rw [szF_ok h2] at i3
     omega
   · rw [show A + f * (dotS (indI v) (l.take j) + qOf t.f * indI v t.v) = A + f * dotS (indI v) (l.take j) by simp only [indI, if_neg hv]; grind]
     omega
theorem sz_part' {A : Rat} {f : FracD} {w : RowD} {n : Int} (v : Int) (hf : tnF f) (ho : okF f = true) (hw : tnT w.t) (hr : rightT w.t n = true) {j : Nat} (hj : j ≤ w.t.length) : (szQ (A + qOf f * dotS (indI v) (w.t.take j)) : Int) ≤ szQ A + (j : Int) * 524289 := by
 have h := sz_part A (qOf f) v (B := 262144) w.t (fun t ht => ⟨by have := hw.2 t ht; unfold tnF at this; omega, (rightT_mem hr ht).2.2.1⟩) j hj
 rw [szF_ok ho] at h
 have h2 : szF f ≤ 262144 := by unfold tnF at hf; omega
 have h3 : j * (szF f + 262144 + 1) ≤ j * 524289 := Nat.mul_le_mul_left _ (by omega)
 have := Int.ofNat_le.2 (Nat.le_trans h (Nat.add_le_add_left h3 _))
 simp only [Int.natCast_add, Int.natCast_mul] at this
 omega
theorem rightW_T {s : SysD} (hr : rightS s = true) {w : RowD} (hw : w ∈ s.r) : rightT w.t s.n = true := by
 have := rightS_mem hr hw
 simp only [rightW, Bool.and_eq_true] at this
 exact this.1.1.1
theorem sz_sums {s : SysD} {y : List FracD} (hs : tnS s) (hy : tnFs y) (ho : okP y = true) (hr : rightS s = true) (v : Nat) : ∀ k, k ≤ y.length → k ≤ s.r.length → (szQ (sumsQ s y k v) : Int) ≤ 4 + (k : Int) * 33554496 := by
 intro k
 induction k with
 | zero => intro _ _; unfold sumsQ; rw [List.take_zero, mixG_nil]; have : szQ 0 ≤ 4 := szQ_int 0 (by decide) (by decide); omega
 | succ k ih =>
   intro h1 h2
   obtain ⟨f, hf⟩ := getE (l := y) (k := k) (by omega)
   obtain ⟨w, hw⟩ := getE (l := s.r) (k := k) (by omega)
   have sw := hs.2 w (mem_at hw)
   have h3 := sz_part' (A := sumsQ s y k v) v (hy.2 f (mem_at hf)) (List.all_eq_true.1 ho f (mem_at hf)) sw.1 (rightW_T hr (mem_at hw)) (Nat.le_refl _)
   have h4 := ih (by omega) (by omega)
   have h5 : (w.t.length : Int) ≤ 64 := sw.1.1
   have e : sumsQ s y (k + 1) v = sumsQ s y k v + qOf f * dotS (indI v) (w.t.take w.t.length) := by unfold sumsQ; rw [mixG_add _ _ _ _ _ _ hw hf, List.take_length]
   rw [e]
   omega
theorem sz_value {s : SysD} {y : List FracD} (hs : tnS s) (hy : tnFs y) (ho : okP y = true) (hr : rightS s = true) : ∀ k, k ≤ y.length → k ≤ s.r.length → (szQ (mixV (s.r.take k) (y.take k)) : Int) ≤ 4 + (k : Int) * 524289 := by
 intro k
 induction k with
 | zero => intro _ _; rw [List.take_zero, mixV_nil]; have : szQ 0 ≤ 4 := szQ_int 0 (by decide) (by decide); omega
 | succ k ih =>
   intro h1 h2
   obtain ⟨f, hf⟩ := getE (l := y) (k := k) (by omega)
   obtain ⟨w, hw⟩ := getE (l := s.r) (k := k) (by omega)
   have h3 := ih (by omega) (by omega)
   have zf : (szF f : Int) ≤ 262144 := hy.2 f (mem_at hf)
   have zv : (szF w.v : Int) ≤ 262144 := (hs.2 w (mem_at hw)).2
   have o1 := List.all_eq_true.1 ho f (mem_at hf)
   have o2 := (rightS_row hr (mem_at hw)).2.2.2
   rw [mixV_add _ _ _ _ _ hw hf]
   have i2 := szQ_add (mixV (s.r.take k) (y.take k)) (qOf f * qOf w.v)
   have i3 := szQ_mul (qOf f) (qOf w.v)
   rw [szF_ok o1, szF_ok o2] at i3
   omega
def valQ (s : SysD) (y : List FracD) (k : Nat) : Rat := mixV (s.r.take k) (y.take k)
theorem valQ_zero (s : SysD) (y : List FracD) : valQ s y 0 = 0 := by unfold valQ; rw [List.take_zero, mixV_nil]
theorem valQ_succ {s : SysD} {y : List FracD} {k : Nat} {w : RowD} {f : FracD} (hw : s.r[k]? = some w) (hf : y[k]? = some f) : valQ s y (k + 1) = valQ s y k + qOf f * qOf w.v := mixV_add _ _ _ _ _ hw hf
theorem termsOf_yes {n : Nat} {c : Nat → Rat} (h : c n ≠ 0) : termsOf (n + 1) c = termsOf n c ++ [⟨(n : Int), ofQ (c n)⟩] := by rw [termsOf_succ, if_neg h]
theorem termsOf_skip {n : Nat} {c : Nat → Rat} (h : c n = 0) : termsOf (n + 1) c = termsOf n c := by rw [termsOf_succ, if_pos h, List.append_nil]
theorem termsOf_zero (c : Nat → Rat) : termsOf 0 c = [] := rfl
theorem sz_mixV {s : SysD} {y : List FracD} (hs : tnS s) (hy : tnFs y) (hm : mulOk s y = true) : (szQ (mixV s.r y) : Int) ≤ 33554500 := by
 obtain ⟨hr, hlen, hok⟩ := mulOk_iff.1 hm
 have h := sz_value hs hy hok hr y.length (Nat.le_refl _) (by omega)
 have hly := hy.1
 rw [hlen, List.take_length, ← hlen, List.take_length] at h
 omega
theorem sz_lower {s : SysD} {goal : List TermD} {y : List FracD} (hs : tnS s) (hy : tnFs y) : (szF (lowerD s goal y).1 : Int) ≤ 33554500 := by
 unfold lowerD
 split
 · rename_i h
   simp only [Bool.and_eq_true, signedD] at h
   exact sz_mixV hs hy h.1.1.1
 · show (szF zF : Int) ≤ _
   decide
theorem ray_false {s : SysD} {goal : List TermD} {d : List FracD} (h : rayD s goal d = false) : D.v (.bool false) = dB (rayD s goal d) := bool_eq h.symm
theorem isE {α : Type} (l : List α) : l.isEmpty = ((l.length : Int) == 0) := by
 cases l with
 | nil => rfl
 | cons x l => simp; omega
def tnO (o : OptD) : Prop := tnF o.v ∧ tnFs o.x ∧ tnFs o.y ∧ tnFs o.d
end Go.Proofs.YtpkdhmnlpnijhaaGreat
