/-
  Finite sums of fractions; a list of terms as a sum over variables; sums of rows.
-/
import Derived.Test.YtpkdhmnlpnijhaaGreatVLinB
namespace Go.Proofs.YtpkdhmnlpnijhaaGreat
set_option linter.unusedVariables false
set_option linter.unusedSimpArgs false
set_option linter.unusedSectionVars false
open Go Go.RowKit
def sumN : Nat → (Nat → Rat) → Rat
 | 0, _ => 0
 | n + 1, f => sumN n f + f n
theorem sumN_congr {f g : Nat → Rat} : ∀ n, (∀ i, i < n → f i = g i) → sumN n f = sumN n g
 | 0, _ => rfl
 | n + 1, h => by simp only [sumN, sumN_congr n (fun i hi => h i (by omega)), h n (by omega)]
theorem sumN_zero : ∀ n, sumN n (fun _ => 0) = 0
 | 0 => rfl
 | n + 1 => by simp only [sumN, sumN_zero n]; grind
theorem sumN_add (f g : Nat → Rat) : ∀ n, sumN n (fun i => f i + g i) = sumN n f + sumN n g
 | 0 => by simp only [sumN]; grind
 | n + 1 => by simp only [sumN, sumN_add f g n]; grind
theorem sumN_mul (c : Rat) (f : Nat → Rat) : ∀ n, sumN n (fun i => c * f i) = c * sumN n f
 | 0 => by simp only [sumN]; grind
 | n + 1 => by simp only [sumN, sumN_mul c f n]; grind
theorem sumN_le {f g : Nat → Rat} : ∀ n, (∀ i, i < n → f i ≤ g i) → sumN n f ≤ sumN n g
 | 0, _ => by simp only [sumN]; grind
 | n + 1, h => by
   have h1 := sumN_le n (fun i hi => h i (by omega))
   have h2 := h n (by omega)
   simp only [sumN]; grind
theorem sumN_one {c : Rat} {v : Nat} : ∀ n, sumN n (fun i => if i = v then c else 0) = if v < n then c else 0
 | 0 => by simp only [sumN]; rw [if_neg (by omega)]
 | n + 1 => by
   simp only [sumN, sumN_one n]
   by_cases h : n = v
   · subst h; rw [if_neg (by omega), if_pos rfl, if_pos (by omega)]; grind
   · rw [if_neg h]
     by_cases h2 : v < n
     · rw [if_pos h2, if_pos (by omega)]; grind
     · rw [if_neg h2, if_neg (by omega)]; grind
theorem sumN_swap (f : Nat → Nat → Rat) (m : Nat) : ∀ n, sumN n (fun i => sumN m (fun j => f i j)) = sumN m (fun j => sumN n (fun i => f i j))
 | 0 => by simp only [sumN, sumN_zero]
 | n + 1 => by
   simp only [sumN, sumN_swap f m n]
   rw [← sumN_add]
def coefT (l : List TermD) (v : Nat) : Rat := dotS (indI v) l
theorem dot_sum {N : Nat} (g : Int → Rat) : ∀ (l : List TermD), (∀ t ∈ l, 0 ≤ t.v ∧ t.v < N) → dotS g l = sumN N (fun v => coefT l v * g v)
 | [], _ => by
   have : (fun v : Nat => coefT [] v * g v) = fun _ => 0 := by funext v; simp only [coefT, dotS]; grind
   rw [this, sumN_zero]; rfl
 | t :: l, h => by
   have ht := h t List.mem_cons_self
   have ih := dot_sum g l (fun u hu => h u (List.mem_cons_of_mem _ hu))
   have e : (fun v : Nat => coefT (t :: l) v * g v) = fun v => (if v = t.v.toNat then qOf t.f * g t.v else 0) + coefT l v * g v := by
    funext v
    simp only [coefT, dotS, indI]
    by_cases hv : v = t.v.toNat
    · rw [if_pos (by omega), if_pos hv, show ((v : Nat) : Int) = t.v by omega]; grind
    · rw [if_neg (by omega), if_neg hv]; grind
   rw [e, sumN_add, sumN_one, if_pos (by omega), ← ih]
   simp only [dotS]
theorem rightT_in {l : List TermD} {N : Nat} (h : rightT l N = true) : ∀ t ∈ l, 0 ≤ t.v ∧ t.v < N := fun t ht => ⟨(rightT_mem h ht).1, (rightT_mem h ht).2.1⟩
def mixG (g : Int → Rat) : List RowD → List FracD → Rat
 | w :: r, f :: y => qOf f * dotS g w.t + mixG g r y
 | _, _ => 0
def mixV : List RowD → List FracD → Rat
 | w :: r, f :: y => qOf f * qOf w.v + mixV r y
 | _, _ => 0
theorem mixG_nil (g : Int → Rat) (y : List FracD) : mixG g [] y = 0 := by cases y <;> rfl
theorem mixV_nil (y : List FracD) : mixV [] y = 0 := by cases y <;> rfl
theorem mixG_add (g : Int → Rat) : ∀ (r : List RowD) (y : List FracD) (k : Nat) (w : RowD) (f : FracD), r[k]? = some w → y[k]? = some f → mixG g (r.take (k + 1)) (y.take (k + 1)) = mixG g (r.take k) (y.take k) + qOf f * dotS g w.t
 | [], _, _, _, _, h, _ => by simp at h
 | _ :: _, [], _, _, _, _, h => by simp at h
 | u :: r, e :: y, 0, w, f, h1, h2 => by
   simp at h1 h2; subst h1; subst h2
   simp only [List.take_succ_cons, List.take_zero, mixG]; grind
 | u :: r, e :: y, k + 1, w, f, h1, h2 => by
   have := mixG_add g r y k w f (by simpa using h1) (by simpa using h2)
   simp only [List.take_succ_cons, mixG] at this ⊢
   rw [this]; grind
theorem mixV_add : ∀ (r : List RowD) (y : List FracD) (k : Nat) (w : RowD) (f : FracD), r[k]? = some w → y[k]? = some f → mixV (r.take (k + 1)) (y.take (k + 1)) = mixV (r.take k) (y.take k) + qOf f * qOf w.v
 | [], _, _, _, _, h, _ => by simp at h
 | _ :: _, [], _, _, _, _, h => by simp at h
 | u :: r, e :: y, 0, w, f, h1, h2 => by
   simp at h1 h2; subst h1; subst h2
   simp only [List.take_succ_cons, List.take_zero, mixV]; grind
 | u :: r, e :: y, k + 1, w, f, h1, h2 => by
   have := mixV_add r y k w f (by simpa using h1) (by simpa using h2)
   simp only [List.take_succ_cons, mixV] at this ⊢
   rw [this]; grind
theorem mixG_sum {N : Nat} (g : Int → Rat) : ∀ (r : List RowD) (y : List FracD), (∀ w ∈ r, ∀ t ∈ w.t, 0 ≤ t.v ∧ t.v < N) → mixG g r y = sumN N (fun v => mixG (indI v) r y * g v)
 | [], y, _ => by simp only [mixG_nil]; rw [show (fun v : Nat => (0 : Rat) * g v) = fun _ => 0 by funext v; grind, sumN_zero]
 | w :: r, [], _ => by
   simp only [mixG]; rw [show (fun v : Nat => (0 : Rat) * g v) = fun _ => 0 by funext v; grind, sumN_zero]
 | w :: r, f :: y, h => by
   have ih := mixG_sum g r y (fun u hu => h u (List.mem_cons_of_mem _ hu))
   have e : (fun v : Nat => mixG (indI v) (w :: r) (f :: y) * g v) = fun v => qOf f * (coefT w.t v * g v) + mixG (indI v) r y * g v := by
    funext v; simp only [mixG, coefT]; grind
   rw [e, sumN_add, sumN_mul, ← dot_sum g w.t (h w List.mem_cons_self), ← ih]
   simp only [mixG]
def termsOf (n : Nat) (c : Nat → Rat) : List TermD := (List.range n).filterMap fun (v : Nat) => if c v = 0 then none else some ⟨(v : Int), ofQ (c v)⟩
theorem termsOf_succ (n : Nat) (c : Nat → Rat) : termsOf (n + 1) c = termsOf n c ++ (if c n = 0 then [] else [⟨(n : Int), ofQ (c n)⟩]) := by
 unfold termsOf
 rw [List.range_succ, List.filterMap_append]
 by_cases h : c n = 0 <;> simp [h]
theorem termsOf_lt {c : Nat → Rat} : ∀ (n : Nat), ∀ t ∈ termsOf n c, 0 ≤ t.v ∧ t.v < n
 | 0, t, h => by simp [termsOf] at h
 | n + 1, t, h => by
   rw [termsOf_succ, List.mem_append] at h
   rcases h with h | h
   · have := termsOf_lt n t h; omega
   · split at h
     · cases h
     · rw [List.mem_singleton] at h; subst h; dsimp only; omega
theorem goR_snoc {n : Int} {t : TermD} (h2 : t.v < n) (h3 : sgnD t.f ≠ 0) : ∀ (l : List TermD) (last : Int), goR n last l = true → last < t.v → (∀ u ∈ l, u.v < t.v) → goR n last (l ++ [t]) = true
 | [], last, _, h, _ => goR_cons.2 ⟨h, h2, h3, rfl⟩
 | u :: l, last, k, _, hu => by
   have k' := goR_cons.1 k
   exact goR_cons.2 ⟨k'.1, k'.2.1, k'.2.2.1, goR_snoc h2 h3 l u.v k'.2.2.2 (hu u List.mem_cons_self) (fun w hw => hu w (List.mem_cons_of_mem _ hw))⟩
theorem termsOf_goR {c : Nat → Rat} {m : Int} : ∀ (n : Nat), (n : Int) ≤ m → goR m (-1) (termsOf n c) = true
 | 0, _ => rfl
 | n + 1, h => by
   rw [termsOf_succ]
   have ih := termsOf_goR (c := c) (m := m) n (by omega)
   split
   · rw [List.append_nil]; exact ih
   · rename_i hc
     exact goR_snoc (by dsimp only; omega) (sgnD_ofQ_ne hc) _ _ ih (by dsimp only; omega) (fun u hu => by have := termsOf_lt n u hu; dsimp only; omega)
theorem termsOf_right {c : Nat → Rat} {n : Nat} {m : Int} (h : (n : Int) ≤ m) : rightT (termsOf n c) m = true := by
 simp only [rightT, Bool.and_eq_true, decide_eq_true_eq]
 exact ⟨by omega, termsOf_goR n h⟩
theorem termsOf_dot (g : Int → Rat) (c : Nat → Rat) : ∀ n : Nat, dotS g (termsOf n c) = sumN n (fun v => c v * g v)
 | 0 => rfl
 | n + 1 => by
   rw [termsOf_succ, dotS_append, termsOf_dot g c n]
   simp only [sumN]
   split
   · rename_i h; rw [h]; simp only [dotS]; grind
   · simp only [dotS, qOf_ofQ]; grind
theorem termsOf_coef (c : Nat → Rat) (n v : Nat) : coefT (termsOf n c) v = if v < n then c v else 0 := by
 unfold coefT
 rw [termsOf_dot]
 have e : (fun u : Nat => c u * indI v u) = fun u => if u = v then c v else 0 := by
  funext u
  simp only [indI]
  by_cases h : u = v
  · subst h; rw [if_pos rfl, if_pos rfl]; grind
  · rw [if_neg (by omega), if_neg h]; grind
 rw [e, sumN_one]
theorem termsOf_len (c : Nat → Rat) (n : Nat) : (termsOf n c).length ≤ n := by
 unfold termsOf
 have := List.length_filterMap_le (fun v : Nat => if c v = 0 then none else some (⟨(v : Int), ofQ (c v)⟩ : TermD)) (List.range n)
 rwa [List.length_range] at this
theorem right_terms {l : List TermD} {n : Nat} (h : rightT l n = true) : l = termsOf n (coefT l) :=
 rightT_ext h (termsOf_right (Int.le_refl _)) fun g => by rw [termsOf_dot, dot_sum g l (rightT_in h)]
theorem coef_out {l : List TermD} {n : Nat} (h : rightT l n = true) {v : Nat} (hv : n ≤ v) : coefT l v = 0 := by
 rw [right_terms h, termsOf_coef, if_neg (by omega)]
def BelowT (a b : List TermD) : Prop := ∀ v : Int, dotS (indI v) a ≤ dotS (indI v) b
theorem dot_out {n last v : Int} {l : List TermD} (h : goR n last l = true) (hv : v ≤ last) : dotS (indI v) l = 0 := dot_above l last hv h
def belowN (n : Nat) (a b : List TermD) : Bool := (List.range n).all fun v => decide (coefT a v ≤ coefT b v)
theorem belowN_iff {n : Nat} {a b : List TermD} (ha : rightT a n = true) (hb : rightT b n = true) : belowN n a b = true ↔ BelowT a b := by
 unfold belowN
 simp only [List.all_eq_true, List.mem_range, decide_eq_true_eq]
 constructor
 · intro h v
   by_cases h0 : 0 ≤ v
   · have e : ((v.toNat : Nat) : Int) = v := by omega
     by_cases h1 : v.toNat < n
     · have := h v.toNat h1; unfold coefT at this; rw [e] at this; exact this
     · have c1 := coef_out ha (v := v.toNat) (by omega)
       have c2 := coef_out hb (v := v.toNat) (by omega)
       unfold coefT at c1 c2
       rw [e] at c1 c2
       rw [c1, c2]; exact Rat.le_refl
   · simp only [rightT, Bool.and_eq_true] at ha hb
     rw [dot_out ha.2 (by omega), dot_out hb.2 (by omega)]; exact Rat.le_refl
 · intro h v _; exact h v
structure OptD where
 k : Int
 v : FracD
 x : List FracD
 y : List FracD
 d : List FracD
abbrev cO (o : OptD) : List D := [dI o.k, dI o.v.p.s, encInts o.v.p.d, dI o.v.q.s, encInts o.v.q.d, encFs o.x, encFs o.y, encFs o.d]
abbrev encO (o : OptD) : D := .agg (cO o)
def mulOk (s : SysD) (y : List FracD) : Bool := rightS s && decide ((y.length : Int) = s.r.length) && okP y
def signOk (w : RowD) (f : FracD) : Bool := !(w.k == 0 && decide (sgnD f < 0)) && !(w.k == 1 && decide (sgnD f > 0))
def signedD (s : SysD) (y : List FracD) : Bool := mulOk s y && (s.r.zip y).all (fun p => signOk p.1 p.2)
def mixT (s : SysD) (y : List FracD) : List TermD := termsOf s.n.toNat (fun v => mixG (indI v) s.r y)
def lowerD (s : SysD) (goal : List TermD) (y : List FracD) : FracD × Bool :=
 if signedD s y && rightT goal s.n && belowN s.n.toNat (mixT s y) goal then (ofQ (mixV s.r y), true) else (zF, false)
def refutesD (s : SysD) (y : List FracD) : Bool := (lowerD s [] y).2 && decide (sgnD (lowerD s [] y).1 > 0)
def rayD (s : SysD) (goal : List TermD) (d : List FracD) : Bool :=
 rightS s && rightT goal s.n && decide ((d.length : Int) = s.n) && okP d && nonneg d && s.r.all (fun w => fitsK w.k (sgQ (dotD w.t d))) && decide (sgQ (dotD goal d) < 0)
def checkD (s : SysD) (goal : List TermD) (o : OptD) : Bool := rightS s && rightT goal s.n &&
 (if o.k = 0 then (lowerD s goal o.y).2 && holdsS s o.x && sameF (valueD goal o.x).1 o.v && sameF (lowerD s goal o.y).1 o.v && o.d.isEmpty
  else if o.k = 1 then refutesD s o.y && o.x.isEmpty && o.d.isEmpty && sameF o.v zF
  else if o.k = 2 then holdsS s o.x && rayD s goal o.d && o.y.isEmpty && sameF o.v zF
  else false)
theorem mulOk_iff {s : SysD} {y : List FracD} : mulOk s y = true ↔ rightS s = true ∧ y.length = s.r.length ∧ okP y = true := by
 simp only [mulOk, Bool.and_eq_true, decide_eq_true_eq, and_assoc]
 constructor
 · rintro ⟨a, b, c⟩; exact ⟨a, by omega, c⟩
 · rintro ⟨a, b, c⟩; exact ⟨a, by omega, c⟩
theorem rightS_n {s : SysD} (h : rightS s = true) : 0 ≤ s.n ∧ s.n ≤ 1500 := by
 simp only [rightS, Bool.and_eq_true, decide_eq_true_eq] at h; exact ⟨h.1.1.1, h.1.1.2⟩
theorem rightS_row {s : SysD} (h : rightS s = true) {w : RowD} (hw : w ∈ s.r) : rightT w.t s.n.toNat = true ∧ 0 ≤ w.k ∧ w.k < 3 ∧ okF w.v = true := by
 have h1 := rightS_mem h hw
 have := (rightS_n h).1
 simp only [rightW, Bool.and_eq_true, decide_eq_true_eq] at h1
 rw [show ((s.n.toNat : Nat) : Int) = s.n by omega]
 exact ⟨h1.1.1.1, h1.1.1.2, h1.1.2, h1.2⟩
theorem right_toNat {l : List TermD} {n : Int} (h : rightT l n = true) : rightT l n.toNat = true := by
 have h0 : 0 ≤ n := by simp only [rightT, Bool.and_eq_true, decide_eq_true_eq] at h; exact h.1
 rwa [show ((n.toNat : Nat) : Int) = n by omega]
theorem lowerD_iff {s : SysD} {goal : List TermD} {y : List FracD} : (lowerD s goal y).2 = true ↔ signedD s y = true ∧ rightT goal s.n = true ∧ belowN s.n.toNat (mixT s y) goal = true := by
 unfold lowerD
 split
 · rename_i h; simp only [Bool.and_eq_true] at h; simp [h.1.1, h.1.2, h.2]
 · rename_i h
   simp only [Bool.and_eq_true, not_and, Bool.not_eq_true] at h
   simp only [Bool.false_eq_true, false_iff]
   rintro ⟨a, b, c⟩
   rw [h ⟨a, b⟩] at c; cases c
theorem lowerD_val {s : SysD} {goal : List TermD} {y : List FracD} (h : (lowerD s goal y).2 = true) : (lowerD s goal y).1 = ofQ (mixV s.r y) := by
 unfold lowerD at h ⊢
 split
 · rfl
 · rename_i hn; rw [if_neg hn] at h; cases h
theorem mix_rows {s : SysD} (h : rightS s = true) : ∀ w ∈ s.r, ∀ t ∈ w.t, 0 ≤ t.v ∧ t.v < (s.n.toNat : Nat) := fun w hw t ht => rightT_in (rightS_row h hw).1 t ht
theorem mixT_dot {s : SysD} (h : rightS s = true) (y : List FracD) (g : Int → Rat) : dotS g (mixT s y) = mixG g s.r y := by
 unfold mixT
 rw [termsOf_dot, ← mixG_sum g s.r y (mix_rows h)]
theorem mixT_right {s : SysD} (h : rightS s = true) (y : List FracD) : rightT (mixT s y) s.n.toNat = true := termsOf_right (Int.le_refl _)
theorem at_nonneg {x : List FracD} (ho : okP x = true) (hn : nonneg x = true) (v : Int) : 0 ≤ atP x v := by
 unfold atP
 cases h : x[v.toNat]? with
 | none => simp only [Option.getD_none]; decide +kernel
 | some f =>
   simp only [Option.getD_some]
   have h1 := List.all_eq_true.1 ho f (mem_at h)
   have h2 := of_decide_eq_true (List.all_eq_true.1 hn f (mem_at h))
   exact (sgnD_nonneg h1).1 h2
theorem below_dot {n : Nat} {a b : List TermD} (ha : rightT a n = true) (hb : rightT b n = true) (h : BelowT a b) {g : Int → Rat} (hg : ∀ v, 0 ≤ g v) : dotS g a ≤ dotS g b := by
 rw [dot_sum g a (rightT_in ha), dot_sum g b (rightT_in hb)]
 refine sumN_le n fun v _ => ?_
 have h1 := h v
 have h2 := Rat.mul_nonneg (a := coefT b v - coefT a v) (by unfold coefT; grind) (hg v)
 grind
theorem signOk_le {w : RowD} {f : FracD} {d : Rat} (ho : okF f = true) (hs : signOk w f = true) (h0 : 0 ≤ w.k) (h3 : w.k < 3) (hd : fitsK w.k (sgQ d) = true) : 0 ≤ qOf f * d := by
 rw [fitsK_iff h0 h3] at hd
 have e : sgnD f = sgQ (qOf f) := by simp [sgnD, ho]
 simp only [signOk, Bool.and_eq_true, Bool.not_eq_true', Bool.and_eq_false_iff, beq_eq_false_iff_ne, decide_eq_false_iff_not, e] at hs
 have hk : w.k = 0 ∨ w.k = 1 ∨ w.k = 2 := by omega
 rcases hk with hk | hk | hk
 · have h1 : ¬ sgQ (qOf f) < 0 := hs.1.resolve_left (fun h => h hk)
   rw [sgQ_lt] at h1
   exact Rat.mul_nonneg (by grind) (hd.1 hk)
 · have h1 : ¬ sgQ (qOf f) > 0 := hs.2.resolve_left (fun h => h hk)
   rw [gt_iff_lt, sgQ_gt] at h1
   have := Rat.mul_nonneg (a := -qOf f) (b := -d) (by grind) (by have := hd.2.1 hk; grind)
   grind
 · rw [hd.2.2 hk]; grind
theorem mix_le (x : List FracD) : ∀ (r : List RowD) (y : List FracD), okP y = true → (∀ w ∈ r, 0 ≤ w.k ∧ w.k < 3) → (r.zip y).all (fun p => signOk p.1 p.2) = true → r.all (fun w => holdsW w x) = true → mixV r y ≤ mixG (atP x) r y
 | [], y, _, _, _, _ => by rw [mixG_nil, mixV_nil]; exact Rat.le_refl
 | _ :: _, [], _, _, _, _ => by simp only [mixG, mixV]; exact Rat.le_refl
 | w :: r, f :: y, ho, hk, hs, hh => by
   simp only [okP, List.all_cons, Bool.and_eq_true] at ho
   simp only [List.zip_cons_cons, List.all_cons, Bool.and_eq_true] at hs hh
   have ih := mix_le x r y ho.2 (fun u hu => hk u (List.mem_cons_of_mem _ hu)) hs.2 hh.2
   have h1 := signOk_le ho.1 hs.1 (hk w List.mem_cons_self).1 (hk w List.mem_cons_self).2 hh.1
   rw [dotD_eq] at h1
   simp only [mixG, mixV]
   grind
theorem bounds {s : SysD} {goal : List TermD} {y x : List FracD} (hl : (lowerD s goal y).2 = true) (hx : holdsS s x = true) : mixV s.r y ≤ dotD goal x := by
 obtain ⟨h1, h2, h3⟩ := lowerD_iff.1 hl
 simp only [signedD, Bool.and_eq_true] at h1
 obtain ⟨hr, hlen, ho⟩ := mulOk_iff.1 h1.1
 simp only [holdsS, Bool.and_eq_true, decide_eq_true_eq] at hx
 have a := mix_le x s.r y ho (fun w hw => ⟨(rightS_row hr hw).2.1, (rightS_row hr hw).2.2.1⟩) h1.2 hx.2
 have hg := right_toNat h2
 have b := below_dot (mixT_right hr y) hg ((belowN_iff (mixT_right hr y) hg).1 h3) (fun v => at_nonneg hx.1.1.2 hx.1.2 v)
 rw [mixT_dot hr] at b
 rw [dotD_eq]
 grind
theorem refutes_no {s : SysD} {y x : List FracD} (h : refutesD s y = true) : holdsS s x = false := by
 cases hx : holdsS s x
 · rfl
 · simp only [refutesD, Bool.and_eq_true, decide_eq_true_eq] at h
   have h1 := bounds h.1 hx
   rw [lowerD_val h.1, sgnD_ofQ, gt_iff_lt, sgQ_gt] at h
   have : dotD [] x = 0 := rfl
   grind
def onD (k : Rat) (x d : List FracD) : List FracD := List.zipWith (fun a b => ofQ (qOf a + qOf b * k)) x d
theorem at_on {k : Rat} {x d : List FracD} (hl : x.length = d.length) (v : Int) : atP (onD k x d) v = 1 * atP x v + k * atP d v := by
 unfold atP onD
 rw [List.getElem?_zipWith]
 cases hx : x[v.toNat]? with
 | none =>
   have : d[v.toNat]? = none := List.getElem?_eq_none (by have := List.getElem?_eq_none_iff.1 hx; omega)
   rw [this]
   have : qOf zF = 0 := by decide +kernel
   simp only [Option.getD_none, this]; grind
 | some f =>
   have hlt := (List.getElem?_eq_some_iff.1 hx).1
   rw [List.getElem?_eq_getElem (by omega : v.toNat < d.length)]
   simp only [Option.getD_some, qOf_ofQ]; grind
theorem dot_on {k : Rat} {x d : List FracD} (hl : x.length = d.length) (l : List TermD) : dotD l (onD k x d) = dotD l x + k * dotD l d := by
 rw [dotD_eq, dotD_eq, dotD_eq, show atP (onD k x d) = fun v => 1 * atP x v + k * atP d v from funext (at_on hl), dotS_lin]
 grind
theorem on_mem {k : Rat} {x d : List FracD} {f : FracD} (h : f ∈ onD k x d) : ∃ a b, a ∈ x ∧ b ∈ d ∧ f = ofQ (qOf a + qOf b * k) := by
 obtain ⟨i, hi⟩ := List.getElem?_of_mem h
 unfold onD at hi
 rw [List.getElem?_zipWith] at hi
 split at hi
 · rename_i a b ha hb; cases hi; exact ⟨a, b, mem_at ha, mem_at hb, rfl⟩
 · cases hi
theorem rayD_iff {s : SysD} {goal : List TermD} {d : List FracD} : rayD s goal d = true ↔ rightS s = true ∧ rightT goal s.n = true ∧ (d.length : Int) = s.n ∧ okP d = true ∧ nonneg d = true ∧ s.r.all (fun w => fitsK w.k (sgQ (dotD w.t d))) = true ∧ sgQ (dotD goal d) < 0 := by
 simp only [rayD, Bool.and_eq_true, decide_eq_true_eq, and_assoc]
theorem holdsS_iff {s : SysD} {x : List FracD} : holdsS s x = true ↔ rightS s = true ∧ (x.length : Int) = s.n ∧ okP x = true ∧ nonneg x = true ∧ s.r.all (fun w => holdsW w x) = true := by
 simp only [holdsS, Bool.and_eq_true, decide_eq_true_eq, and_assoc]
theorem holds_on {s : SysD} {goal : List TermD} {x d : List FracD} {k : Rat} (hx : holdsS s x = true) (hd : rayD s goal d = true) (hk : 0 ≤ k) : holdsS s (onD k x d) = true := by
 obtain ⟨hr, ln, ox, nx, rx⟩ := holdsS_iff.1 hx
 obtain ⟨_, _, ld, od, nd, rd, _⟩ := rayD_iff.1 hd
 have hl : x.length = d.length := by omega
 refine holdsS_iff.2 ⟨hr, by unfold onD; rw [List.length_zipWith]; omega, ?_, ?_, ?_⟩
 · refine List.all_eq_true.2 fun f hf => ?_
   obtain ⟨a, b, _, _, rfl⟩ := on_mem hf
   exact okF_ofQ _
 · refine List.all_eq_true.2 fun f hf => ?_
   obtain ⟨a, b, ha, hb, rfl⟩ := on_mem hf
   have na := (sgnD_nonneg (List.all_eq_true.1 ox a ha)).1 (of_decide_eq_true (List.all_eq_true.1 nx a ha))
   have nb := (sgnD_nonneg (List.all_eq_true.1 od b hb)).1 (of_decide_eq_true (List.all_eq_true.1 nd b hb))
   refine decide_eq_true ((sgnD_nonneg (okF_ofQ _)).2 ?_)
   rw [qOf_ofQ]
   have := Rat.mul_nonneg nb hk
   grind
 · refine List.all_eq_true.2 fun w hw => ?_
   have h3 := rightS_row hr hw
   have a := List.all_eq_true.1 rx w hw
   have b := List.all_eq_true.1 rd w hw
   unfold holdsW at a ⊢
   rw [fitsK_iff h3.2.1 h3.2.2.1] at a b ⊢
   rw [dot_on hl]
   refine ⟨fun h => ?_, fun h => ?_, fun h => ?_⟩
   · have := Rat.mul_nonneg hk (b.1 h); have := a.1 h; grind
   · have := Rat.mul_nonneg hk (by have := b.2.1 h; grind : 0 ≤ -dotD w.t d); have := a.2.1 h; grind
   · have h1 := a.2.2 h; have h2 := b.2.2 h; rw [h2]; grind
theorem ray_no {s : SysD} {goal : List TermD} {x d y : List FracD} (hx : holdsS s x = true) (hd : rayD s goal d = true) : (lowerD s goal y).2 = false := by
 cases hl : (lowerD s goal y).2
 · rfl
 · exfalso
   have hneg := (rayD_iff.1 hd).2.2.2.2.2.2
   rw [sgQ_lt] at hneg
   have h0 := bounds hl hx
   obtain ⟨_, ln, _, _, _⟩ := holdsS_iff.1 hx
   obtain ⟨_, _, ld, _⟩ := rayD_iff.1 hd
   have hp : 0 < -dotD goal d := by grind
   have hk : 0 ≤ (dotD goal x - mixV s.r y + 1) / (-dotD goal d) := by
    rw [Rat.div_def]
    exact Rat.mul_nonneg (by grind) (Rat.le_of_lt (Rat.inv_pos.2 hp))
   have h1 := bounds hl (holds_on hx hd hk)
   rw [dot_on (by omega)] at h1
   have h2 : (dotD goal x - mixV s.r y + 1) / (-dotD goal d) * dotD goal d = -(dotD goal x - mixV s.r y + 1) := by
    rw [Rat.div_def]
    have : (-dotD goal d) * (-dotD goal d)⁻¹ = 1 := Rat.mul_inv_cancel _ (by grind)
    grind
   rw [h2] at h1
   grind
theorem isEmpty_nil {α : Type} {l : List α} (h : l.isEmpty = true) : l = [] := List.isEmpty_iff.1 h
theorem check_cases {s : SysD} {goal : List TermD} {o : OptD} (h : checkD s goal o = true) :
    (o.k = 0 ∧ (lowerD s goal o.y).2 = true ∧ holdsS s o.x = true ∧ o.v = ofQ (dotD goal o.x) ∧ dotD goal o.x = mixV s.r o.y ∧ o.d = []) ∨
    (o.k = 1 ∧ refutesD s o.y = true ∧ o.x = [] ∧ o.d = [] ∧ o.v = zF) ∨ (o.k = 2 ∧ holdsS s o.x = true ∧ rayD s goal o.d = true ∧ o.y = [] ∧ o.v = zF) := by
 simp only [checkD, Bool.and_eq_true] at h
 obtain ⟨⟨hr, hg⟩, h⟩ := h
 split at h
 · rename_i hk
   simp only [Bool.and_eq_true, sameF_iff] at h
   obtain ⟨⟨⟨⟨h1, h2⟩, h3⟩, h4⟩, h5⟩ := h
   have hx := holdsS_iff.1 h2
   have hv : valueD goal o.x = (ofQ (dotD goal o.x), true) := valueD_yes (by rw [hx.2.1, hg, hx.2.2.1]; rfl)
   rw [hv] at h3
   rw [lowerD_val h1] at h4
   exact .inl ⟨hk, h1, h2, h3.symm, ofQ_inj (h3.trans h4.symm), isEmpty_nil h5⟩
 · split at h
   · rename_i hk
     simp only [Bool.and_eq_true, sameF_iff] at h
     exact .inr (.inl ⟨hk, h.1.1.1, isEmpty_nil h.1.1.2, isEmpty_nil h.1.2, h.2⟩)
   · split at h
     · rename_i hk
       simp only [Bool.and_eq_true, sameF_iff] at h
       exact .inr (.inr ⟨hk, h.1.1.1, h.1.1.2, isEmpty_nil h.1.2, h.2⟩)
     · cases h
theorem agrees {s : SysD} {goal : List TermD} {a b : OptD} (ha : checkD s goal a = true) (hb : checkD s goal b = true) : a.k = b.k ∧ a.v = b.v := by
 rcases check_cases ha with ⟨a0, a1, a2, a3, a4, a5⟩ | ⟨a0, a1, a2, a3, a4⟩ | ⟨a0, a1, a2, a3, a4⟩ <;> rcases check_cases hb with ⟨b0, b1, b2, b3, b4, b5⟩ | ⟨b0, b1, b2, b3, b4⟩ | ⟨b0, b1, b2, b3, b4⟩
 · refine ⟨by rw [a0, b0], ?_⟩
   have h1 := bounds a1 b2
   have h2 := bounds b1 a2
   rw [a3, b3]
   have : dotD goal a.x = dotD goal b.x := by grind
   rw [this]
 · rw [refutes_no b1] at a2; cases a2
 · have h := ray_no (y := a.y) b1 b2; rw [h] at a1; cases a1
 · rw [refutes_no a1] at b2; cases b2
 · exact ⟨by rw [a0, b0], by rw [a4, b4]⟩
 · rw [refutes_no a1] at b1; cases b1
 · have h := ray_no (y := b.y) a1 a2; rw [h] at b1; cases b1
 · rw [refutes_no b1] at a1; cases a1
 · exact ⟨by rw [a0, b0], by rw [a4, b4]⟩
theorem signOk_iff {w : RowD} {f : FracD} (ho : okF f = true) : signOk w f = true ↔ (w.k = 0 → 0 ≤ qOf f) ∧ (w.k = 1 → qOf f ≤ 0) := by
 have e : sgnD f = sgQ (qOf f) := by simp [sgnD, ho]
 simp only [signOk, Bool.and_eq_true, Bool.not_eq_true', Bool.and_eq_false_iff, beq_eq_false_iff_ne, decide_eq_false_iff_not, e, gt_iff_lt, sgQ_lt, sgQ_gt]
 constructor
 · rintro ⟨h1, h2⟩
   exact ⟨fun h => by have := h1.resolve_left (fun n => n h); grind, fun h => by have := h2.resolve_left (fun n => n h); grind⟩
 · rintro ⟨h1, h2⟩
   refine ⟨?_, ?_⟩
   · by_cases h : w.k = 0
     · exact .inr (by have := h1 h; grind)
     · exact .inl h
   · by_cases h : w.k = 1
     · exact .inr (by have := h2 h; grind)
     · exact .inl h
theorem lower_iff {s : SysD} {goal : List TermD} {y : List FracD} : (lowerD s goal y).2 = true ↔ rightS s = true ∧ y.length = s.r.length ∧ okP y = true ∧ (s.r.zip y).all (fun p => signOk p.1 p.2) = true ∧ rightT goal s.n = true ∧ ∀ v : Int, mixG (indI v) s.r y ≤ dotS (indI v) goal := by
 rw [lowerD_iff]
 simp only [signedD, Bool.and_eq_true, mulOk_iff]
 constructor
 · rintro ⟨⟨⟨a, b, c⟩, d⟩, e, f⟩
   refine ⟨a, b, c, d, e, fun v => ?_⟩
   have := (belowN_iff (mixT_right a y) (right_toNat e)).1 f v
   rwa [mixT_dot a] at this
 · rintro ⟨a, b, c, d, e, f⟩
   refine ⟨⟨⟨a, b, c⟩, d⟩, e, (belowN_iff (mixT_right a y) (right_toNat e)).2 fun v => ?_⟩
   rw [mixT_dot a]; exact f v
end Go.Proofs.YtpkdhmnlpnijhaaGreat
