/-
  The dual system of a right one (plain): solutions of the one are multipliers of the other.
-/
import Derived.Test.YtkddoopknapemaaGreatPSzA
namespace Go.Proofs.YtkddoopknapemaaGreat
set_option linter.unusedVariables false
set_option linter.unusedSimpArgs false
set_option linter.unusedSectionVars false
open Go Go.RowKit
set_option maxRecDepth 100000
def rdF (s : SysD) (f : RowD → Rat) (i : Nat) : Rat := match s.r[i]? with
 | some w => f w
 | none => 0
def dupC (s : SysD) (f : RowD → Rat) (j : Nat) : Rat := match s.r[j / 2]? with
 | some w => if j % 2 = 0 then (if w.k = 1 then 0 else f w) else (if w.k = 0 then 0 else -(f w))
 | none => 0
def yK (s : SysD) (g : Nat → Rat) (i : Nat) : Rat := match s.r[i]? with
 | some w => (if w.k = 1 then 0 else g (2 * i)) - (if w.k = 0 then 0 else g (2 * i + 1))
 | none => 0
def zK (y : Nat → Rat) (j : Nat) : Rat := if j % 2 = 0 then (if 0 ≤ y (j / 2) then y (j / 2) else 0) else (if 0 ≤ y (j / 2) then 0 else -(y (j / 2)))
theorem sumN_two (h : Nat → Rat) : ∀ m, sumN (2 * m) h = sumN m fun i => h (2 * i) + h (2 * i + 1)
 | 0 => rfl
 | m + 1 => by
   rw [show 2 * (m + 1) = 2 * m + 1 + 1 by omega]
   simp only [sumN, sumN_two h m]; grind
theorem dup_even (s : SysD) (f : RowD → Rat) {i : Nat} {w : RowD} (hw : s.r[i]? = some w) : dupC s f (2 * i) = if w.k = 1 then 0 else f w := by
 unfold dupC
 rw [show 2 * i / 2 = i by omega, hw, show 2 * i % 2 = 0 by omega]
 simp only [if_true]
theorem dup_odd (s : SysD) (f : RowD → Rat) {i : Nat} {w : RowD} (hw : s.r[i]? = some w) : dupC s f (2 * i + 1) = if w.k = 0 then 0 else -(f w) := by
 unfold dupC
 rw [show (2 * i + 1) / 2 = i by omega, hw, show (2 * i + 1) % 2 = 1 by omega]
 simp only [Nat.one_ne_zero, if_false]
theorem dup_sum (s : SysD) (f : RowD → Rat) (g : Nat → Rat) : sumN (2 * s.r.length) (fun j => dupC s f j * g j) = sumN s.r.length fun i => yK s g i * rdF s f i := by
 rw [sumN_two]
 refine sumN_congr _ fun i hi => ?_
 obtain ⟨w, hw⟩ : ∃ e, s.r[i]? = some e := ⟨_, List.getElem?_eq_getElem hi⟩
 rw [dup_even s f hw, dup_odd s f hw]
 simp only [yK, rdF, hw]
 by_cases h1 : w.k = 1
 · by_cases h0 : w.k = 0
   · omega
   · rw [if_pos h1, if_pos h1, if_neg h0, if_neg h0]; grind
 · by_cases h0 : w.k = 0
   · rw [if_neg h1, if_neg h1, if_pos h0, if_pos h0]; grind
   · rw [if_neg h1, if_neg h1, if_neg h0, if_neg h0]; grind
theorem zK_nonneg (y : Nat → Rat) (j : Nat) : 0 ≤ zK y j := by
 unfold zK
 split <;> split <;> grind
theorem yK_zK {s : SysD} {y : Nat → Rat} (h : Signs s y) {i : Nat} (hi : i < s.r.length) : yK s (zK y) i = y i := by
 obtain ⟨w, hw⟩ : ∃ e, s.r[i]? = some e := ⟨_, List.getElem?_eq_getElem hi⟩
 have hs := h i w hw
 simp only [yK, hw, zK, show 2 * i / 2 = i by omega, show (2 * i + 1) / 2 = i by omega, show 2 * i % 2 = 0 by omega, show (2 * i + 1) % 2 = 1 by omega, if_true, Nat.one_ne_zero, if_false]
 by_cases h1 : w.k = 1
 · have := hs.2 h1
   rw [if_pos h1, if_neg (show ¬ w.k = 0 by omega)]
   split <;> grind
 · by_cases h0 : w.k = 0
   · have := hs.1 h0
     rw [if_neg h1, if_pos h0, if_pos this]; grind
   · rw [if_neg h1, if_neg h0]
     split <;> grind
theorem yK_signs {s : SysD} {g : Nat → Rat} (h : ∀ j, j < 2 * s.r.length → 0 ≤ g j) : Signs s (yK s g) := by
 intro i w hw
 have hi := (List.getElem?_eq_some_iff.1 hw).1
 have a := h (2 * i) (by omega)
 have b := h (2 * i + 1) (by omega)
 simp only [yK, hw]
 refine ⟨fun e => ?_, fun e => ?_⟩
 · rw [if_neg (show ¬ w.k = 1 by omega), if_pos e]; grind
 · rw [if_pos e, if_neg (show ¬ w.k = 0 by omega)]; grind
def turnT (s : SysD) (v : Nat) : List TermD := termsOf (2 * s.r.length) (dupC s fun w => coefT w.t v)
def turnW (s : SysD) (goal : List TermD) (v : Nat) : RowD := ⟨turnT s v, 1, ofQ (coefT goal v)⟩
def turnedD (s : SysD) (goal : List TermD) : SysD := ⟨2 * s.r.length, (List.range s.n.toNat).map (turnW s goal)⟩
def priceD (s : SysD) : List TermD := termsOf (2 * s.r.length) (dupC s fun w => -(qOf w.v))
section
variable {s : SysD} {goal : List TermD}
theorem turned_len : (turnedD s goal).r.length = s.n.toNat := by simp [turnedD]
theorem turned_n : (turnedD s goal).n.toNat = 2 * s.r.length := by simp only [turnedD]; omega
theorem turned_get {v : Nat} (hv : v < s.n.toNat) : (turnedD s goal).r[v]? = some (turnW s goal v) := by
 unfold turnedD; rw [List.getElem?_map, List.getElem?_range hv]; rfl
theorem turned_right (hs : rightS s = true) (hl : s.r.length ≤ 700) : rightS (turnedD s goal) = true := by
 have hn := rightS_n hs
 simp only [rightS, Bool.and_eq_true, decide_eq_true_eq]
 refine ⟨⟨⟨by simp only [turnedD]; omega, by simp only [turnedD]; omega⟩, by rw [turned_len]; omega⟩, List.all_eq_true.2 fun w hw => ?_⟩
 obtain ⟨v, _, rfl⟩ := List.mem_map.1 hw
 simp only [rightW, turnW, Bool.and_eq_true, decide_eq_true_eq]
 exact ⟨⟨⟨termsOf_right (by simp only [turnedD]; omega), decide_eq_true (show (0 : Int) ≤ 1 by decide)⟩, decide_eq_true (show (1 : Int) < 3 by decide)⟩, okF_ofQ _⟩
theorem price_right : rightT (priceD s) (turnedD s goal).n = true := termsOf_right (by simp only [turnedD]; omega)
theorem list_fracs {x : List FracD} (ho : okP x = true) : x = fracsOf x.length fun u => atP x u := by
 refine List.ext_getElem (by rw [fracs_len]) fun i h1 h2 => ?_
 have e := fracs_get (fun u => atP x u) h1
 rw [List.getElem?_eq_getElem h2] at e
 have e2 : atP x (i : Nat) = qOf x[i] := by unfold atP; rw [Int.toNat_natCast, List.getElem?_eq_getElem h1]; rfl
 rw [Option.some.inj e, e2]
 exact okF_eq (List.all_eq_true.1 ho _ (List.getElem_mem h1))
theorem low_iff (hs : rightS s = true) (hg : rightT goal s.n = true) {Y : Nat → Rat} (hy : Signs s Y) : (lowerD s goal (fracsOf s.r.length Y)).2 = true ↔ ∀ v, v < s.n.toNat → sumN s.r.length (fun i => Y i * rdG s (indI v) i) ≤ coefT goal v := by
 have h1 := signs_ok hs hy
 have hg' := right_toNat hg
 rw [lowerD_iff]
 constructor
 · rintro ⟨_, _, h⟩ v hv
   have := (belowN_iff (mixT_right hs _) hg').1 h v
   rw [mixT_dot hs, mix_fracs] at this
   exact this
 · intro h
   refine ⟨h1, hg, ?_⟩
   unfold belowN
   simp only [List.all_eq_true, List.mem_range, decide_eq_true_eq]
   intro v hv
   have := h v hv
   rw [← mix_fracs, ← mixT_dot hs] at this
   exact this
theorem signs_of {Y : Nat → Rat} (h : (lowerD s goal (fracsOf s.r.length Y)).2 = true) : Signs s Y := by
 obtain ⟨hr, _, _, h4, _, _⟩ := lower_iff.1 h
 intro i w hw
 have hi := (List.getElem?_eq_some_iff.1 hw).1
 have := List.all_eq_true.1 h4 (w, ofQ (Y i)) (List.mem_of_getElem? (i := i) (by rw [List.getElem?_zip_eq_some]; exact ⟨hw, fracs_get Y hi⟩))
 have := (signOk_iff (okF_ofQ _)).1 this
 rwa [qOf_ofQ] at this
theorem hold_iff (hs : rightS s = true) {X : Nat → Rat} (h0 : ∀ v, v < s.n.toNat → 0 ≤ X v) : holdsS s (fracsOf s.n.toNat X) = true ↔ ∀ (i : Nat) (w : RowD), s.r[i]? = some w → fitsK w.k (sgQ (sumN s.n.toNat (fun v => coefT w.t v * X v) - qOf w.v)) = true := by
 have hn := rightS_n hs
 have hd : ∀ w ∈ s.r, dotD w.t (fracsOf s.n.toNat X) = sumN s.n.toNat fun v => coefT w.t v * X v := fun w hw => dot_fracs (rightS_row hs hw).1 X
 rw [holdsS_iff]
 constructor
 · rintro ⟨_, _, _, _, h⟩ i w hw
   have := List.all_eq_true.1 h w (List.mem_of_getElem? hw)
   unfold holdsW at this
   rwa [hd w (List.mem_of_getElem? hw)] at this
 · intro h
   refine ⟨hs, by rw [fracs_len]; omega, fracs_ok _ _, fracs_nonneg h0, List.all_eq_true.2 fun w hw => ?_⟩
   obtain ⟨i, hi⟩ := List.getElem?_of_mem hw
   unfold holdsW
   rw [hd w hw]; exact h i w hi
theorem nonneg_of {n : Nat} {X : Nat → Rat} (h : nonneg (fracsOf n X) = true) {v : Nat} (hv : v < n) : 0 ≤ X v := by
 have := List.all_eq_true.1 h (ofQ (X v)) (List.mem_of_getElem? (fracs_get X hv))
 have := (sgnD_nonneg (okF_ofQ _)).1 (of_decide_eq_true this)
 rwa [qOf_ofQ] at this
theorem rdG_ind (v : Nat) (i : Nat) : rdG s (indI v) i = rdF s (fun w => coefT w.t v) i := by unfold rdG rdF coefT; rfl
theorem rdF_neg (f : RowD → Rat) (i : Nat) : rdF s (fun w => -(f w)) i = -(rdF s f i) := by unfold rdF; split <;> grind
theorem rdV_eq (i : Nat) : rdV s i = rdF s (fun w => qOf w.v) i := by unfold rdV rdF; rfl
theorem turn_coef (v j : Nat) (hj : j < 2 * s.r.length) : coefT (turnT s v) j = dupC s (fun w => coefT w.t v) j := by
 unfold turnT; rw [termsOf_coef, if_pos hj]
theorem price_coef (j : Nat) (hj : j < 2 * s.r.length) : coefT (priceD s) j = dupC s (fun w => -(qOf w.v)) j := by
 unfold priceD; rw [termsOf_coef, if_pos hj]
theorem turn_sum (g : Nat → Rat) (v : Nat) : sumN (2 * s.r.length) (fun j => coefT (turnT s v) j * g j) = sumN s.r.length fun i => yK s g i * rdG s (indI v) i := by
 rw [sumN_congr _ (fun j hj => by rw [turn_coef v j hj]), dup_sum]
 exact sumN_congr _ fun i _ => by rw [rdG_ind]
theorem price_sum (g : Nat → Rat) : sumN (2 * s.r.length) (fun j => coefT (priceD s) j * g j) = -(sumN s.r.length fun i => yK s g i * rdV s i) := by
 rw [sumN_congr _ (fun j hj => by rw [price_coef j hj]), dup_sum, show (fun i => yK s g i * rdF s (fun w => -(qOf w.v)) i) = fun i => (-1) * (yK s g i * rdV s i) from funext fun i => by rw [rdF_neg, rdV_eq]; grind, sumN_mul]
 grind
theorem hold_turned (hs : rightS s = true) (hl : s.r.length ≤ 700) (hg : rightT goal s.n = true) {Z : Nat → Rat} (hz : ∀ j, j < 2 * s.r.length → 0 ≤ Z j) : holdsS (turnedD s goal) (fracsOf (2 * s.r.length) Z) = true ↔ (lowerD s goal (fracsOf s.r.length (yK s Z))).2 = true := by
 have h1 := hold_iff (turned_right (goal := goal) hs hl) (X := Z) (by rw [turned_n]; exact hz)
 rw [turned_n] at h1
 rw [h1, low_iff hs hg (yK_signs hz)]
 constructor
 · intro h v hv
   have := h v _ (turned_get hv)
   simp only [turnW] at this
   rw [fitsK_iff (show (0 : Int) ≤ 1 by decide) (show (1 : Int) < 3 by decide)] at this
   have := this.2.1 rfl
   rw [qOf_ofQ] at this
   rw [turn_sum] at this
   grind
 · intro h v w hw
   have hv : v < s.n.toNat := by have := (List.getElem?_eq_some_iff.1 hw).1; rwa [turned_len] at this
   rw [turned_get hv, Option.some.injEq] at hw
   subst hw
   have := h v hv
   simp only [turnW]
   rw [fitsK_iff (show (0 : Int) ≤ 1 by decide) (show (1 : Int) < 3 by decide)]
   refine ⟨fun e => absurd e (show ¬ (1 : Int) = 0 by decide), fun _ => ?_, fun e => absurd e (show ¬ (1 : Int) = 2 by decide)⟩
   rw [qOf_ofQ]
   rw [turn_sum]
   grind
theorem turned_rdG (g : Int → Rat) {v : Nat} (hv : v < s.n.toNat) : rdG (turnedD s goal) g v = dotS g (turnT s v) := by
 unfold rdG; rw [turned_get hv]; rfl
theorem low_turned (hs : rightS s = true) (hl : s.r.length ≤ 700) {X : Nat → Rat} (h0 : ∀ v, v < s.n.toNat → 0 ≤ X v) : (lowerD (turnedD s goal) (priceD s) (fracsOf s.n.toNat fun v => -(X v))).2 = true ↔ holdsS s (fracsOf s.n.toNat X) = true := by
 have hsg : Signs (turnedD s goal) fun v => -(X v) := by
  intro v w hw
  have hv : v < s.n.toNat := by have := (List.getElem?_eq_some_iff.1 hw).1; rwa [turned_len] at this
  rw [turned_get hv, Option.some.injEq] at hw
  subst hw
  have := h0 v hv
  exact ⟨fun e => absurd e (show ¬ (1 : Int) = 0 by decide), fun _ => by grind⟩
 have h1 := low_iff (turned_right (goal := goal) hs hl) price_right hsg
 rw [turned_len] at h1
 rw [h1, turned_n, hold_iff hs h0]
 have key : ∀ j, j < 2 * s.r.length → sumN s.n.toNat (fun v => -(X v) * rdG (turnedD s goal) (indI j) v) = dupC s (fun w => -(sumN s.n.toNat fun v => coefT w.t v * X v)) j := by
  intro j hj
  rw [sumN_congr (g := fun v => -1 * (dupC s (fun w => coefT w.t v) j * X v)) _ (fun v hv => by
   rw [turned_rdG _ hv]
   have := turn_coef (s := s) v j hj
   unfold coefT at this ⊢
   rw [this]; grind), sumN_mul]
  have hi : j / 2 < s.r.length := by omega
  obtain ⟨w, hw⟩ : ∃ e, s.r[j / 2]? = some e := ⟨_, List.getElem?_eq_getElem hi⟩
  have zero : sumN s.n.toNat (fun v => (0 : Rat) * X v) = 0 := by
   rw [show (fun v => (0 : Rat) * X v) = fun _ => 0 from funext fun v => by grind]; exact sumN_zero _
  have neg : sumN s.n.toNat (fun v => -(coefT w.t v) * X v) = -(sumN s.n.toNat fun v => coefT w.t v * X v) := by
   rw [show (fun v => -(coefT w.t v) * X v) = fun v => -1 * (coefT w.t v * X v) from funext fun v => by grind, sumN_mul]; grind
  unfold dupC
  rw [hw]
  simp only
  split
  · split
    · rw [zero]; grind
    · grind
  · split
    · rw [zero]; grind
    · rw [neg]; grind
 constructor
 · intro h i w hw
   have hi := (List.getElem?_eq_some_iff.1 hw).1
   have h3 := rightS_row hs (List.mem_of_getElem? hw)
   have a := h (2 * i) (by omega)
   have b := h (2 * i + 1) (by omega)
   rw [key _ (by omega), price_coef _ (by omega), dup_even _ _ hw, dup_even _ _ hw] at a
   rw [key _ (by omega), price_coef _ (by omega), dup_odd _ _ hw, dup_odd _ _ hw] at b
   rw [fitsK_iff h3.2.1 h3.2.2.1]
   refine ⟨fun e => ?_, fun e => ?_, fun e => ?_⟩
   · rw [if_neg (show ¬ w.k = 1 by omega), if_neg (show ¬ w.k = 1 by omega)] at a; grind
   · rw [if_neg (show ¬ w.k = 0 by omega), if_neg (show ¬ w.k = 0 by omega)] at b; grind
   · rw [if_neg (show ¬ w.k = 1 by omega), if_neg (show ¬ w.k = 1 by omega)] at a
     rw [if_neg (show ¬ w.k = 0 by omega), if_neg (show ¬ w.k = 0 by omega)] at b
     grind
 · intro h j hj
   rw [key j hj, price_coef j hj]
   have hi : j / 2 < s.r.length := by omega
   obtain ⟨w, hw⟩ : ∃ e, s.r[j / 2]? = some e := ⟨_, List.getElem?_eq_getElem hi⟩
   have h3 := rightS_row hs (List.mem_of_getElem? hw)
   have := h _ w hw
   rw [fitsK_iff h3.2.1 h3.2.2.1] at this
   have hk : w.k = 0 ∨ w.k = 1 ∨ w.k = 2 := by omega
   unfold dupC
   rw [hw]
   simp only
   rcases hk with e | e | e
   · have t := this.1 e
     rw [if_neg (show ¬ w.k = 1 by omega), if_neg (show ¬ w.k = 1 by omega), if_pos e, if_pos e]
     split <;> grind
   · have t := this.2.1 e
     rw [if_pos e, if_pos e, if_neg (show ¬ w.k = 0 by omega), if_neg (show ¬ w.k = 0 by omega)]
     split <;> grind
   · have t := this.2.2 e
     rw [if_neg (show ¬ w.k = 1 by omega), if_neg (show ¬ w.k = 1 by omega), if_neg (show ¬ w.k = 0 by omega), if_neg (show ¬ w.k = 0 by omega)]
     split <;> grind
theorem low_value (X : Nat → Rat) (hg : rightT goal s.n = true) : mixV (turnedD s goal).r (fracsOf s.n.toNat fun v => -(X v)) = -(dotD goal (fracsOf s.n.toNat X)) := by
 have h := mixv_fracs (turnedD s goal) fun v => -(X v)
 rw [turned_len] at h
 rw [h, dot_fracs (right_toNat hg), sumN_congr (g := fun v => -1 * (coefT goal v * X v)) _ (fun v hv => by
  simp only [rdV, turned_get hv, turnW, qOf_ofQ]; grind), sumN_mul]
 grind
theorem hold_value (Z : Nat → Rat) : dotD (priceD s) (fracsOf (2 * s.r.length) Z) = -(mixV s.r (fracsOf s.r.length (yK s Z))) := by
 have h : rightT (priceD s) ((2 * s.r.length : Nat) : Int) = true := termsOf_right (Int.le_refl _)
 rw [dot_fracs h, price_sum, mixv_fracs]
theorem found_of {x y : List FracD} (hl : (lowerD s goal y).2 = true) (hx : holdsS s x = true) (e : dotD goal x = mixV s.r y) : checkD s goal ⟨0, ofQ (dotD goal x), x, y, []⟩ = true := by
 obtain ⟨hr, hlen, ho, hsg, hg, _⟩ := lower_iff.1 hl
 have hx' := holdsS_iff.1 hx
 have hv : valueD goal x = (ofQ (dotD goal x), true) := valueD_yes (by rw [hx'.2.1, hg, hx'.2.2.1]; rfl)
 unfold checkD
 simp only [hr, hg, Bool.and_self, Bool.true_and, if_true]
 rw [hl, hx, hv, lowerD_val hl, ← e, sameF_self]
 rfl
theorem dual_forth (hs : rightS s = true) (hl : s.r.length ≤ 700) (hg : rightT goal s.n = true) {a : OptD} (ha : checkD s goal a = true) (h0 : a.k = 0) : ∃ b, checkD (turnedD s goal) (priceD s) b = true ∧ b.k = 0 ∧ b.v = ofQ (-(qOf a.v)) := by
 rcases check_cases ha with ⟨_, a1, a2, a3, a4, _⟩ | ⟨a0, _⟩ | ⟨a0, _⟩
 · have hx := holdsS_iff.1 a2
   have hy := lower_iff.1 a1
   have hn := rightS_n hs
   have ex := list_fracs hx.2.2.1
   have ey := list_fracs hy.2.2.1
   rw [show a.x.length = s.n.toNat by omega] at ex
   rw [hy.2.1] at ey
   generalize (fun u : Nat => atP a.x u) = X at ex
   generalize (fun u : Nat => atP a.y u) = Y at ey
   rw [ex] at a2 a3 a4
   rw [ey] at a1 a4
   have x0 : ∀ v, v < s.n.toNat → 0 ≤ X v := fun v hv => nonneg_of (by rw [← ex]; exact hx.2.2.2.1) hv
   have yy : fracsOf s.r.length (yK s (zK Y)) = fracsOf s.r.length Y := fracs_congr fun i hi => yK_zK (signs_of a1) hi
   have b1 := (low_turned (goal := goal) hs hl x0).2 a2
   have b2 := (hold_turned (Z := zK Y) hs hl hg (fun j _ => zK_nonneg Y j)).2 (by rw [yy]; exact a1)
   have v1 := low_value (s := s) X hg
   have v2 := hold_value (s := s) (zK Y)
   rw [yy] at v2
   have e : dotD (priceD s) (fracsOf (2 * s.r.length) (zK Y)) = mixV (turnedD s goal).r (fracsOf s.n.toNat fun v => -(X v)) := by rw [v1, v2, a4]
   exact ⟨_, found_of b1 b2 e, rfl, by rw [a3, qOf_ofQ]; dsimp only; rw [v2, a4]⟩
 · omega
 · omega
theorem dual_back (hs : rightS s = true) (hl : s.r.length ≤ 700) (hg : rightT goal s.n = true) {b : OptD} (hb : checkD (turnedD s goal) (priceD s) b = true) (h0 : b.k = 0) : ∃ a, checkD s goal a = true ∧ a.k = 0 := by
 rcases check_cases hb with ⟨_, a1, a2, a3, a4, _⟩ | ⟨a0, _⟩ | ⟨a0, _⟩
 · have hx := holdsS_iff.1 a2
   have hy := lower_iff.1 a1
   have ex := list_fracs hx.2.2.1
   have ey := list_fracs hy.2.2.1
   have hN : b.x.length = 2 * s.r.length := by have := hx.2.1; simp only [turnedD] at this; omega
   rw [hN] at ex
   rw [hy.2.1, turned_len] at ey
   generalize (fun u : Nat => atP b.x u) = Z at ex
   generalize (fun u : Nat => atP b.y u) = U at ey
   have eU : fracsOf s.n.toNat U = fracsOf s.n.toNat fun v => -((fun v => -(U v)) v) := fracs_congr fun v _ => by grind
   rw [ex] at a2 a4
   have hsg := signs_of (s := turnedD s goal) (Y := U) (by rw [turned_len, ← ey]; exact a1)
   rw [ey, eU] at a1 a4
   have z0 : ∀ j, j < 2 * s.r.length → 0 ≤ Z j := fun j hj => nonneg_of (by rw [← ex]; exact hx.2.2.2.1) hj
   have x0 : ∀ v, v < s.n.toNat → 0 ≤ (fun v => -(U v)) v := fun v hv => by
    have := (hsg v _ (turned_get hv)).2 rfl
    show 0 ≤ -(U v)
    grind
   have b1 := (low_turned (goal := goal) hs hl x0).1 a1
   have b2 := (hold_turned (Z := Z) hs hl hg z0).1 a2
   have v1 := low_value (s := s) (fun v => -(U v)) hg
   have v2 := hold_value (s := s) Z
   exact ⟨_, found_of b2 b1 (by grind), rfl⟩
 · omega
 · omega
theorem dual_free (hs : rightS s = true) (hl : s.r.length ≤ 700) (hg : rightT goal s.n = true) {a b : OptD} (ha : checkD s goal a = true) (hb : checkD (turnedD s goal) (priceD s) b = true) (h1 : a.k = 2) (h2 : b.k = 2) : False := by
 rcases check_cases ha with ⟨a0, _⟩ | ⟨a0, _⟩ | ⟨_, a1, a2, _⟩
 · omega
 · omega
 · rcases check_cases hb with ⟨a0, _⟩ | ⟨a0, _⟩ | ⟨_, b1, b2, _⟩
   · omega
   · omega
   · have hx := holdsS_iff.1 b1
     have ex := list_fracs hx.2.2.1
     have hN : b.x.length = 2 * s.r.length := by have := hx.2.1; simp only [turnedD] at this; omega
     rw [hN] at ex
     rw [ex] at b1
     have z0 : ∀ j, j < 2 * s.r.length → 0 ≤ (fun u : Nat => atP b.x u) j := fun j hj => nonneg_of (by rw [← ex]; exact hx.2.2.2.1) hj
     have c1 := (hold_turned hs hl hg z0).1 b1
     rw [ray_no a1 a2] at c1
     cases c1
theorem dual_law (hs : rightS s = true) (hl : s.r.length ≤ 700) (hg : rightT goal s.n = true) {a b : OptD} (ha : checkD s goal a = true) (hb : checkD (turnedD s goal) (priceD s) b = true) :
    (a.k = 0 ∨ b.k = 0 → a.k = b.k ∧ b.v = ofQ (-(qOf a.v)) ∧ okF a.v = true) ∧ (¬ a.k = 0 → ¬ b.k = 0 → a.k = 1 ∨ b.k = 1) := by
 have f1 : a.k = 0 → a.k = b.k ∧ b.v = ofQ (-(qOf a.v)) ∧ okF a.v = true := by
  intro h
  obtain ⟨c, c1, c2, c3⟩ := dual_forth hs hl hg ha h
  obtain ⟨d1, d2⟩ := agrees hb c1
  refine ⟨by omega, by rw [d2, c3], ?_⟩
  rcases check_cases ha with ⟨_, _, _, a3, _⟩ | ⟨a0, _⟩ | ⟨a0, _⟩
  · rw [a3]; exact okF_ofQ _
  · omega
  · omega
 refine ⟨fun h => ?_, fun h1 h2 => ?_⟩
 · rcases h with h | h
   · exact f1 h
   · obtain ⟨c, c1, c2⟩ := dual_back hs hl hg hb h
     obtain ⟨d1, _⟩ := agrees ha c1
     exact f1 (by omega)
 · rcases check_cases ha with ⟨a0, _⟩ | ⟨a0, _⟩ | ⟨a0, _⟩
   · exact absurd a0 h1
   · exact .inl a0
   · rcases check_cases hb with ⟨b0, _⟩ | ⟨b0, _⟩ | ⟨b0, _⟩
     · exact absurd b0 h2
     · exact .inr b0
     · exact (dual_free hs hl hg ha hb a0 b0).elim
theorem dup_sz {f : RowD → Rat} {B : Nat} (hB : 1 ≤ B) (hf : ∀ w ∈ s.r, szQ (f w) ≤ B) (j : Nat) : szQ (dupC s f j) ≤ B := by
 have z0 : szQ 0 ≤ 1 := by decide +kernel
 unfold dupC
 split
 · rename_i w hw
   have := hf w (List.mem_of_getElem? hw)
   split <;> split
   · omega
   · exact this
   · omega
   · rw [szQ_neg]; exact this
 · omega
theorem openK_most (g : Nat → Rat) (s : SysD) (h : ∀ w ∈ s.r, w.k = 1) : ∀ k, k ≤ s.r.length → (openK g s k).1.m = k
 | 0, _ => rfl
 | k + 1, hk => by
   have ih := openK_most g s h k (by omega)
   obtain ⟨w, hw⟩ : ∃ e, s.r[k]? = some e := ⟨_, List.getElem?_eq_getElem (by omega)⟩
   have h1 := h w (mem_at hw)
   simp only [openK, hw, putP, addP]
   rw [if_pos h1, if_neg (show ¬ w.k = 0 by omega)]
   simp only [addRow, ih]
theorem fit_turned (hs : rightS s = true) (hg : rightT goal s.n = true) (hf : few10 s goal = true) : Fit (turnedD s goal) (priceD s) := by
 have h := fit_few hf
 have hn := rightS_n hs
 have h1 := h.l
 have hr6 : s.r.length ≤ 6 ∧ s.n ≤ 5 := by
  simp only [few10, Bool.and_eq_true, Bool.not_eq_true', Bool.and_eq_false_iff, decide_eq_false_iff_not] at hf
  obtain ⟨⟨⟨a, b⟩, _⟩, _⟩ := hf
  omega
 refine Fit.mk5 (by rw [turned_len]; omega) (fun _ => by simp only [turnedD]; omega) (fun _ => .inr ?_) (fun w hw => ?_) ⟨?_, fun t ht => ?_⟩
 · rw [openK_most _ _ (fun w hw => ?_) _ (Nat.le_refl _), turned_len]
   · omega
   · obtain ⟨v, _, rfl⟩ := List.mem_map.1 hw; rfl
 · obtain ⟨v, _, rfl⟩ := List.mem_map.1 hw
   refine ⟨?_, ?_, fun t ht => ?_⟩
   · have := termsOf_len (dupC s fun w => coefT w.t v) (2 * s.r.length)
     simp only [turnW, turnT]; omega
   · simp only [turnW]
     exact coef_sz hg (by decide) h.g.2 v
   · obtain ⟨j, _, rfl⟩ := termsOf_mem ht
     exact dup_sz (by decide) (fun w hw => coef_sz (rightS_row hs hw).1 (by decide) (h.w w hw).2.2 v) j
 · have := termsOf_len (dupC s fun w => -(qOf w.v)) (2 * s.r.length)
   unfold priceD; omega
 · obtain ⟨j, _, rfl⟩ := termsOf_mem ht
   refine dup_sz (by decide) (fun w hw => ?_) j
   rw [szQ_neg, szF_ok (rightS_row hs hw).2.2.2]
   exact (h.w w hw).2.1
end
attribute [local go_sem] opsL_nil opsL_go opsL_guard gSel_tt gSel_ff gSel_tf gSel_ft stepR_some stepR_none callS_some callE_some runL_nil runL_go runL_guard gSelE_tt gSelE_ff gSelE_tf gSelE_ft stepE_some stepE_none opF callD rd constD putT upd_get guardL gOf_bool gOf_undef fieldAddrF fieldF loadF storeF indexAddrF indexF sliceF strSliceF bound buildF fillF buildSliceF elemsF allocF makeSliceF lenF elemsOf appendF minmaxF convertF boxF ldE blkAt spliceE D.cells? D.isCell Res.pure ov TyI.agg binD unD boolD initT thenA inBlockA argD argDs refsD refsL killW datJ datJs endA_ret endA_normal endR_some oneD_one oneD_two oneD_three oneD_four resDs resD fzT Value.oneCell' strip tabT tabM
attribute [local go_sem] List.map Nat.reduceEqDiff Nat.reduceBEq List.getElem?_cons_zero List.getElem?_cons_succ List.getElem?_nil Option.getD_some Option.getD_none true_and and_true true_or or_true false_or or_false and_self Nat.add_zero Nat.zero_add List.length_nil List.length_cons forall_const ite_true ite_false Bool.or_self Bool.false_eq_true Option.map_some Option.map_none beq_self_eq_true Nat.reduceAdd Nat.reduceSub Nat.reduceMul reduceCtorEq List.getElem?_toArray Bool.not_true Bool.not_false decide_eq_true_eq decide_true decide_false Nat.reduceLeDiff Nat.reduceLT Bool.or_false Bool.or_true Bool.and_true Bool.and_false Bool.false_and Bool.true_and Bool.true_beq Bool.false_beq beq_true beq_false Bool.not_eq_true List.drop_succ_cons List.take_succ_cons List.drop_zero List.take_zero List.length_map List.getElem?_map List.length_append List.all_cons List.all_nil List.append_nil List.nil_append List.cons_append List.set_cons_zero List.set_cons_succ Int.toNat_natCast Int.toNat_zero Option.isSome_some Option.isSome_none Array.size_empty ByteArray.size_empty Int.reduceToNat Int.reduceAdd Int.reduceSub Int.reduceLT Int.reduceLE Int.reduceEq Int.reduceNe Int.reduceBEq Int.reduceNeg List.forall_mem_cons List.not_mem_nil false_implies List.forall_mem_map implies_true Nat.reduceBNe Int.cast_ofNat_Int Int.reduceMul Int.reduceGE Int.reduceGT wrap_in ty_2 ty_3 ty_4 ty_5 ty_6 ty_7 ty_8 ty_9 ty_10 ty_11 ty_12 ty_13 ty_14 ty_18 ty_19 ty_21 ty_22 ty_23 ty_24 ty_25 ty_28 ty_29 ty_30 ty_31 ty_32 ty_33 ty_34 ty_35 ty_36 ty_55 ty_56 ty_57 ty_64 ty_65 ty_76 ty_77 ty_100 ty_101 ty_119 ty_120 ty_121 ty_122 ty_125 ty_126 ty_131 ty_132 ty_133 ty_134 ty_152 ty_153 ty_169 ty_170 ty_176 ty_177 ty_178 ty_179 ty_180 ty_181 ty_182 ty_183 ty_186 ty_187 ty_188 ty_189
set_option maxHeartbeats 8000000
theorem rnegF_c (a : Rat) (za : (szQ a : Int) ≤ 549755813888) : Contract Tryz.prog 25 [encF (ofQ a)] (encF (ofQ (-a))) := by
 have hres := Tryz.results25
 have h1 := (rrightF_c (ofQ a) za).toN rfl
 rw [okF_ofQ] at h1
 have h2 := rneg_c a.num (by have : szZ a.num ≤ szQ a := by rw [szQ_eq]; omega
                             omega)
 have e : ofQ (-a) = ⟨ofZ (-a.num), ofZ a.den⟩ := by simp only [ofQ, Rat.neg_num, Rat.neg_den]
 rw [e]
 refine Contract.ofA (CallA.inline Tryz.func25 rfl (by kernel_rfl) (by kernel_rfl) (by kernel_rfl) ?_)
 rw [Tryz.ntmps25]
 refine aGo hres ?_
 repeat (guard_target =~ ∀ _ : St → Prop, _; intro K hK)
 rfl
abbrev tB (l : List TermD) : Blk := ⟨101, l.length, 5, l.map cT, 0, false⟩
def putL (l : List TermD) (v : Nat) (q : Rat) : List TermD := if q = 0 then l else l ++ [⟨v, ofQ q⟩]
theorem putL_terms (n : Nat) (c : Nat → Rat) : putL (termsOf n c) n (c n) = termsOf (n + 1) c := by
 rw [termsOf_succ]; unfold putL
 split <;> simp
section
variable [Ifl] {P : Program} {f : FuncId} {ds : List D} {m : Mem} {nx : Nat}
theorem CallA.keptL {ver A : Nat} {b0 blk : Blk} (hA : m A = some b0) (hb : okBlk (fun _ => false) blk) (h : CallA P f ds m nx fun d m' nx' => d = .ls A ver ∧ nx ≤ nx' ∧ m' A = some blk ∧ ∀ id, id < nx → id ≠ A → m' id = m id) :
    CallA P f ds m nx fun d m' nx' => d = .ls A ver ∧ m' = upd m A (some blk) ∧ nx' = nx := by
 refine CallA.cl h.1 fun hcl => CallA.sub (h.mono ?_)
 rintro d m' nx' ⟨rfl, h1, h2, h3⟩
 refine ⟨_, _, (hcl.upd hb (hcl A b0 hA).1 (Nat.le_refl nx)).sub fun id b hi => ?_, ?_, fun id hi => ?_, rfl, rfl, rfl⟩
 · by_cases e : id = A
   · subst e; rw [upd_same] at hi; rw [h2]; exact hi
   · rw [upd_ne _ _ e] at hi; rw [h3 id (hcl id b hi).1 e]; exact hi
 · simp only [okD, upd_same]; rfl
 · by_cases e : id = A
   · subst e; rw [upd_same, h2]
   · cases hm : m id with
     | none => rw [hm] at hi; cases hi
     | some b => rw [upd_ne _ _ e, h3 id (hcl id b hm).1 e]
end
theorem ok_tB (l : List TermD) : okBlk (fun _ => false) (tB l) := by
 intro e he
 obtain ⟨t, _, rfl⟩ := List.mem_map.1 he
 rfl
theorem lput_a [Ifl] (id : Nat) (l : List TermD) (v : Nat) (q : Rat) (m : Mem) (nx : Nat) (hm : m id = some (tB l)) (hl : (l.length : Int) ≤ 4000) (zq : (szQ q : Int) ≤ 262144) :
    CallA Tryz.prog 80 [.ls id l.length, dI v, encF (ofQ q)] m nx fun d m' nx' => d = .ls id (putL l v q).length ∧ nx ≤ nx' ∧ m' id = some (tB (putL l v q)) ∧ ∀ i, i < nx → i ≠ id → m' i = m i := by
 refine CallA.cl ⟨_, _, Tryz.func80, rfl, by kernel_rfl⟩ fun hcl => ?_
 have lid := (hcl id _ hm).1
 have hres := Tryz.results80
 have ks := (rsignF_c (ofQ q) (by rw [szQ_ofQ]; omega)).toN rfl
 rw [sgnD_ofQ] at ks
 have n1 : id ≠ nx := by omega
 have n2 : id ≠ nx + 1 := by omega
 have n3 : nx ≠ id := by omega
 refine CallA.inline Tryz.func80 rfl (by kernel_rfl) (by kernel_rfl) (by kernel_rfl) ?_
 rw [Tryz.ntmps80]
 by_cases h0 : q = 0
 · have e0 : (sgQ q == 0) = true := by rw [sgQ_zero.2 h0]; rfl
   have e1 : putL l v q = l := if_pos h0
   rw [e1]
   refine aGoM (cj4 hres hm e0 n1) ?_
   repeat (first | (guard_target =~ ∀ _ : St → Prop, _; intro K hK) | (guard_target =~ ∀ _ : List Ev → St → Prop, _; intro K hK))
   exact fun i h1 _ => if_neg (by omega)
 · have e0 : (sgQ q == 0) = false := by simp [sgQ_zero, h0]
   have e1 : putL l v q = l ++ [⟨v, ofQ q⟩] := if_neg h0
   have y7 : ((l.length + 1 : Nat) : Int) * 40 ≤ 140737488355328 := by omega
   have y8 : ((l.length + 1 : Nat) : Int) ≤ 9007199254740992 := by omega
   rw [e1]
   refine aGoM (cj4 hres hm e0 (cj4 n1 n2 n3 (cj2 y7 y8))) ?_
   repeat (first | (guard_target =~ ∀ _ : St → Prop, _; intro K hK) | (guard_target =~ ∀ _ : List Ev → St → Prop, _; intro K hK))
   refine ⟨by unfold tB; rw [List.map_append, List.length_append]; rfl, fun i h1 h2 => ?_⟩
   rw [if_neg h2, if_neg (by omega), if_neg (by omega)]
theorem lput_c [Ifl] (id n : Nat) (c : Nat → Rat) (m : Mem) (nx : Nat) (hm : m id = some (tB (termsOf n c))) (hl : (n : Int) ≤ 4000) (zq : (szQ (c n) : Int) ≤ 262144) :
    CallA Tryz.prog 80 [.ls id (termsOf n c).length, dI n, encF (ofQ (c n))] m nx fun d m' nx' => d = .ls id (termsOf (n + 1) c).length ∧ m' = upd m id (some (tB (termsOf (n + 1) c))) ∧ nx' = nx := by
 have := termsOf_len c n
 have h := lput_a id (termsOf n c) n (c n) m nx hm (by omega) zq
 rw [putL_terms] at h
 exact CallA.keptL hm (ok_tB _) h
theorem lput_e [Ifl] (id n : Nat) (c : Nat → Rat) (m : Mem) (nx : Nat) (hm : m id = some (tB (termsOf n c))) (hl : (n : Int) ≤ 4000) (zq : (szQ (c n) : Int) ≤ 262144) (hid : id < nx) :
    EffC Tryz.prog 80 [.ls id (termsOf n c).length, dI n, encF (ofQ (c n))] m nx ⟨.ls id (termsOf (n + 1) c).length, [id], [(id, tB (termsOf (n + 1) c))], false⟩ nx :=
 EffC.of ⟨_, _, Tryz.func80, rfl, by kernel_rfl⟩ (fun p hp => by simp only [List.mem_singleton] at hp; subst hp; exact ⟨by simp, hid⟩) fun m1 NX hN ht =>
  lput_c id n c m1 NX ((ht id (by simp)).trans hm) hl zq
theorem termsOf_no {n : Nat} {c : Nat → Rat} (h : c n = 0) : termsOf (n + 1) c = termsOf n c := by rw [termsOf_succ, if_pos h, List.append_nil]
theorem price10_c (s : SysD) (hs : rightS s = true) (hl : s.r.length ≤ 64) (hz : ∀ w ∈ s.r, (szF w.v : Int) ≤ 262144) : Contract Tryz.prog 24 [encS s] (encTs (priceD s)) := by
 have hres := Tryz.results24
 refine Contract.ofA (CallA.inline Tryz.func24 rfl (by kernel_rfl) (by kernel_rfl) (by kernel_rfl) ?_)
 rw [Tryz.ntmps24]
 unfold priceD
 generalize hc : dupC s (fun w => -(qOf w.v)) = c
 have e0 : termsOf 0 c = [] := rfl
 refine aGo hres ?_
 repeat (guard_target =~ ∀ _ : St → Prop, _; intro K hK)
 refine aLoopT (fun (i : Nat) => [(1, .lp 0 0 0 0), (3, .ls 1 (termsOf (2 * i) c).length), (4, dI i)]) (fun i => [(0, ⟨24, 0, 2, [cS s], 0, false⟩), (1, tB (termsOf (2 * i) c))]) 2 0 (fun i => i ≤ s.r.length) (fun i => s.r.length - i) 0 (by omega) ?_ ?_
 · exact leGo e0
 · rintro i hi
   have hwi : IntKind.i64.wrap ((i : Int) + 1) = (i : Int) + 1 := wrap_in (by omega) (by omega)
   have h2i : IntKind.i64.wrap (2 * (i : Int)) = ((2 * i : Nat) : Int) := (wrap_in (by omega) (by omega)).trans (by omega)
   have h2j : IntKind.i64.wrap (((2 * i : Nat) : Int) + 1) = ((2 * i + 1 : Nat) : Int) := (wrap_in (by omega) (by omega)).trans (by omega)
   have i0 : (0 : Int) ≤ i := by omega
   by_cases h1 : (i : Int) < s.r.length
   · obtain ⟨w, hw⟩ : ∃ e, s.r[i]? = some e := ⟨_, List.getElem?_eq_getElem (by omega)⟩
     have h3 := rightS_row hs (mem_at hw)
     have zw := hz w (mem_at hw)
     have ce := dup_even s (fun w => -(qOf w.v)) hw
     have co := dup_odd s (fun w => -(qOf w.v)) hw
     rw [hc] at ce co
     obtain ⟨wt, wk, wv⟩ := w
     obtain ⟨q, rfl⟩ : ∃ q, wv = ofQ q := ⟨qOf wv, okF_eq h3.2.2.2⟩
     rw [szQ_ofQ] at zw
     simp only [qOf_ofQ] at ce co
     have kn := rnegF_c q (by omega)
     have zc1 : (szQ (c (2 * i)) : Int) ≤ 262144 := by
      rw [ce]; split
      · have := sz_0; omega
      · rw [szQ_neg]; exact zw
     have zc2 : (szQ (c (2 * i + 1)) : Int) ≤ 262144 := by
      rw [co]; split
      · have := sz_0; omega
      · rw [szQ_neg, szQ_neg]; exact zw
     have hk : wk = 0 ∨ wk = 1 ∨ wk = 2 := by have := h3.2.1; have := h3.2.2.1; simp only at *; omega
     have b00 : ((0 : Int) != 0) = false := rfl
     have b01 : ((0 : Int) != 1) = true := rfl
     have b10 : ((1 : Int) != 0) = true := rfl
     have b11 : ((1 : Int) != 1) = false := rfl
     have b20 : ((2 : Int) != 0) = true := rfl
     have b21 : ((2 : Int) != 1) = true := rfl
     rcases hk with hk | hk | hk
     · subst hk
       rw [if_neg (by decide)] at ce
       rw [if_pos rfl] at co
       have e3 := termsOf_no co
       have P1 := fun m nx hm => lput_c 1 (2 * i) c m nx hm (by omega) zc1
       rw [ce] at P1
       have es : termsOf (2 * (i + 1)) c = termsOf (2 * i + 1) c := e3
       refine aGo (cj4 hres i0 h1 (cj4 hw hwi h2i (cj3 h2j b00 b01))) ?_
       repeat (guard_target =~ ∀ _ : St → Prop, _; intro K hK)
       refine callT_eff (P1 _ _ rfl) ?_
       rintro _ _ _ ⟨rfl, rfl, rfl⟩
       refine aGo (cj4 hres i0 h1 (cj4 hw hwi h2i (cj3 h2j b00 b01))) ?_
       repeat (guard_target =~ ∀ _ : St → Prop, _; intro K hK)
       exact loop_end (i + 1) (by omega) (by omega) (by exact leGo es)
     · subst hk
       rw [if_pos rfl] at ce
       rw [if_neg (by decide)] at co
       have e3 := termsOf_no ce
       have P2 := fun m nx hm => lput_c 1 (2 * i + 1) c m nx hm (by omega) zc2
       rw [co, show -(-q) = q by grind] at P2
       have es : termsOf (2 * (i + 1)) c = termsOf (2 * i + 1 + 1) c := rfl
       rw [e3] at P2
       refine aGo (cj4 hres i0 h1 (cj4 hw hwi h2i (cj3 h2j b10 b11))) ?_
       repeat (guard_target =~ ∀ _ : St → Prop, _; intro K hK)
       refine callT_eff (P2 _ _ rfl) ?_
       rintro _ _ _ ⟨rfl, rfl, rfl⟩
       refine aGo (cj4 hres i0 h1 (cj4 hw hwi h2i (cj3 h2j b10 b11))) ?_
       repeat (guard_target =~ ∀ _ : St → Prop, _; intro K hK)
       exact loop_end (i + 1) (by omega) (by omega) (by exact leGo es)
     · subst hk
       rw [if_neg (by decide)] at ce
       rw [if_neg (by decide)] at co
       have P1 := fun m nx hm => lput_c 1 (2 * i) c m nx hm (by omega) zc1
       have P2 := fun m nx hm => lput_c 1 (2 * i + 1) c m nx hm (by omega) zc2
       rw [ce] at P1
       rw [co, show -(-q) = q by grind] at P2
       have es : termsOf (2 * (i + 1)) c = termsOf (2 * i + 1 + 1) c := rfl
       refine aGo (cj4 hres i0 h1 (cj4 hw hwi h2i (cj3 h2j b20 b21))) ?_
       repeat (guard_target =~ ∀ _ : St → Prop, _; intro K hK)
       refine callT_eff (P1 _ _ rfl) ?_
       rintro _ _ _ ⟨rfl, rfl, rfl⟩
       refine aGo (cj4 hres i0 h1 (cj4 hw hwi h2i (cj3 h2j b20 b21))) ?_
       repeat (guard_target =~ ∀ _ : St → Prop, _; intro K hK)
       refine callT_eff (P2 _ _ rfl) ?_
       rintro _ _ _ ⟨rfl, rfl, rfl⟩
       refine aGo (cj4 hres i0 h1 (cj4 hw hwi h2i (cj3 h2j b20 b21))) ?_
       repeat (guard_target =~ ∀ _ : St → Prop, _; intro K hK)
       exact loop_end (i + 1) (by omega) (by omega) (by exact leGo es)
   · obtain rfl : i = s.r.length := by omega
     refine aGo (cj2 hres h1) ?_
     repeat (guard_target =~ ∀ _ : St → Prop, _; intro K hK)
     rw [map_map_id (fun _ => rfl)]
theorem le_cellsTo [Ifl] {s : St} (id n : Nat) {b : Blk} {es' : List (List D)} (hb : s.m id = some b) (he : b.es.map (List.map (fzT false s.m n)) = es') : StLe s { s with m := upd s.m id (some { b with es := es' }) } := by
 subst he; exact le_cells id n hb
abbrev rowsV (s : SysD) (goal : List TermD) (v : Nat) : List RowD := (List.range v).map (turnW s goal)
theorem rowsV_len (s : SysD) (goal : List TermD) (v : Nat) : (rowsV s goal v).length = v := by simp
theorem rowsV_succ (s : SysD) (goal : List TermD) (v : Nat) : rowsV s goal (v + 1) = rowsV s goal v ++ [turnW s goal v] := by unfold rowsV; rw [List.range_succ, List.map_append]; rfl
theorem turned10_c (s : SysD) (goal : List TermD) (hs : rightS s = true) (hg : rightT goal s.n = true) (hl : s.r.length ≤ 64) (hgl : (goal.length : Int) ≤ 4096) (hn : s.n ≤ 64) (hw : ∀ w ∈ s.r, (w.t.length : Int) ≤ 4096 ∧ ∀ t ∈ w.t, szF t.f ≤ 262144) (hzg : ∀ t ∈ goal, szF t.f ≤ 262144) :
    Contract Tryz.prog 23 [encS s, encTs goal] (encS (turnedD s goal)) := by
 have hres := Tryz.results23
 refine Contract.ofA (CallA.inline Tryz.func23 rfl (by kernel_rfl) (by kernel_rfl) (by kernel_rfl) ?_)
 rw [Tryz.ntmps23]
 have h2r : IntKind.i64.wrap (2 * (s.r.length : Int)) = 2 * (s.r.length : Int) := wrap_in (by omega) (by omega)
 have hn0 := (rightS_n hs).1
 have e0 : (rowsV s goal 0).map cW = [] := rfl
 refine aGo (cj2 hres h2r) ?_
 repeat (guard_target =~ ∀ _ : St → Prop, _; intro K hK)
 refine aLe (le_rowIn 2 0 1 56 6 rfl rfl rfl) ?_
 refine aLoopT (fun (v : Nat) => [(1, encTs goal), (2, .lp 0 0 0 0), (4, .lp 1 0 0 0), (5, .lp 2 0 0 0), (6, dI v)])
  (fun v => [(0, ⟨24, 0, 2, [cS s], 0, false⟩), (1, ⟨24, 0, 2, [[dI 0, .nil]], 0, false⟩), (2, ⟨24, 0, 2, [[dI (2 * (s.r.length : Int)), .ls 3 v]], 0, false⟩), (3, ⟨56, v, 6, (rowsV s goal v).map cW, 0, false⟩)]) 4 0 (fun v => v ≤ s.n.toNat) (fun v => s.n.toNat - v) 0 (by omega) ?_ ?_
 · exact leGo e0
 · rintro v hv
   have hwv : IntKind.i64.wrap ((v : Int) + 1) = (v : Int) + 1 := wrap_in (by omega) (by omega)
   have v0 : (0 : Int) ≤ v := by omega
   by_cases h1 : (v : Int) < s.n
   · have kc := coef9_c goal v hgl hg
     refine aGo (cj3 hres v0 h1) ?_
     repeat (guard_target =~ ∀ _ : St → Prop, _; intro K hK)
     refine aLe (le_rowIn 4 0 0 101 5 rfl rfl rfl) ?_
     generalize hc : dupC s (fun w => coefT w.t v) = c
     have ez : termsOf (2 * 0) c = [] := rfl
     refine aLoopT (fun (i : Nat) => [(1, encTs goal), (2, .lp 0 0 0 0), (4, .lp 1 0 0 0), (5, .lp 2 0 0 0), (6, dI v), (7, .lp 4 0 0 0), (8, dI i)])
      (fun i => [(0, ⟨24, 0, 2, [cS s], 0, false⟩), (1, ⟨24, 0, 2, [[dI 0, .nil]], 0, false⟩), (2, ⟨24, 0, 2, [[dI (2 * (s.r.length : Int)), .ls 3 v]], 0, false⟩), (3, ⟨56, v, 6, (rowsV s goal v).map cW, 0, false⟩),
        (4, ⟨56, 0, 6, [[.ls 5 (termsOf (2 * i) c).length, dI 1, dI (ofQ (coefT goal v)).p.s, encInts (ofQ (coefT goal v)).p.d, dI (ofQ (coefT goal v)).q.s, encInts (ofQ (coefT goal v)).q.d]], 0, false⟩), (5, tB (termsOf (2 * i) c))]) 6 0 (fun i => i ≤ s.r.length) (fun i => s.r.length - i) 0 (by omega) ?_ ?_
     · exact leGo ez
     · rintro i hi
       have hwi : IntKind.i64.wrap ((i : Int) + 1) = (i : Int) + 1 := wrap_in (by omega) (by omega)
       have h2i : IntKind.i64.wrap (2 * (i : Int)) = ((2 * i : Nat) : Int) := (wrap_in (by omega) (by omega)).trans (by omega)
       have h2j : IntKind.i64.wrap (((2 * i : Nat) : Int) + 1) = ((2 * i + 1 : Nat) : Int) := (wrap_in (by omega) (by omega)).trans (by omega)
       have i0 : (0 : Int) ≤ i := by omega
       by_cases h2 : (i : Int) < s.r.length
       · obtain ⟨w, hrw⟩ : ∃ e, s.r[i]? = some e := ⟨_, List.getElem?_eq_getElem (by omega)⟩
         have h3 := rightS_row hs (mem_at hrw)
         have zw := hw w (mem_at hrw)
         have ce := dup_even s (fun w => coefT w.t v) hrw
         have co := dup_odd s (fun w => coefT w.t v) hrw
         rw [hc] at ce co
         obtain ⟨wt, wk, wv⟩ := w
         simp only at ce co h3 zw
         have kw := coef9_c wt v zw.1 h3.1
         have zc : (szQ (coefT wt v) : Int) ≤ 262144 := by have := coef_sz h3.1 (B := 262144) (by decide) zw.2 v; omega
         have kn := rnegF_c (coefT wt v) (by omega)
         have zc1 : (szQ (c (2 * i)) : Int) ≤ 262144 := by
          rw [ce]; split
          · have := sz_0; omega
          · exact zc
         have zc2 : (szQ (c (2 * i + 1)) : Int) ≤ 262144 := by
          rw [co]; split
          · have := sz_0; omega
          · rw [szQ_neg]; exact zc
         have hk : wk = 0 ∨ wk = 1 ∨ wk = 2 := by have := h3.2.1; have := h3.2.2.1; omega
         have b00 : ((0 : Int) != 0) = false := rfl
         have b01 : ((0 : Int) != 1) = true := rfl
         have b10 : ((1 : Int) != 0) = true := rfl
         have b11 : ((1 : Int) != 1) = false := rfl
         have b20 : ((2 : Int) != 0) = true := rfl
         have b21 : ((2 : Int) != 1) = true := rfl
         rcases hk with hk | hk | hk
         · subst hk
           rw [if_neg (by decide)] at ce
           rw [if_pos rfl] at co
           have e3 := termsOf_no co
           have P1 := fun m nx hm => lput_c 5 (2 * i) c m nx hm (by omega) zc1
           rw [ce] at P1
           have es : termsOf (2 * (i + 1)) c = termsOf (2 * i + 1) c := e3
           refine aGo (cj4 hres i0 h2 (cj4 hrw hwi h2i (cj3 h2j b00 b01))) ?_
           repeat (guard_target =~ ∀ _ : St → Prop, _; intro K hK)
           refine callT_eff (P1 _ _ rfl) ?_
           rintro _ _ _ ⟨rfl, rfl, rfl⟩
           refine aGo (cj4 hres i0 h2 (cj4 hrw hwi h2i (cj3 h2j b00 b01))) ?_
           repeat (guard_target =~ ∀ _ : St → Prop, _; intro K hK)
           exact loop_end (i + 1) (by omega) (by omega) (by exact leGo es)
         · subst hk
           rw [if_pos rfl] at ce
           rw [if_neg (by decide)] at co
           have e3 := termsOf_no ce
           have P2 := fun m nx hm hid => lput_e 5 (2 * i + 1) c m nx hm (by omega) zc2 hid
           rw [co] at P2
           have es : termsOf (2 * (i + 1)) c = termsOf (2 * i + 1 + 1) c := rfl
           rw [e3] at P2
           refine aGo (cj4 hres i0 h2 (cj4 hrw hwi h2i (cj3 h2j b10 b11))) ?_
           repeat (guard_target =~ ∀ _ : St → Prop, _; intro K hK)
           repeat (first | (guard_target =~ ∀ _ : St → Prop, _; intro K hK) | (guard_target =~ ∀ _ : List Ev → St → Prop, _; intro KF hF))
           refine callU_eff (P2 _ _ rfl (by decide)) ?_
           refine aGo (cj4 hres i0 h2 (cj4 hrw hwi h2i (cj3 h2j b10 b11))) ?_
           repeat (guard_target =~ ∀ _ : St → Prop, _; intro K hK)
           refine hF _ _ (by kernel_rfl) (intsOk_all (by (repeat (refine intsDead_updB rfl ?_)); exact intsDead_nil) rfl) ?_
           refine aGo (cj4 hres i0 h2 (cj4 hrw hwi h2i (cj3 h2j b10 b11))) ?_
           repeat (guard_target =~ ∀ _ : St → Prop, _; intro K hK)
           exact loop_end (i + 1) (by omega) (by omega) (by exact leGo es)
         · subst hk
           rw [if_neg (by decide)] at ce
           rw [if_neg (by decide)] at co
           have P1 := fun m nx hm => lput_c 5 (2 * i) c m nx hm (by omega) zc1
           have P2 := fun m nx hm hid => lput_e 5 (2 * i + 1) c m nx hm (by omega) zc2 hid
           rw [ce] at P1
           rw [co] at P2
           have es : termsOf (2 * (i + 1)) c = termsOf (2 * i + 1 + 1) c := rfl
           refine aGo (cj4 hres i0 h2 (cj4 hrw hwi h2i (cj3 h2j b20 b21))) ?_
           repeat (guard_target =~ ∀ _ : St → Prop, _; intro K hK)
           refine callT_eff (P1 _ _ rfl) ?_
           rintro _ _ _ ⟨rfl, rfl, rfl⟩
           refine aGo (cj4 hres i0 h2 (cj4 hrw hwi h2i (cj3 h2j b20 b21))) ?_
           repeat (guard_target =~ ∀ _ : St → Prop, _; intro K hK)
           repeat (first | (guard_target =~ ∀ _ : St → Prop, _; intro K hK) | (guard_target =~ ∀ _ : List Ev → St → Prop, _; intro KF hF))
           refine callU_eff (P2 _ _ rfl (by decide)) ?_
           refine aGo (cj4 hres i0 h2 (cj4 hrw hwi h2i (cj3 h2j b20 b21))) ?_
           repeat (guard_target =~ ∀ _ : St → Prop, _; intro K hK)
           refine hF _ _ (by kernel_rfl) (intsOk_all (by (repeat (refine intsDead_updB rfl ?_)); exact intsDead_nil) rfl) ?_
           refine aGo (cj4 hres i0 h2 (cj4 hrw hwi h2i (cj3 h2j b20 b21))) ?_
           repeat (guard_target =~ ∀ _ : St → Prop, _; intro K hK)
           exact loop_end (i + 1) (by omega) (by omega) (by exact leGo es)
       · obtain rfl : i = s.r.length := by omega
         have er := rowsV_succ s goal v
         have en := rowsV_len s goal v
         refine aGo (cj4 hres h2 en hwv) ?_
         repeat (guard_target =~ ∀ _ : St → Prop, _; intro K hK)
         refine loop_end (v + 1) (by omega) (by omega) ?_
         have ec : turnT s v = termsOf (2 * s.r.length) c := by unfold turnT; rw [hc]
         refine (le_kill 5 rfl).trans ((le_cellsTo 3 4 (es' := (rowsV s goal (v + 1)).map cW) rfl ?_).trans ?_)
         · rw [er, List.map_append, List.map_append, map_map_id (fun _ => rfl)]
           refine congrArg (List.map cW (rowsV s goal v) ++ ·) ?_
           simp only [go_sem, fzT, List.map]
           rw [map_map_id (fun _ => rfl)]
           simp only [turnW, ec]
         · exact leGo trivial
   · obtain rfl : v = s.n.toNat := by omega
     refine aGo (cj2 hres h1) ?_
     repeat (guard_target =~ ∀ _ : St → Prop, _; intro K hK)
     rw [map_map_id (fun _ => rfl)]
     rfl
theorem dual10_c (k0 : Contract Tryz.prog 11 [] (dB true)) (s : SysD) (goal : List TermD) : Contract Tryz.prog 5 [encS s, encTs goal] (dB true) := by
 have hres := Tryz.results5
 have kf := few10_c s goal
 cases hf : few10 s goal
 · rw [hf] at kf
   refine Contract.ofA (CallA.inline Tryz.func5 rfl (by kernel_rfl) (by kernel_rfl) (by kernel_rfl) ?_)
   rw [Tryz.ntmps5]
   exact aGo hres trivial
 rw [hf] at kf
 have h := fit_few hf
 have kl := least_c s goal h
 have k1 := lrightS_c s h.tn.sm
 have k2 := lright_c goal s.n h.gt.sm
 cases hr : rightS s
 · rw [hr] at k1
   refine Contract.ofA (CallA.inline Tryz.func5 rfl (by kernel_rfl) (by kernel_rfl) (by kernel_rfl) ?_)
   rw [Tryz.ntmps5]
   exact aGo hres trivial
 rw [hr] at k1
 cases hg : rightT goal s.n
 · rw [hg] at k2
   refine Contract.ofA (CallA.inline Tryz.func5 rfl (by kernel_rfl) (by kernel_rfl) (by kernel_rfl) ?_)
   rw [Tryz.ntmps5]
   exact aGo hres trivial
 rw [hg] at k2
 have e1 : leastD s goal = (leastE s goal, 0) := by unfold leastD; rw [hr, hg]; rfl
 rw [e1] at kl
 have hl := h.l
 have hn := h.n hr
 have hT := fit_turned hr hg hf
 have rT := turned_right (goal := goal) hr (by omega)
 have rP := price_right (s := s) (goal := goal)
 have km := least_c _ _ hT
 rw [show leastD (turnedD s goal) (priceD s) = (leastE (turnedD s goal) (priceD s), 0) by unfold leastD; rw [rT, rP]; rfl] at km
 have kt := turned10_c s goal hr hg (by omega) (by have := h.g.1; omega) (by omega) (fun w hw => ⟨by have := (h.w w hw).1; omega, fun t ht => by have := (h.w w hw).2.2 t ht; omega⟩) (fun t ht => by have := h.g.2 t ht; omega)
 have kp := price10_c s hr (by omega) (fun w hw => by have := (h.w w hw).2.1; omega)
 have hlaw := dual_law hr (by omega) hg (least_check hr hg) (least_check rT rP)
 have ho := least_tn h hr hg
 generalize leastE s goal = L at *
 generalize leastE (turnedD s goal) (priceD s) = M at *
 generalize turnedD s goal = T at *
 generalize priceD s = R at *
 obtain ⟨lk, lv, lx, ly, ld⟩ := L
 obtain ⟨mk, mv, mx, my, md⟩ := M
 simp only at hlaw
 by_cases hk : lk = 0 ∨ mk = 0
 · obtain ⟨f1, f2, f3⟩ := hlaw.1 hk
   have hl0 : lk = 0 := by omega
   have hm0 : mk = 0 := by omega
   subst hl0 hm0 f2
   obtain ⟨q, rfl⟩ : ∃ q, lv = ofQ q := ⟨qOf lv, okF_eq f3⟩
   have zq : (szQ q : Int) ≤ 262144 := ho.1
   rw [qOf_ofQ] at *
   have kn := rnegF_c (-q) (by rw [szQ_neg]; omega)
   rw [show -(-q) = q by grind] at kn
   have ks := (rsameF_c (ofQ q) (ofQ q) (by rw [szQ_ofQ]; omega)).toN rfl
   rw [sameF_self] at ks
   refine Contract.ofA (CallA.inline Tryz.func5 rfl (by kernel_rfl) (by kernel_rfl) (by kernel_rfl) ?_)
   rw [Tryz.ntmps5]
   exact aGo hres trivial
 · have g1 : (lk == 0) = false := by simp; omega
   have g2 : (mk == 0) = false := by simp; omega
   have h12 := hlaw.2 (by omega) (by omega)
   by_cases h1 : lk = 1
   · subst h1
     refine Contract.ofA (CallA.inline Tryz.func5 rfl (by kernel_rfl) (by kernel_rfl) (by kernel_rfl) ?_)
     rw [Tryz.ntmps5]
     exact aGo (cj3 hres g1 g2) trivial
   · have hm1 : mk = 1 := by omega
     subst hm1
     have g3 : (lk == 1) = false := by simp; omega
     refine Contract.ofA (CallA.inline Tryz.func5 rfl (by kernel_rfl) (by kernel_rfl) (by kernel_rfl) ?_)
     rw [Tryz.ntmps5]
     exact aGo (cj4 hres g1 g2 g3) trivial
end Go.Proofs.YtkddoopknapemaaGreat
