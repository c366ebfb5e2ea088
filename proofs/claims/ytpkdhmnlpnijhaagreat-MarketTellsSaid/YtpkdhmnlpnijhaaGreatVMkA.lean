/-
  Layer 44, plain: a supply, offers, shares and prices: weak duality, and what equality says of each offer and material.
-/
import Derived.Test.YtpkdhmnlpnijhaaGreatVSimA
import Derived.Test.YtpkdhmnlpnijhaaGreatVSd
namespace Go.Proofs.YtpkdhmnlpnijhaaGreat
set_option linter.unusedVariables false
set_option linter.unusedSimpArgs false
set_option linter.unusedSectionVars false
open Go Go.RowKit
set_option maxRecDepth 100000
structure Mkt where
 n : Nat
 m : Nat
 W : Nat → Nat → Rat
 P : Nat → Rat
 S : Nat → Rat
def max0 (q : Rat) : Rat := if 0 < q then q else 0
theorem max0_ge (q : Rat) : q ≤ max0 q ∧ 0 ≤ max0 q := by unfold max0; split <;> constructor <;> grind
theorem max0_of {q r : Rat} (h1 : q ≤ r) (h2 : 0 ≤ r) : max0 q ≤ r := by unfold max0; split <;> grind
namespace Mkt
variable (M : Mkt)
def used (X : Nat → Rat) (k : Nat) : Rat := sumN M.n fun i => X i * M.W i k
def cost (Y : Nat → Rat) (i : Nat) : Rat := sumN M.m fun k => Y k * M.W i k
def worth (X : Nat → Rat) : Rat := sumN M.n fun i => X i * M.P i
def paid (Y : Nat → Rat) : Rat := sumN M.m fun k => Y k * M.S k
def bound (Y : Nat → Rat) : Rat := M.paid Y + sumN M.n fun i => max0 (M.P i - M.cost Y i)
structure Div (X : Nat → Rat) : Prop where
 lo : ∀ i, i < M.n → 0 ≤ X i
 hi : ∀ i, i < M.n → X i ≤ 1
 sup : ∀ k, k < M.m → M.used X k ≤ M.S k
variable {M}
theorem pay_swap (X Y : Nat → Rat) : sumN M.n (fun i => X i * M.cost Y i) = sumN M.m fun k => Y k * M.used X k := by
 have e1 : (fun i => X i * M.cost Y i) = fun i => sumN M.m fun k => X i * (Y k * M.W i k) := funext fun i => by unfold cost; rw [sumN_mul]
 have e2 : (fun k => Y k * M.used X k) = fun k => sumN M.n fun i => X i * (Y k * M.W i k) := funext fun k => by
  unfold used; rw [← sumN_mul]; exact sumN_congr _ fun i _ => by grind
 rw [e1, e2, sumN_swap]
theorem gap (X Y : Nat → Rat) : M.bound Y - M.worth X = sumN M.m (fun k => Y k * (M.S k - M.used X k)) + sumN M.n (fun i => max0 (M.P i - M.cost Y i) - X i * (M.P i - M.cost Y i)) := by
 have h := pay_swap (M := M) X Y
 have e1 : sumN M.m (fun k => Y k * (M.S k - M.used X k)) = M.paid Y - sumN M.m fun k => Y k * M.used X k := by
  rw [show (fun k => Y k * (M.S k - M.used X k)) = fun k => Y k * M.S k - Y k * M.used X k from funext fun k => by grind, sumN_sub]; rfl
 have e2 : sumN M.n (fun i => max0 (M.P i - M.cost Y i) - X i * (M.P i - M.cost Y i)) = (sumN M.n fun i => max0 (M.P i - M.cost Y i)) - (M.worth X - sumN M.n fun i => X i * M.cost Y i) := by
  rw [sumN_sub]
  have : sumN M.n (fun i => X i * (M.P i - M.cost Y i)) = M.worth X - sumN M.n fun i => X i * M.cost Y i := by
   rw [show (fun i => X i * (M.P i - M.cost Y i)) = fun i => X i * M.P i - X i * M.cost Y i from funext fun i => by grind, sumN_sub]; rfl
  rw [this]
 rw [e1, e2, h]
 unfold bound
 grind
theorem part_mat {X Y : Nat → Rat} (hX : M.Div X) (hY : ∀ k, k < M.m → 0 ≤ Y k) {k : Nat} (hk : k < M.m) : 0 ≤ Y k * (M.S k - M.used X k) :=
 Rat.mul_nonneg (hY k hk) (by have := hX.sup k hk; grind)
theorem part_off {X Y : Nat → Rat} (hX : M.Div X) {i : Nat} (hi : i < M.n) : 0 ≤ max0 (M.P i - M.cost Y i) - X i * (M.P i - M.cost Y i) := by
 have h1 := hX.lo i hi
 have h2 := hX.hi i hi
 generalize M.P i - M.cost Y i = g
 unfold max0
 split
 · have := Rat.mul_nonneg (a := 1 - X i) (b := g) (by grind) (by grind); grind
 · have := Rat.mul_nonneg (a := X i) (b := -g) h1 (by grind); grind
theorem weak {X Y : Nat → Rat} (hX : M.Div X) (hY : ∀ k, k < M.m → 0 ≤ Y k) : M.worth X ≤ M.bound Y := by
 have h := gap (M := M) X Y
 have a := sumN_nonneg (f := fun k => Y k * (M.S k - M.used X k)) (n := M.m) fun k hk => part_mat hX hY hk
 have b := sumN_nonneg (f := fun i => max0 (M.P i - M.cost Y i) - X i * (M.P i - M.cost Y i)) (n := M.n) fun i hi => part_off hX hi
 grind
theorem sumN_zero_each {f : Nat → Rat} : ∀ {n : Nat}, (∀ j, j < n → 0 ≤ f j) → sumN n f = 0 → ∀ j, j < n → f j = 0
 | 0, _, _, j, hj => absurd hj (Nat.not_lt_zero _)
 | n + 1, h0, h, j, hj => by
   have a := sumN_nonneg (f := f) (n := n) fun i hi => h0 i (by omega)
   have b := h0 n (by omega)
   simp only [sumN] at h
   by_cases e : j = n
   · subst e; grind
   · exact sumN_zero_each (n := n) (fun i hi => h0 i (by omega)) (by grind) j (by omega)
section best
variable {X Y : Nat → Rat} (hX : M.Div X) (hY : ∀ k, k < M.m → 0 ≤ Y k) (he : M.worth X = M.bound Y)
include hX hY he
theorem each : (∀ k, k < M.m → Y k * (M.S k - M.used X k) = 0) ∧ ∀ i, i < M.n → max0 (M.P i - M.cost Y i) = X i * (M.P i - M.cost Y i) := by
 have h := gap (M := M) X Y
 have a := sumN_nonneg (f := fun k => Y k * (M.S k - M.used X k)) (n := M.m) fun k hk => part_mat hX hY hk
 have b := sumN_nonneg (f := fun i => max0 (M.P i - M.cost Y i) - X i * (M.P i - M.cost Y i)) (n := M.n) fun i hi => part_off hX hi
 refine ⟨sumN_zero_each (fun k hk => part_mat hX hY hk) (by grind), fun i hi => ?_⟩
 have := sumN_zero_each (f := fun i => max0 (M.P i - M.cost Y i) - X i * (M.P i - M.cost Y i)) (fun i hi => part_off hX hi) (by grind) i hi
 grind
theorem best {Z : Nat → Rat} (hZ : M.Div Z) : M.worth Z ≤ M.worth X := by rw [he]; exact weak hZ hY
theorem served {i : Nat} (hi : i < M.n) (h : 0 < X i) : M.cost Y i ≤ M.P i := by
 have e := (each hX hY he).2 i hi
 have g := max0_ge (M.P i - M.cost Y i)
 by_cases hc : M.cost Y i ≤ M.P i
 · exact hc
 · have := Rat.mul_pos (a := X i) (b := M.cost Y i - M.P i) h (by grind)
   grind
theorem unserved {i : Nat} (hi : i < M.n) (h : X i < 1) : M.P i ≤ M.cost Y i := by
 have e := (each hX hY he).2 i hi
 have g := max0_ge (M.P i - M.cost Y i)
 by_cases hc : M.P i ≤ M.cost Y i
 · exact hc
 · have := Rat.mul_pos (a := 1 - X i) (b := M.P i - M.cost Y i) (by grind) (by grind)
   grind
theorem leftover {k : Nat} (hk : k < M.m) (h : M.used X k < M.S k) : Y k = 0 := by
 have e := (each hX hY he).1 k hk
 by_cases h0 : Y k = 0
 · exact h0
 · have := Rat.mul_pos (a := Y k) (b := M.S k - M.used X k) (by have := hY k hk; grind) (by grind)
   grind
end best
end Mkt
structure OffD where
 wants : List Int
 price : Int
def mkt (supply : List Int) (offers : List OffD) : Mkt :=
 { n := offers.length, m := supply.length
   W := fun i k => ((((offers[i]?).map OffD.wants).getD [])[k]?.getD 0 : Int)
   P := fun i => (((offers[i]?).map OffD.price).getD 0 : Int)
   S := fun k => (supply[k]?.getD 0 : Int) }
def supW (M : Mkt) (k : Nat) : RowD := ⟨termsOf M.n fun i => M.W i k, 1, ofQ (M.S k)⟩
def oneW (i : Nat) : RowD := ⟨[⟨(i : Int), ofQ 1⟩], 1, ofQ 1⟩
def sysM (M : Mkt) : SysD := ⟨M.n, (List.range M.m).map (supW M) ++ (List.range M.n).map oneW⟩
def goalM (M : Mkt) : List TermD := termsOf M.n fun i => -(M.P i)
section
variable {M : Mkt}
theorem sysM_n : (sysM M).n.toNat = M.n := by simp only [sysM]; omega
theorem sysM_len : (sysM M).r.length = M.m + M.n := by simp [sysM]
theorem sysM_sup {k : Nat} (h : k < M.m) : (sysM M).r[k]? = some (supW M k) := by
 unfold sysM
 rw [List.getElem?_append_left (by simpa using h), List.getElem?_map, List.getElem?_range h]; rfl
theorem sysM_one {i : Nat} (h : i < M.n) : (sysM M).r[M.m + i]? = some (oneW i) := by
 unfold sysM
 rw [List.getElem?_append_right (by simp), List.length_map, List.length_range, show M.m + i - M.m = i by omega, List.getElem?_map, List.getElem?_range h]; rfl
theorem sysM_cases {j : Nat} {w : RowD} (h : (sysM M).r[j]? = some w) : (j < M.m ∧ w = supW M j) ∨ ∃ i, i < M.n ∧ j = M.m + i ∧ w = oneW i := by
 have hj := (List.getElem?_eq_some_iff.1 h).1
 rw [sysM_len] at hj
 by_cases h1 : j < M.m
 · rw [sysM_sup h1] at h; exact .inl ⟨h1, (Option.some.inj h).symm⟩
 · obtain ⟨i, rfl⟩ : ∃ i, j = M.m + i := ⟨j - M.m, by omega⟩
   rw [sysM_one (by omega)] at h
   exact .inr ⟨i, by omega, rfl, (Option.some.inj h).symm⟩
theorem one_rt {i n : Nat} (h : i < n) : rightT [⟨(i : Int), ofQ 1⟩] n = true := by
 simp only [rightT, Bool.and_eq_true, decide_eq_true_eq]
 exact ⟨by omega, goR_cons.2 ⟨by show (-1 : Int) < i; omega, by show (i : Int) < n; omega, sgnD_ofQ_ne (by decide +kernel), rfl⟩⟩
theorem sysM_right (hn : M.n ≤ 700) (hm : M.m ≤ 700) : rightS (sysM M) = true := by
 simp only [rightS, Bool.and_eq_true, decide_eq_true_eq]
 refine ⟨⟨⟨by simp only [sysM]; omega, by simp only [sysM]; omega⟩, by rw [sysM_len]; omega⟩, List.all_eq_true.2 fun w hw => ?_⟩
 obtain ⟨j, hj⟩ := List.getElem?_of_mem hw
 simp only [rightW, Bool.and_eq_true, decide_eq_true_eq]
 rcases sysM_cases hj with ⟨_, rfl⟩ | ⟨i, hi, _, rfl⟩
 · exact ⟨⟨⟨termsOf_right (by simp only [sysM]; omega), show (0 : Int) ≤ 1 by decide⟩, show (1 : Int) < 3 by decide⟩, okF_ofQ _⟩
 · exact ⟨⟨⟨one_rt hi, show (0 : Int) ≤ 1 by decide⟩, show (1 : Int) < 3 by decide⟩, okF_ofQ _⟩
theorem goalM_right : rightT (goalM M) (sysM M).n = true := termsOf_right (by simp only [sysM]; omega)
theorem coef_one (i v : Nat) : coefT [⟨(i : Int), ofQ 1⟩] v = if v = i then 1 else 0 := by
 simp only [coefT, dotS, indI, qOf_ofQ]
 by_cases h : v = i
 · subst h; rw [if_pos rfl, if_pos rfl]; grind
 · rw [if_neg (by omega), if_neg h]; grind
theorem sysM_hold (hn : M.n ≤ 700) (hm : M.m ≤ 700) {X : Nat → Rat} (h0 : ∀ i, i < M.n → 0 ≤ X i) : holdsS (sysM M) (fracsOf M.n X) = true ↔ M.Div X := by
 have h := hold_iff (s := sysM M) (sysM_right hn hm) (X := X) (by rw [sysM_n]; exact h0)
 rw [sysM_n] at h
 rw [h]
 have eS : ∀ k, sumN M.n (fun v => coefT (supW M k).t v * X v) = M.used X k := fun k => sumN_congr _ fun v hv => by
  unfold supW; rw [termsOf_coef, if_pos hv]; grind
 have eO : ∀ i, i < M.n → sumN M.n (fun v => coefT (oneW i).t v * X v) = X i := fun i hi => by
  rw [show (fun v => coefT (oneW i).t v * X v) = fun v => if v = i then X i else 0 from funext fun v => by
   unfold oneW; rw [coef_one]; split
   · rename_i e; subst e; grind
   · grind, sumN_one, if_pos hi]
 constructor
 · intro h
   refine ⟨h0, fun i hi => ?_, fun k hk => ?_⟩
   · have := h _ _ (sysM_one hi)
     rw [eO i hi] at this
     simp only [oneW, qOf_ofQ] at this
     rw [fitsK_iff (show (0 : Int) ≤ 1 by decide) (show (1 : Int) < 3 by decide)] at this
     have := this.2.1 rfl; grind
   · have := h _ _ (sysM_sup hk)
     rw [eS k] at this
     simp only [supW, qOf_ofQ] at this
     rw [fitsK_iff (show (0 : Int) ≤ 1 by decide) (show (1 : Int) < 3 by decide)] at this
     have := this.2.1 rfl; grind
 · intro h j w hw
   rcases sysM_cases hw with ⟨hk, rfl⟩ | ⟨i, hi, _, rfl⟩
   · rw [eS j]
     simp only [supW, qOf_ofQ]
     rw [fitsK_iff (show (0 : Int) ≤ 1 by decide) (show (1 : Int) < 3 by decide)]
     exact ⟨fun e => absurd e (by decide), fun _ => by have := h.sup j hk; grind, fun e => absurd e (by decide)⟩
   · rw [eO i hi]
     simp only [oneW, qOf_ofQ]
     rw [fitsK_iff (show (0 : Int) ≤ 1 by decide) (show (1 : Int) < 3 by decide)]
     exact ⟨fun e => absurd e (by decide), fun _ => by have := h.hi i hi; grind, fun e => absurd e (by decide)⟩
theorem goalM_dot (X : Nat → Rat) : dotD (goalM M) (fracsOf M.n X) = -(M.worth X) := by
 have h : rightT (goalM M) ((M.n : Nat) : Int) = true := termsOf_right (Int.le_refl _)
 rw [dot_fracs h, sumN_congr (g := fun v => (-1) * (X v * M.P v)) _ (fun v hv => by unfold goalM; rw [termsOf_coef, if_pos hv]; grind), sumN_mul]
 unfold Mkt.worth; grind
theorem sumN_add' (f : Nat → Rat) (m : Nat) : ∀ n, sumN (m + n) f = sumN m f + sumN n fun i => f (m + i)
 | 0 => by simp only [sumN, Nat.add_zero]; grind
 | n + 1 => by rw [← Nat.add_assoc]; simp only [sumN, sumN_add' f m n]; grind
theorem sysM_low (hn : M.n ≤ 700) (hm : M.m ≤ 700) {U : Nat → Rat} (h : (lowerD (sysM M) (goalM M) (fracsOf (M.m + M.n) U)).2 = true) :
    (∀ k, k < M.m → 0 ≤ -(U k)) ∧ M.bound (fun k => -(U k)) ≤ -(mixV (sysM M).r (fracsOf (M.m + M.n) U)) := by
 have hs := sysM_right hn hm
 rw [← sysM_len] at h
 have sg := signs_of h
 have hl := (low_iff hs goalM_right sg).1 h
 rw [sysM_n, sysM_len] at hl
 have sU : ∀ j, j < M.m + M.n → U j ≤ 0 := fun j hj => by
  by_cases h1 : j < M.m
  · exact (sg j _ (sysM_sup h1)).2 rfl
  · obtain ⟨i, rfl⟩ : ∃ i, j = M.m + i := ⟨j - M.m, by omega⟩
    exact (sg _ _ (sysM_one (by omega))).2 rfl
 refine ⟨fun k hk => by have := sU k (by omega); grind, ?_⟩
 have ev : mixV (sysM M).r (fracsOf (M.m + M.n) U) = sumN M.m (fun k => U k * M.S k) + sumN M.n fun i => U (M.m + i) := by
  have := mixv_fracs (sysM M) U
  rw [sysM_len] at this
  rw [this, sumN_add']
  rw [sumN_congr (f := fun i => U i * rdV (sysM M) i) (g := fun k => U k * M.S k) M.m fun k hk => by simp only [rdV, sysM_sup hk, supW, qOf_ofQ],
   sumN_congr (f := fun i => U (M.m + i) * rdV (sysM M) (M.m + i)) (g := fun i => U (M.m + i)) M.n fun i hi => by simp only [rdV, sysM_one hi, oneW, qOf_ofQ]; grind]
 have eg : ∀ v, v < M.n → sumN (M.m + M.n) (fun i => U i * rdG (sysM M) (indI v) i) = -(M.cost (fun k => -(U k)) v) + U (M.m + v) := fun v hv => by
  rw [sumN_add']
  have e1 : sumN M.m (fun i => U i * rdG (sysM M) (indI v) i) = -(M.cost (fun k => -(U k)) v) := by
   unfold Mkt.cost
   rw [sumN_congr (g := fun k => (-1) * (-(U k) * M.W v k)) _ (fun k hk => by
    rw [rdG_ind]; simp only [rdF, sysM_sup hk, supW]; rw [termsOf_coef, if_pos hv]; grind), sumN_mul]
   grind
  have e2 : sumN M.n (fun i => U (M.m + i) * rdG (sysM M) (indI v) (M.m + i)) = U (M.m + v) := by
   rw [sumN_congr (g := fun i => if i = v then U (M.m + v) else 0) _ (fun i hi => by
    rw [rdG_ind]; simp only [rdF, sysM_one hi, oneW]; rw [coef_one]
    by_cases e : i = v
    · subst e; rw [if_pos rfl, if_pos rfl]; grind
    · rw [if_neg (fun h => e h.symm), if_neg e]; grind), sumN_one, if_pos hv]
  rw [e1, e2]
 rw [ev]
 have hz : sumN M.n (fun i => max0 (M.P i - M.cost (fun k => -(U k)) i)) ≤ sumN M.n fun i => -(U (M.m + i)) := by
  refine sumN_le _ fun i hi => max0_of ?_ (by have := sU (M.m + i) (by omega); grind)
  have := hl i hi
  rw [eg i hi] at this
  unfold goalM at this
  rw [termsOf_coef, if_pos hi] at this
  grind
 have ep : M.paid (fun k => -(U k)) = -(sumN M.m fun k => U k * M.S k) := by
  unfold Mkt.paid
  rw [show (fun k => -(U k) * M.S k) = fun k => (-1) * (U k * M.S k) from funext fun k => by grind, sumN_mul]; grind
 have en : sumN M.n (fun i => -(U (M.m + i))) = -(sumN M.n fun i => U (M.m + i)) := by
  rw [show (fun i => -(U (M.m + i))) = fun i => (-1) * U (M.m + i) from funext fun i => by grind, sumN_mul]; grind
 unfold Mkt.bound
 rw [ep]
 rw [en] at hz
 grind
theorem sysM_best (hn : M.n ≤ 700) (hm : M.m ≤ 700) (hS : ∀ k, k < M.m → 0 ≤ M.S k) {o : OptD} (h : checkD (sysM M) (goalM M) o = true) :
    o.k = 0 ∧ o.x.length = M.n ∧ o.y.length = M.m + M.n ∧ okP o.x = true ∧ okP o.y = true ∧ M.Div (fun i => atP o.x i) ∧ (∀ k, k < M.m → 0 ≤ -(atP o.y k)) ∧ M.worth (fun i => atP o.x i) = M.bound (fun k => -(atP o.y k)) ∧ o.v = ofQ (-(M.worth fun i => atP o.x i)) := by
 have hs := sysM_right (M := M) hn hm
 have z0 : holdsS (sysM M) (fracsOf M.n fun _ => 0) = true := by
  refine (sysM_hold hn hm fun _ _ => Rat.le_refl).2 ⟨fun _ _ => Rat.le_refl, fun _ _ => by decide +kernel, fun k hk => ?_⟩
  have : M.used (fun _ => 0) k = 0 := by
   unfold Mkt.used
   rw [show (fun i => (0 : Rat) * M.W i k) = fun _ => 0 from funext fun i => by grind, sumN_zero]
  rw [this]; exact hS k hk
 rcases check_cases h with ⟨h0, a1, a2, a3, a4, _⟩ | ⟨_, a1, _⟩ | ⟨_, a1, a2, _⟩
 · have hx := holdsS_iff.1 a2
   have hy := lower_iff.1 a1
   have ly : o.y.length = M.m + M.n := by rw [hy.2.1, sysM_len]
   have lx : o.x.length = M.n := by have := hx.2.1; simp only [sysM] at this; omega
   have ex := list_fracs hx.2.2.1
   have ey := list_fracs hy.2.2.1
   rw [lx] at ex
   rw [ly] at ey
   rw [ex] at a2 a3 a4
   rw [ey] at a1 a4
   have x0 : ∀ i, i < M.n → 0 ≤ (fun u : Nat => atP o.x u) i := fun i hi => nonneg_of (by rw [← ex]; exact hx.2.2.2.1) hi
   have hD := (sysM_hold hn hm x0).1 a2
   obtain ⟨u1, u2⟩ := sysM_low hn hm a1
   rw [goalM_dot] at a3 a4
   have hw := Mkt.weak (M := M) hD u1
   exact ⟨h0, lx, ly, hx.2.2.1, hy.2.2.1, hD, u1, by grind, a3⟩
 · rw [refutes_no a1] at z0; cases z0
 · exfalso
   obtain ⟨_, _, ld, od, nd, rd, hneg⟩ := rayD_iff.1 a2
   have lD : o.d.length = M.n := by simp only [sysM] at ld; omega
   have ed := list_fracs od
   rw [lD] at ed
   have nd' : nonneg (fracsOf M.n fun u => atP o.d u) = true := by rw [← ed]; exact nd
   have d0 : ∀ i, i < M.n → 0 ≤ atP o.d (i : Nat) := fun i hi => nonneg_of (n := M.n) (X := fun u => atP o.d u) nd' hi
   have dz : ∀ i, i < M.n → atP o.d (i : Nat) = 0 := fun i hi => by
    have h1 := List.all_eq_true.1 rd (oneW i) (List.mem_of_getElem? (sysM_one hi))
    simp only [oneW] at h1
    rw [fitsK_iff (show (0 : Int) ≤ 1 by decide) (show (1 : Int) < 3 by decide)] at h1
    have h2 := h1.2.1 rfl
    have h3 := d0 i hi
    have h4 : dotD [⟨(i : Int), ofQ 1⟩] o.d = atP o.d (i : Nat) := by simp [dotD, qOf_ofQ]; grind
    rw [h4] at h2
    grind
   rw [sgQ_lt, ed, goalM_dot] at hneg
   have : M.worth (fun u => atP o.d u) = 0 := by
    unfold Mkt.worth
    rw [sumN_congr (g := fun _ => 0) _ (fun i hi => by show atP o.d (i : Nat) * M.P i = 0; rw [dz i hi]; grind), sumN_zero]
   grind
end
namespace Mkt
variable {M : Mkt}
structure Best (M : Mkt) (X Y : Nat → Rat) : Prop where
 x : M.Div X
 y : ∀ k, k < M.m → 0 ≤ Y k
 e : M.worth X = M.bound Y
theorem Best.top {X Y Z : Nat → Rat} (h : Best M X Y) (hZ : M.Div Z) : M.worth Z ≤ M.worth X := by rw [h.e]; exact weak hZ h.y
theorem Best.same {X Y Z V : Nat → Rat} (h : Best M X Y) (k : Best M Z V) : M.worth X = M.worth Z := by
 have a := h.top k.x
 have b := k.top h.x
 grind
theorem worth_le {X : Nat → Rat} (hP : ∀ i, i < M.n → 0 ≤ M.P i) (h : M.Div X) : M.worth X ≤ sumN M.n M.P :=
 sumN_le _ fun i hi => by
  have := Rat.mul_nonneg (a := 1 - X i) (b := M.P i) (by have := h.hi i hi; grind) (hP i hi)
  grind
theorem worth_one : M.worth (fun _ => 1) = sumN M.n M.P := sumN_congr _ fun i _ => by grind
theorem used_one (k : Nat) : M.used (fun _ => 1) k = sumN M.n fun i => M.W i k := sumN_congr _ fun i _ => by grind
theorem enough {X Y : Nat → Rat} (hP : ∀ i, i < M.n → 0 ≤ M.P i) (hE : ∀ k, k < M.m → sumN M.n (fun i => M.W i k) ≤ M.S k) (h : Best M X Y) : M.worth X = sumN M.n M.P := by
 have h1 : M.Div fun _ => 1 := ⟨fun _ _ => by decide +kernel, fun _ _ => Rat.le_refl, fun k hk => by rw [used_one]; exact hE k hk⟩
 have a := h.top h1
 rw [worth_one] at a
 have b := worth_le hP h.x
 grind
end Mkt
end Go.Proofs.YtpkdhmnlpnijhaaGreat
