/-
  Dictionaries of a linear system, plain: exchanges keep the solutions; the choice of row and column excludes that a variable leaves and enters.
-/
import Derived.Test.YtpkdhmnlpnijhaaGreatVDualP
namespace Go.Proofs.YtpkdhmnlpnijhaaGreat
set_option linter.unusedVariables false
set_option linter.unusedSimpArgs false
set_option linter.unusedSectionVars false
open Go Go.RowKit
structure Dic where
 m : Nat
 n : Nat
 own : Nat → Nat
 free : Nat → Nat
 v : Nat → Rat
 a : Nat → Nat → Rat
 g : Nat → Rat
 z : Rat
theorem sumN_split (f : Nat → Rat) {s : Nat} : ∀ n, s < n → sumN n f = f s + sumN n (fun j => if j = s then 0 else f j)
 | 0, h => absurd h (Nat.not_lt_zero _)
 | n + 1, h => by
   simp only [sumN]
   by_cases e : n = s
   · subst e
     rw [if_pos rfl, sumN_congr (f := fun j => if j = n then 0 else f j) (g := f) n (fun i hi => if_neg (by omega))]; grind
   · rw [if_neg e, sumN_split f (s := s) n (by omega)]; grind
theorem sumN_pos {f : Nat → Rat} {n s : Nat} (hs : s < n) (h0 : 0 < f s) (h : ∀ j, j < n → 0 ≤ f j) : 0 < sumN n f := by
 rw [sumN_split f n hs]
 have h2 : sumN n (fun _ => 0) ≤ sumN n (fun j => if j = s then 0 else f j) := sumN_le n fun j hj => by
  split
  · exact Rat.le_refl
  · exact h j hj
 rw [sumN_zero] at h2; grind
theorem sumN_nonneg {f : Nat → Rat} {n : Nat} (h : ∀ j, j < n → 0 ≤ f j) : 0 ≤ sumN n f := by
 have h2 : sumN n (fun _ => 0) ≤ sumN n f := sumN_le n h
 rwa [sumN_zero] at h2
theorem sumN_sub (f g : Nat → Rat) (n : Nat) : sumN n (fun i => f i - g i) = sumN n f - sumN n g := by
 have h : (fun i => f i - g i) = fun i => f i + (-1) * g i := by funext i; grind
 rw [h, sumN_add, sumN_mul]; grind
namespace Dic
def up {α : Type} (f : Nat → α) (k : Nat) (x : α) : Nat → α := fun i => if i = k then x else f i
def ex (d : Dic) (r s : Nat) : Dic :=
 { d with
   own := up d.own r (d.free s), free := up d.free s (d.own r)
   v := fun i => if i = r then d.v r / d.a r s else d.v i - d.a i s * (d.v r / d.a r s)
   a := fun i j => if i = r then (if j = s then 1 / d.a r s else d.a r j / d.a r s) else if j = s then 0 - d.a i s * (1 / d.a r s) else d.a i j - d.a i s * (d.a r j / d.a r s)
   g := fun j => if j = s then 0 - d.g s * (1 / d.a r s) else d.g j - d.g s * (d.a r j / d.a r s)
   z := d.z + d.g s * (d.v r / d.a r s) }
def Row (d : Dic) (k : Rat) (x : Nat → Rat) (i : Nat) : Prop := x (d.own i) = d.v i * k - sumN d.n fun j => d.a i j * x (d.free j)
def Sol (d : Dic) (k : Rat) (x : Nat → Rat) : Prop := ∀ i, i < d.m → d.Row k x i
def obj (d : Dic) (k : Rat) (x : Nat → Rat) : Rat := d.z * k + sumN d.n fun j => d.g j * x (d.free j)
structure Part (d : Dic) : Prop where
 own_lt : ∀ i, i < d.m → d.own i < d.n + d.m
 free_lt : ∀ j, j < d.n → d.free j < d.n + d.m
 own_inj : ∀ i i', i < d.m → i' < d.m → d.own i = d.own i' → i = i'
 free_inj : ∀ j j', j < d.n → j' < d.n → d.free j = d.free j' → j = j'
 apart : ∀ i j, i < d.m → j < d.n → d.own i ≠ d.free j
 all : ∀ q, q < d.n + d.m → (∃ i, i < d.m ∧ d.own i = q) ∨ ∃ j, j < d.n ∧ d.free j = q
theorem ex_part {d : Dic} (h : Part d) {r s : Nat} (hr : r < d.m) (hs : s < d.n) : Part (d.ex r s) := by
 refine ⟨fun i hi => ?_, fun j hj => ?_, fun i i' hi hi' e => ?_, fun j j' hj hj' e => ?_, fun i j hi hj e => ?_, fun q hq => ?_⟩
 · simp only [ex, up] at *
   split
   · exact h.free_lt s hs
   · exact h.own_lt i hi
 · simp only [ex, up] at *
   split
   · exact h.own_lt r hr
   · exact h.free_lt j hj
 · simp only [ex, up] at *
   split at e <;> split at e
   · omega
   · exact absurd e.symm (h.apart _ _ hi' hs)
   · exact absurd e (h.apart _ _ hi hs)
   · exact h.own_inj _ _ hi hi' e
 · simp only [ex, up] at *
   split at e <;> split at e
   · omega
   · exact absurd e (h.apart _ _ hr hj')
   · exact absurd e.symm (h.apart _ _ hr hj)
   · exact h.free_inj _ _ hj hj' e
 · simp only [ex, up] at *
   split at e <;> split at e
   · exact h.apart _ _ hr hs e.symm
   · rename_i h1 h2; exact h2 (h.free_inj _ _ hj hs e.symm)
   · rename_i h1 h2; exact h1 (h.own_inj _ _ hi hr e)
   · exact h.apart _ _ hi hj e
 · simp only [ex, up] at *
   rcases h.all q hq with ⟨i, hi, e⟩ | ⟨j, hj, e⟩
   · by_cases hir : i = r
     · subst hir; exact .inr ⟨s, hs, by rw [if_pos rfl]; exact e⟩
     · exact .inl ⟨i, hi, by rw [if_neg hir]; exact e⟩
   · by_cases hjs : j = s
     · subst hjs; exact .inl ⟨r, hr, by rw [if_pos rfl]; exact e⟩
     · exact .inr ⟨j, hj, by rw [if_neg hjs]; exact e⟩
theorem ex_row_r {d : Dic} {r s : Nat} (hs : s < d.n) (hp : d.a r s ≠ 0) (k : Rat) (x : Nat → Rat) : (d.ex r s).Row k x r ↔ d.Row k x r := by
 unfold Row
 rw [sumN_split _ (d.ex r s).n (s := s) hs, sumN_split _ d.n hs]
 have e : sumN (d.ex r s).n (fun j => if j = s then 0 else (d.ex r s).a r j * x ((d.ex r s).free j)) = (1 / d.a r s) * sumN d.n (fun j => if j = s then 0 else d.a r j * x (d.free j)) := by
  rw [← sumN_mul]
  refine sumN_congr _ fun j _ => ?_
  by_cases h : j = s
  · rw [if_pos h, if_pos h]; grind
  · rw [if_neg h, if_neg h]; simp only [ex, up, if_neg h, if_pos]; grind
 rw [e]
 simp only [ex, up, if_pos]
 have h1 : d.a r s * (1 / d.a r s) = 1 := by grind
 grind
theorem ex_row {d : Dic} {r s i : Nat} (hs : s < d.n) (hp : d.a r s ≠ 0) (hi : i ≠ r) {k : Rat} {x : Nat → Rat} (hx : d.Row k x r) : (d.ex r s).Row k x i ↔ d.Row k x i := by
 unfold Row at hx ⊢
 rw [sumN_split _ d.n hs] at hx
 rw [sumN_split _ (d.ex r s).n (s := s) hs, sumN_split _ d.n hs]
 have e : sumN (d.ex r s).n (fun j => if j = s then 0 else (d.ex r s).a i j * x ((d.ex r s).free j)) = sumN d.n (fun j => if j = s then 0 else d.a i j * x (d.free j)) - d.a i s * (1 / d.a r s) * sumN d.n (fun j => if j = s then 0 else d.a r j * x (d.free j)) := by
  rw [← sumN_mul, ← sumN_sub]
  refine sumN_congr _ fun j _ => ?_
  by_cases h : j = s
  · rw [if_pos h, if_pos h, if_pos h]; grind
  · rw [if_neg h, if_neg h, if_neg h]; simp only [ex, up, if_neg h, if_neg hi]; grind
 rw [e]
 simp only [ex, up, if_pos, if_neg hi]
 have h1 : d.a r s * (1 / d.a r s) = 1 := by grind
 grind
theorem ex_sol {d : Dic} {r s : Nat} (hr : r < d.m) (hs : s < d.n) (hp : d.a r s ≠ 0) (k : Rat) (x : Nat → Rat) : (d.ex r s).Sol k x ↔ d.Sol k x := by
 constructor
 · intro h i hi
   have h0 := (ex_row_r hs hp k x).1 (h r hr)
   by_cases e : i = r
   · subst e; exact h0
   · exact (ex_row hs hp e h0).1 (h i hi)
 · intro h i hi
   have h0 := h r hr
   by_cases e : i = r
   · subst e; exact (ex_row_r hs hp k x).2 h0
   · exact (ex_row hs hp e h0).2 (h i hi)
theorem ex_obj {d : Dic} {r s : Nat} (hs : s < d.n) (hp : d.a r s ≠ 0) {k : Rat} {x : Nat → Rat} (hx : d.Row k x r) : (d.ex r s).obj k x = d.obj k x := by
 unfold Row at hx
 unfold obj
 rw [sumN_split _ d.n hs] at hx
 rw [sumN_split _ (d.ex r s).n (s := s) hs, sumN_split _ d.n hs]
 have e : sumN (d.ex r s).n (fun j => if j = s then 0 else (d.ex r s).g j * x ((d.ex r s).free j)) = sumN d.n (fun j => if j = s then 0 else d.g j * x (d.free j)) - d.g s * (1 / d.a r s) * sumN d.n (fun j => if j = s then 0 else d.a r j * x (d.free j)) := by
  rw [← sumN_mul, ← sumN_sub]
  refine sumN_congr _ fun j _ => ?_
  by_cases h : j = s
  · rw [if_pos h, if_pos h, if_pos h]; grind
  · rw [if_neg h, if_neg h, if_neg h]; simp only [ex, up, if_neg h]; grind
 rw [e]
 simp only [ex, up, if_pos]
 have h1 : d.a r s * (1 / d.a r s) = 1 := by grind
 grind
open Classical in
noncomputable def posOf (n : Nat) (f : Nat → Nat) (q : Nat) : Option Nat := if h : ∃ i, i < n ∧ f i = q then some (Classical.choose h) else none
theorem posOf_some {n : Nat} {f : Nat → Nat} (hf : ∀ i i', i < n → i' < n → f i = f i' → i = i') {i : Nat} (hi : i < n) : posOf n f (f i) = some i := by
 have h : ∃ i', i' < n ∧ f i' = f i := ⟨i, hi, rfl⟩
 unfold posOf
 rw [dif_pos h]
 have := Classical.choose_spec h
 exact congrArg some (hf _ _ this.1 hi this.2)
theorem posOf_none {n : Nat} {f : Nat → Nat} {q : Nat} (h : ∀ i, i < n → f i ≠ q) : posOf n f q = none := by
 unfold posOf
 rw [dif_neg]
 rintro ⟨i, hi, e⟩; exact h i hi e
noncomputable def val (d : Dic) (k : Rat) (c : Nat → Rat) (q : Nat) : Rat :=
 match posOf d.m d.own q with
 | some i => d.v i * k - sumN d.n fun j => d.a i j * c j
 | none => match posOf d.n d.free q with
   | some j => c j
   | none => 0
section
variable {d : Dic} {k : Rat} {c : Nat → Rat}
theorem val_own (h : Part d) {i : Nat} (hi : i < d.m) : d.val k c (d.own i) = d.v i * k - sumN d.n fun j => d.a i j * c j := by
 unfold val; rw [posOf_some h.own_inj hi]
theorem val_free (h : Part d) {j : Nat} (hj : j < d.n) : d.val k c (d.free j) = c j := by
 unfold val; rw [posOf_none (fun i hi => h.apart i j hi hj), posOf_some h.free_inj hj]
theorem val_sol (h : Part d) : d.Sol k (d.val k c) := by
 intro i hi
 unfold Row
 rw [val_own h hi]
 congr 1
 exact sumN_congr _ fun j hj => by rw [val_free h hj]
theorem val_obj (h : Part d) : d.obj k (d.val k c) = d.z * k + sumN d.n fun j => d.g j * c j := by
 unfold obj
 congr 1
 exact sumN_congr _ fun j hj => by rw [val_free h hj]
end
noncomputable def base (d : Dic) : Nat → Rat := d.val 1 fun _ => 0
noncomputable def dir (d : Dic) (s : Nat) : Nat → Rat := d.val 0 fun j => if j = s then 1 else 0
section
variable {d : Dic}
theorem base_own (h : Part d) {i : Nat} (hi : i < d.m) : d.base (d.own i) = d.v i := by
 unfold base
 rw [val_own h hi, show (fun j => d.a i j * (0 : Rat)) = fun _ => 0 by funext j; grind, sumN_zero]; grind
theorem base_free (h : Part d) {j : Nat} (hj : j < d.n) : d.base (d.free j) = 0 := val_free h hj
theorem sumN_at (f : Nat → Rat) {n s : Nat} (hs : s < n) : sumN n (fun j => f j * if j = s then 1 else 0) = f s := by
 have e : (fun j => f j * if j = s then (1 : Rat) else 0) = fun j => if j = s then f s else 0 := by
  funext j
  by_cases h : j = s
  · subst h; rw [if_pos rfl, if_pos rfl]; grind
  · rw [if_neg h, if_neg h]; grind
 rw [e, sumN_one, if_pos hs]
theorem dir_own (h : Part d) {i s : Nat} (hi : i < d.m) (hs : s < d.n) : d.dir s (d.own i) = - d.a i s := by
 unfold dir
 rw [val_own h hi, sumN_at _ hs]; grind
theorem dir_free (h : Part d) {j s : Nat} (hj : j < d.n) : d.dir s (d.free j) = if j = s then 1 else 0 := val_free h hj
theorem base_obj (h : Part d) : d.obj 1 d.base = d.z := by
 unfold base
 rw [val_obj h, show (fun j => d.g j * (0 : Rat)) = fun _ => 0 by funext j; grind, sumN_zero]; grind
theorem dir_obj (h : Part d) {s : Nat} (hs : s < d.n) : d.obj 0 (d.dir s) = d.g s := by
 unfold dir
 rw [val_obj h, sumN_at _ hs]; grind
end
structure Same (d e : Dic) : Prop where
 m : d.m = e.m
 n : d.n = e.n
 sol : ∀ k x, d.Sol k x ↔ e.Sol k x
 obj : ∀ k x, d.Sol k x → d.obj k x = e.obj k x
theorem Same.refl (d : Dic) : Same d d := ⟨rfl, rfl, fun _ _ => Iff.rfl, fun _ _ _ => rfl⟩
theorem Same.symm {d e : Dic} (h : Same d e) : Same e d := ⟨h.m.symm, h.n.symm, fun k x => (h.sol k x).symm, fun k x hx => (h.obj k x ((h.sol k x).2 hx)).symm⟩
theorem Same.trans {d e f : Dic} (h : Same d e) (h' : Same e f) : Same d f := ⟨h.m.trans h'.m, h.n.trans h'.n, fun k x => (h.sol k x).trans (h'.sol k x), fun k x hx => (h.obj k x hx).trans (h'.obj k x ((h.sol k x).1 hx))⟩
theorem ex_same {d : Dic} {r s : Nat} (hr : r < d.m) (hs : s < d.n) (hp : d.a r s ≠ 0) : Same d (d.ex r s) :=
 ⟨rfl, rfl, fun k x => (ex_sol hr hs hp k x).symm, fun _ _ hx => (ex_obj hs hp (hx r hr)).symm⟩
theorem ex_ex {d : Dic} {r s : Nat} (hp : d.a r s ≠ 0) : (d.ex r s).ex r s = d := by
 have hp' : (1 / d.a r s) ≠ 0 := by grind
 cases d with
 | mk m n own free v a g z =>
 simp only at hp hp'
 simp only [ex, up, if_pos, Dic.mk.injEq, true_and]
 refine ⟨?_, ?_, ?_, ?_, ?_, ?_⟩
 · funext i; by_cases h : i = r
   · subst h; simp only [up, if_pos]
   · simp only [up, if_neg h]
 · funext i; by_cases h : i = s
   · subst h; simp only [up, if_pos]
   · simp only [up, if_neg h]
 · funext i; by_cases h : i = r
   · subst h; rw [if_pos rfl]; grind
   · rw [if_neg h, if_neg h, if_neg h]; grind
 · funext i j
   by_cases h : i = r <;> by_cases h2 : j = s
   · subst h; subst h2; simp only [if_pos]; grind
   · subst h; simp only [if_pos, if_neg h2]; grind
   · subst h2; simp only [if_pos, if_neg h]; grind
   · simp only [if_neg h, if_neg h2]; grind
 · funext j
   by_cases h2 : j = s
   · subst h2; simp only [if_pos]; grind
   · simp only [if_neg h2]; grind
 · grind
structure RowStep (d : Dic) (r s : Nat) : Prop where
 hr : r < d.m
 hs : s < d.n
 v : d.v r < 0
 first : ∀ i, i < d.m → d.v i < 0 → d.own r ≤ d.own i
 goal : ∀ j, j < d.n → 0 < d.g j → d.own r < d.free j
 a : d.a r s < 0
 least : ∀ j, j < d.n → d.a r j < 0 → d.free s ≤ d.free j
structure ColStep (d : Dic) (r s : Nat) : Prop where
 hr : r < d.m
 hs : s < d.n
 g : 0 < d.g s
 first : ∀ j, j < d.n → 0 < d.g j → d.free s ≤ d.free j
 rows : ∀ i, i < d.m → d.v i < 0 → d.free s < d.own i
 a : 0 < d.a r s
 least : ∀ i, i < d.m → 0 < d.a i s → d.own r ≤ d.own i
def Step (d : Dic) (r s : Nat) : Prop := RowStep d r s ∨ ColStep d r s
theorem Step.hr {d : Dic} {r s : Nat} (h : Step d r s) : r < d.m := h.elim (·.hr) (·.hr)
theorem Step.hs {d : Dic} {r s : Nat} (h : Step d r s) : s < d.n := h.elim (·.hs) (·.hs)
theorem Step.ne {d : Dic} {r s : Nat} (h : Step d r s) : d.a r s ≠ 0 := by
 rcases h with h | h
 · have := h.a; grind
 · have := h.a; grind
theorem leaving {d : Dic} (hP : Part d) {r s q : Nat} (h : Step d r s) (hq : d.own r = q) (hl : d.free s < q) :
    ∃ k y, d.Sol k y ∧ y q < 0 ∧ (∀ p, p < q → p < d.n + d.m → 0 ≤ y p) ∧ (∀ j, j < d.n → q < d.free j → y (d.free j) = 0) ∧
     ((k = 1 ∧ d.obj k y = d.z ∧ ∀ j, j < d.n → d.free j < q → d.g j ≤ 0) ∨ (k = 0 ∧ 0 < d.obj k y)) := by
 rcases h with h | h
 · refine ⟨1, d.base, val_sol hP, by rw [← hq, base_own hP h.hr]; exact h.v, fun p hp hpn => ?_, fun j hj _ => base_free hP hj, .inl ⟨rfl, base_obj hP, fun j hj hjq => ?_⟩⟩
   · rcases hP.all p hpn with ⟨i, hi, e⟩ | ⟨j, hj, e⟩
     · rw [← e, base_own hP hi]
       have := h.first i hi
       by_cases hv : d.v i < 0
       · have := this hv; omega
       · grind
     · rw [← e, base_free hP hj]; exact Rat.le_refl
   · by_cases hg : 0 < d.g j
     · have := h.goal j hj hg; omega
     · grind
 · refine ⟨0, d.dir s, val_sol hP, by rw [← hq, dir_own hP h.hr h.hs]; have := h.a; grind, fun p hp hpn => ?_, fun j hj hjq => by rw [dir_free hP hj, if_neg (fun e => by subst e; omega)], .inr ⟨rfl, by rw [dir_obj hP h.hs]; exact h.g⟩⟩
   rcases hP.all p hpn with ⟨i, hi, e⟩ | ⟨j, hj, e⟩
   · rw [← e, dir_own hP hi h.hs]
     have := h.least i hi
     by_cases hv : 0 < d.a i s
     · have := this hv; omega
     · grind
   · rw [← e, dir_free hP hj]
     split
     · grind
     · exact Rat.le_refl
theorem mul_np {a b : Rat} (ha : a ≤ 0) (hb : 0 ≤ b) : a * b ≤ 0 := by
 have := Rat.mul_nonneg (a := -a) (b := b) (by grind) hb
 grind
theorem mul_neg_neg {a b : Rat} (ha : a < 0) (hb : b < 0) : 0 < a * b := by
 have := Rat.mul_pos (a := -a) (b := -b) (by grind) (by grind)
 grind
theorem mul_pos_neg {a b : Rat} (ha : 0 < a) (hb : b < 0) : a * b < 0 := by
 have := Rat.mul_pos (a := a) (b := -b) ha (by grind)
 grind
theorem sumN_neg {f : Nat → Rat} {n s : Nat} (hs : s < n) (h0 : f s < 0) (h : ∀ j, j < n → f j ≤ 0) : sumN n f < 0 := by
 have h1 := sumN_pos (f := fun j => -f j) hs (by grind) (fun j hj => by have := h j hj; grind)
 have e : (fun j => -f j) = fun j => (-1) * f j := by funext j; grind
 rw [e, sumN_mul] at h1; grind
theorem sumN_nonpos {f : Nat → Rat} {n : Nat} (h : ∀ j, j < n → f j ≤ 0) : sumN n f ≤ 0 := by
 have h2 : sumN n f ≤ sumN n (fun _ => 0) := sumN_le n h
 rwa [sumN_zero] at h2
theorem exclusive {d e : Dic} (hd : Part d) (he : Part e) (hde : Same d e) {r s r' s' q : Nat} (h : Step d r s) (hq : d.own r = q) (hl : d.free s < q) (h' : Step e r' s') (hq' : e.free s' = q) (hl' : e.own r' < q)
    (hst : ∀ j, j < e.n → q < e.free j → ∃ j', j' < d.n ∧ d.free j' = e.free j) (hst' : ∀ j, j < d.n → q < d.free j → ∃ j', j' < e.n ∧ e.free j' = d.free j) : False := by
 obtain ⟨k, y, hy, hyq, hlow, hhigh, hk⟩ := leaving hd h hq hl
 have hye := (hde.sol k y).1 hy
 have hsz : e.n + e.m = d.n + d.m := by rw [hde.m, hde.n]
 have hz : ∀ j, j < e.n → q < e.free j → y (e.free j) = 0 := fun j hj hjq => by
  obtain ⟨j', hj', e'⟩ := hst j hj hjq
  rw [← e']; exact hhigh j' hj' (by omega)
 have hlow' : ∀ j, j < e.n → e.free j < q → 0 ≤ y (e.free j) := fun j hj hjq => hlow _ hjq (by have := he.free_lt j hj; omega)
 rcases h' with h' | h'
 · have hrow := hye r' h'.hr
   unfold Row at hrow
   have h1 := hlow _ hl' (by have := he.own_lt r' h'.hr; omega)
   have h2 : 0 < sumN e.n fun j => e.a r' j * y (e.free j) := by
    refine sumN_pos h'.hs (by rw [hq']; exact mul_neg_neg h'.a hyq) fun j hj => ?_
    rcases Nat.lt_trichotomy (e.free j) q with hjq | hjq | hjq
    · refine Rat.mul_nonneg ?_ (hlow' j hj hjq)
      by_cases ha : e.a r' j < 0
      · have := h'.least j hj ha; omega
      · grind
    · obtain rfl := he.free_inj _ _ hj h'.hs (by omega)
      rw [hq']; exact Rat.le_of_lt (mul_neg_neg h'.a hyq)
    · rw [hz j hj hjq]; grind
   have h3 : e.v r' * k ≤ 0 := by
    have := h'.v
    rcases hk with ⟨rfl, _⟩ | ⟨rfl, _⟩ <;> grind
   grind
 · have hob := hde.obj k y hy
   have h2 : sumN e.n (fun j => e.g j * y (e.free j)) < 0 := by
    refine sumN_neg h'.hs (by rw [hq']; exact mul_pos_neg h'.g hyq) fun j hj => ?_
    rcases Nat.lt_trichotomy (e.free j) q with hjq | hjq | hjq
    · refine mul_np ?_ (hlow' j hj hjq)
      by_cases ha : 0 < e.g j
      · have := h'.first j hj ha; omega
      · grind
    · obtain rfl := he.free_inj _ _ hj h'.hs (by omega)
      rw [hq']; exact Rat.le_of_lt (mul_pos_neg h'.g hyq)
    · rw [hz j hj hjq]; grind
   have hoe : e.obj k y = e.z * k + sumN e.n (fun j => e.g j * y (e.free j)) := rfl
   rcases hk with ⟨rfl, hz1, hg⟩ | ⟨rfl, hz0⟩
   · have hs' := val_sol (k := 1) (c := fun _ => 0) he
     have hb := (hde.sol 1 e.base).2 hs'
     have hb1 := hde.obj 1 e.base hb
     rw [base_obj he] at hb1
     have hoe2 : d.obj 1 e.base = d.z * 1 + sumN d.n (fun j => d.g j * e.base (d.free j)) := rfl
     have h4 : sumN d.n (fun j => d.g j * e.base (d.free j)) ≤ 0 := sumN_nonpos fun j hj => by
      rcases Nat.lt_trichotomy (d.free j) q with hjq | hjq | hjq
      · refine mul_np (hg j hj hjq) ?_
        rcases he.all (d.free j) (by have := hd.free_lt j hj; omega) with ⟨i, hi, e'⟩ | ⟨j', hj', e'⟩
        · rw [← e', base_own he hi]
          by_cases hv : e.v i < 0
          · have := h'.rows i hi hv; omega
          · grind
        · rw [← e', base_free he hj']; exact Rat.le_refl
      · exact absurd (hq.trans hjq.symm) (hd.apart r j h.hr hj)
      · obtain ⟨j', hj', e'⟩ := hst' j hj hjq
        rw [← e', base_free he hj']; grind
     grind
   · grind
end Dic
namespace Dic
theorem ex_own {d : Dic} (hP : Part d) {r s : Nat} (hr : r < d.m) (hs : s < d.n) (p : Nat) : (∃ i, i < (d.ex r s).m ∧ (d.ex r s).own i = p) ↔ p = d.free s ∨ ((∃ i, i < d.m ∧ d.own i = p) ∧ p ≠ d.own r) := by
 simp only [ex, up]
 constructor
 · rintro ⟨i, hi, e⟩
   split at e
   · exact .inl e.symm
   · rename_i h
     exact .inr ⟨⟨i, hi, e⟩, fun h' => h (hP.own_inj _ _ hi hr (e.trans h'))⟩
 · rintro (rfl | ⟨⟨i, hi, e⟩, h⟩)
   · exact ⟨r, hr, by rw [if_pos rfl]⟩
   · exact ⟨i, hi, by rw [if_neg (fun h' => h (by rw [← e, h']))]; exact e⟩
theorem least_nat {p : Nat → Prop} (h : ∃ n, p n) : ∃ n, p n ∧ ∀ k, k < n → ¬ p k := by
 obtain ⟨n, hn⟩ := h
 induction n using Nat.strongRecOn with
 | ind n ih =>
   by_cases hk : ∃ k, k < n ∧ p k
   · obtain ⟨k, h1, h2⟩ := hk; exact ih k h1 h2
   · exact ⟨n, hn, fun k h1 h2 => hk ⟨k, h1, h2⟩⟩
structure Run (K : Nat) (D : Nat → Dic) (R S : Nat → Nat) : Prop where
 part : Part (D 0)
 step : ∀ k, k < K → Step (D k) (R k) (S k)
 next : ∀ k, k < K → D (k + 1) = (D k).ex (R k) (S k)
section
variable {K : Nat} {D : Nat → Dic} {R S : Nat → Nat}
theorem Run.parts (h : Run K D R S) : ∀ k, k ≤ K → Part (D k)
 | 0, _ => h.part
 | k + 1, hk => by
   rw [h.next k (by omega)]
   exact ex_part (h.parts k (by omega)) (h.step k (by omega)).hr (h.step k (by omega)).hs
theorem Run.same (h : Run K D R S) {a : Nat} : ∀ k, a + k ≤ K → Same (D a) (D (a + k))
 | 0, _ => Same.refl _
 | k + 1, hk => by
   have hs := h.step (a + k) (by omega)
   have := ex_same hs.hr hs.hs hs.ne
   rw [← h.next (a + k) (by omega)] at this
   exact (h.same k (by omega)).trans this
def InOwn (d : Dic) (p : Nat) : Prop := ∃ i, i < d.m ∧ d.own i = p
theorem Run.flip (h : Run K D R S) {k : Nat} (hk : k < K) (p : Nat) : InOwn (D (k + 1)) p ↔ p = (D k).free (S k) ∨ (InOwn (D k) p ∧ p ≠ (D k).own (R k)) := by
 unfold InOwn
 rw [h.next k hk]
 exact ex_own (h.parts k (by omega)) (h.step k hk).hr (h.step k hk).hs p
theorem Run.keep (h : Run K D R S) {p a : Nat} : ∀ k, a + k ≤ K → (∀ i, a ≤ i → i < a + k → (D i).own (R i) ≠ p ∧ (D i).free (S i) ≠ p) → (InOwn (D a) p ↔ InOwn (D (a + k)) p)
 | 0, _, _ => Iff.rfl
 | k + 1, hk, hne => by
   rw [h.keep k (by omega) fun i h1 h2 => hne i h1 (by omega), ← Nat.add_assoc, h.flip (by omega)]
   obtain ⟨h1, h2⟩ := hne (a + k) (by omega) (by omega)
   constructor
   · intro h3; exact .inr ⟨h3, fun e => h1 e.symm⟩
   · rintro (e | h3)
     · exact absurd e.symm h2
     · exact h3.1
theorem not_own {d : Dic} (h : Part d) {p : Nat} (hp : p < d.n + d.m) : ¬ InOwn d p ↔ ∃ j, j < d.n ∧ d.free j = p := by
 constructor
 · intro hn
   exact (h.all p hp).resolve_left hn
 · rintro ⟨j, hj, rfl⟩ ⟨i, hi, e⟩
   exact h.apart i j hi hj e
theorem Run.exclude (h : Run K D R S) {q a b x y : Nat} (hab : b ≤ K) (hax : a ≤ x) (hxb : x < b) (hay : a ≤ y) (hyb : y < b) (hle : ∀ k, a ≤ k → k < b → (D k).own (R k) ≤ q ∧ (D k).free (S k) ≤ q)
    (hx : (D x).own (R x) = q) (hy : (D y).free (S y) = q) : False := by
 have hPx := h.parts x (by omega)
 have hPy := h.parts y (by omega)
 have sx := h.step x (by omega)
 have sy := h.step y (by omega)
 have same : Same (D x) (D y) := by
  rcases Nat.le_total x y with hxy | hxy
  · have := h.same (a := x) (y - x) (by omega); rwa [show x + (y - x) = y by omega] at this
  · have := h.same (a := y) (x - y) (by omega); rw [show y + (x - y) = x by omega] at this; exact this.symm
 have stay : ∀ p, q < p → (InOwn (D x) p ↔ InOwn (D y) p) := by
  intro p hp
  rcases Nat.le_total x y with hxy | hxy
  · have := h.keep (p := p) (a := x) (y - x) (by omega) fun i h1 h2 => by have := hle i (by omega) (by omega); omega
    rwa [show x + (y - x) = y by omega] at this
  · have := h.keep (p := p) (a := y) (x - y) (by omega) fun i h1 h2 => by have := hle i (by omega) (by omega); omega
    rw [show y + (x - y) = x by omega] at this; exact this.symm
 have hsz : (D x).n + (D x).m = (D y).n + (D y).m := by rw [same.m, same.n]
 refine exclusive hPx hPy same sx hx ?_ sy hy ?_ ?_ ?_
 · have h1 := (hle x hax hxb).2
   have h2 := hPx.apart (R x) (S x) sx.hr sx.hs
   omega
 · have h1 := (hle y hay hyb).1
   have h2 := hPy.apart (R y) (S y) sy.hr sy.hs
   omega
 · intro j hj hjq
   have hlt := hPy.free_lt j hj
   refine (not_own hPx (by omega)).1 ?_
   rw [stay _ hjq]
   exact (not_own hPy hlt).2 ⟨j, hj, rfl⟩
 · intro j hj hjq
   have hlt := hPx.free_lt j hj
   refine (not_own hPy (by omega)).1 ?_
   rw [← stay _ hjq]
   exact (not_own hPx hlt).2 ⟨j, hj, rfl⟩
theorem Run.stretch (h : Run K D R S) : ∀ (q a b : Nat), a ≤ b → b ≤ K → (∀ k, a ≤ k → k < b → (D k).own (R k) < q ∧ (D k).free (S k) < q) → b - a < 2 ^ q
 | 0, a, b, hab, hb, hlt => by
   rcases Nat.lt_or_ge a b with h1 | h1
   · have := hlt a (by omega) h1; omega
   · rw [Nat.pow_zero]; omega
 | q + 1, a, b, hab, hb, hlt => by
   have hle : ∀ k, a ≤ k → k < b → (D k).own (R k) ≤ q ∧ (D k).free (S k) ≤ q := fun k h1 h2 => by have := hlt k h1 h2; omega
   have h2q : 2 ^ (q + 1) = 2 ^ q + 2 ^ q := by rw [Nat.pow_succ]; omega
   have hpos : 0 < 2 ^ q := Nat.two_pow_pos q
   by_cases hev : ∃ k, a ≤ k ∧ k < b ∧ ((D k).own (R k) = q ∨ (D k).free (S k) = q)
   · obtain ⟨x, ⟨hax, hxb, hx⟩, hfirst⟩ := least_nat hev
     have l1 := h.stretch q a x hax (by omega) fun k h1 h2 => by
      have h3 := hle k h1 (by omega)
      have h4 : ¬((D k).own (R k) = q ∨ (D k).free (S k) = q) := fun h5 => hfirst k h2 ⟨h1, by omega, h5⟩
      omega
     by_cases hev2 : ∃ k, x + 1 ≤ k ∧ k < b ∧ ((D k).own (R k) = q ∨ (D k).free (S k) = q)
     · exfalso
       obtain ⟨y, ⟨hxy, hyb, hy⟩, hnext⟩ := least_nat hev2
       have sx := h.step x (by omega)
       have sy := h.step y (by omega)
       have keep := h.keep (p := q) (a := x + 1) (y - (x + 1)) (by omega) fun i h1 h2 => by
        have h4 : ¬((D i).own (R i) = q ∨ (D i).free (S i) = q) := fun h5 => hnext i (by omega) ⟨h1, by omega, h5⟩
        exact ⟨fun e => h4 (.inl e), fun e => h4 (.inr e)⟩
       rw [show x + 1 + (y - (x + 1)) = y by omega, h.flip (by omega)] at keep
       rcases hx with hx | hx
       · have hno : ¬ InOwn (D y) q := by
           rw [← keep]
           rintro (e | ⟨_, e⟩)
           · exact (h.parts x (by omega)).apart _ _ sx.hr sx.hs (hx.trans e)
           · exact e hx.symm
         rcases hy with hy | hy
         · exact hno ⟨R y, sy.hr, hy⟩
         · exact h.exclude hb hax hxb (by omega) hyb hle hx hy
       · have hyes : InOwn (D y) q := keep.1 (.inl hx.symm)
         rcases hy with hy | hy
         · exact h.exclude hb (by omega) hyb hax hxb hle hy hx
         · exact (not_own (h.parts y (by omega)) (by have := (h.parts y (by omega)).free_lt _ sy.hs; omega)).2 ⟨S y, sy.hs, hy⟩ hyes
     · have l2 := h.stretch q (x + 1) b (by omega) hb fun k h1 h2 => by
         have h3 := hle k (by omega) h2
         have h4 : ¬((D k).own (R k) = q ∨ (D k).free (S k) = q) := fun h5 => hev2 ⟨k, h1, h2, h5⟩
         omega
       omega
   · have l1 := h.stretch q a b hab hb fun k h1 h2 => by
       have h3 := hle k h1 h2
       have h4 : ¬((D k).own (R k) = q ∨ (D k).free (S k) = q) := fun h5 => hev ⟨k, h1, h2, h5⟩
       omega
     omega
theorem Run.short (h : Run K D R S) : K < 2 ^ ((D 0).n + (D 0).m) := by
 have := h.stretch ((D 0).n + (D 0).m) 0 K (by omega) (Nat.le_refl _) fun k _ hk => by
  have hP := h.parts k (by omega)
  have hs := h.same (a := 0) k (by omega)
  rw [Nat.zero_add] at hs
  have h1 := hP.own_lt _ (h.step k hk).hr
  have h2 := hP.free_lt _ (h.step k hk).hs
  rw [hs.m, hs.n]
  exact ⟨h1, h2⟩
 omega
end
end Dic
namespace Dic
def cnt (p : Nat → Bool) : Nat → Nat
 | 0 => 0
 | m + 1 => cnt p m + (if p m then 1 else 0)
theorem cnt_congr {p q : Nat → Bool} : ∀ m, (∀ i, i < m → p i = q i) → cnt p m = cnt q m
 | 0, _ => rfl
 | m + 1, h => by simp only [cnt, cnt_congr m (fun i hi => h i (by omega)), h m (by omega)]
theorem cnt_less {p q : Nat → Bool} {r : Nat} (hp : p r = true) (hq : q r = false) : ∀ m, r < m → (∀ i, i < m → i ≠ r → q i = p i) → cnt q m + 1 = cnt p m
 | 0, h, _ => absurd h (Nat.not_lt_zero _)
 | m + 1, h, he => by
   simp only [cnt]
   by_cases e : m = r
   · subst e
     rw [cnt_congr (p := q) (q := p) m (fun i hi => he i (by omega) (by omega)), hp, hq]
     simp
   · have := cnt_less hp hq m (by omega) (fun i hi => he i (by omega))
     rw [he m (by omega) e]; omega
theorem cnt_le (p : Nat → Bool) : ∀ m, cnt p m ≤ m
 | 0 => Nat.le_refl _
 | m + 1 => by have := cnt_le p m; simp only [cnt]; split <;> omega
theorem cnt_zero {p : Nat → Bool} : ∀ m, cnt p m = 0 → ∀ i, i < m → p i = false
 | 0, _, _, h => absurd h (Nat.not_lt_zero _)
 | m + 1, h, i, hi => by
   simp only [cnt] at h
   by_cases e : i = m
   · subst e; cases hp : p i
     · rfl
     · rw [hp] at h; simp at h
   · exact cnt_zero m (by omega) i (by omega)
theorem cnt_some {p : Nat → Bool} : ∀ m, 0 < cnt p m → ∃ i, i < m ∧ p i = true
 | 0, h => absurd h (Nat.not_lt_zero _)
 | m + 1, h => by
   cases hp : p m
   · simp only [cnt, hp] at h
     obtain ⟨i, hi, e⟩ := cnt_some m (by simpa using h)
     exact ⟨i, by omega, e⟩
   · exact ⟨m, by omega, hp⟩
theorem cnt_inj {f : Nat → Nat} {m : Nat} (hf : ∀ i i', i < m → i' < m → f i = f i' → i = i') : ∀ n, cnt (fun i => decide (f i < n)) m ≤ n
 | 0 => by
   rw [cnt_congr (q := fun _ => false) m (fun i _ => by simp)]
   have : ∀ k, cnt (fun _ => false) k = 0 := fun k => by induction k with
    | zero => rfl
    | succ k ih => simp only [cnt, ih]; rfl
   rw [this]; exact Nat.le_refl _
 | n + 1 => by
   have ih := cnt_inj hf n
   by_cases h : ∃ i, i < m ∧ f i = n
   · obtain ⟨r, hr, e⟩ := h
     have := cnt_less (p := fun i => decide (f i < n + 1)) (q := fun i => decide (f i < n)) (r := r) (by simp [e]) (by simp [e]) m hr (fun i hi hne => by
      have : f i ≠ n := fun h' => hne (hf _ _ hi hr (h'.trans e.symm))
      simp only [decide_eq_decide]; omega)
     omega
   · rw [cnt_congr (q := fun i => decide (f i < n)) m (fun i hi => by
       have : f i ≠ n := fun h' => h ⟨i, hi, h'⟩
       simp only [decide_eq_decide]; omega)]
     omega
structure SizeFn (sz : Rat → Nat) : Prop where
 zero : sz 0 ≤ 1
 one : sz 1 ≤ 1
 sub : ∀ a b, sz (a - b) ≤ sz a + sz b + 1
 mul : ∀ a b, sz (a * b) ≤ sz a + sz b
 div : ∀ a b, b ≠ 0 → sz (a / b) ≤ sz a + sz b
structure Sized (sz : Rat → Nat) (d : Dic) (B : Nat) : Prop where
 v : ∀ i, i < d.m → sz (d.v i) ≤ B
 a : ∀ i j, i < d.m → j < d.n → sz (d.a i j) ≤ B
 g : ∀ j, j < d.n → sz (d.g j) ≤ B
theorem ex_sized {sz : Rat → Nat} (L : SizeFn sz) {d : Dic} {r s B : Nat} (hr : r < d.m) (hs : s < d.n) (hp : d.a r s ≠ 0) (h : Sized sz d B) (hB : 1 ≤ B) : Sized sz (d.ex r s) (4 * B + 1) := by
 have hpb := h.a r s hr hs
 have h1 := L.div 1 _ hp
 have l1 := L.one
 have l0 := L.zero
 refine ⟨fun i hi => ?_, fun i j hi hj => ?_, fun j hj => ?_⟩
 · simp only [ex] at *
   have hv := L.div (d.v r) _ hp
   have hb := h.v r hr
   split
   · omega
   · have e1 := L.sub (d.v i) (d.a i s * (d.v r / d.a r s))
     have e2 := L.mul (d.a i s) (d.v r / d.a r s)
     have e3 := h.v i hi
     have e4 := h.a i s hi hs
     omega
 · simp only [ex] at *
   have hv := L.div (d.a r j) _ hp
   have hb := h.a r j hr hj
   split
   · split <;> omega
   · have e4 := h.a i s hi hs
     split
     · have e1 := L.sub 0 (d.a i s * (1 / d.a r s))
       have e2 := L.mul (d.a i s) (1 / d.a r s)
       omega
     · have e1 := L.sub (d.a i j) (d.a i s * (d.a r j / d.a r s))
       have e2 := L.mul (d.a i s) (d.a r j / d.a r s)
       have e3 := h.a i j hi hj
       omega
 · simp only [ex] at *
   have hv := L.div (d.a r j) _ hp
   have hb := h.a r j hr hj
   have e4 := h.g s hs
   split
   · have e1 := L.sub 0 (d.g s * (1 / d.a r s))
     have e2 := L.mul (d.g s) (1 / d.a r s)
     omega
   · have e1 := L.sub (d.g j) (d.g s * (d.a r j / d.a r s))
     have e2 := L.mul (d.g s) (d.a r j / d.a r s)
     have e3 := h.g j hj
     omega
structure First (d : Dic) : Prop where
 own : ∀ i, i < d.m → d.own i = d.n + i
 free : ∀ j, j < d.n → d.free j = j
theorem First.part {d : Dic} (h : First d) : Part d := by
 refine ⟨fun i hi => ?_, fun j hj => ?_, fun i i' hi hi' e => ?_, fun j j' hj hj' e => ?_, fun i j hi hj e => ?_, fun q hq => ?_⟩
 · rw [h.own i hi]; omega
 · rw [h.free j hj]; omega
 · rw [h.own i hi, h.own i' hi'] at e; omega
 · rw [h.free j hj, h.free j' hj'] at e; omega
 · rw [h.own i hi, h.free j hj] at e; omega
 · rcases Nat.lt_or_ge q d.n with h1 | h1
   · exact .inr ⟨q, h1, h.free q h1⟩
   · exact .inl ⟨q - d.n, by omega, by rw [h.own _ (by omega)]; omega⟩
def grow (B : Nat) : Nat → Nat
 | 0 => B
 | t + 1 => 4 * grow B t + 1
theorem grow_pos {B : Nat} (h : 1 ≤ B) : ∀ t, 1 ≤ grow B t
 | 0 => h
 | t + 1 => by simp only [grow]; omega
theorem sum_dir (f : Nat → Rat) (y : Nat → Rat) (n w : Nat) (hy : ∀ q, q < n → y q = if q = w then 1 else 0) : sumN n (fun q => f q * y q) = if w < n then f w else 0 := by
 rw [sumN_congr (g := fun q => if q = w then f w else 0) n (fun q hq => by
  rw [hy q hq]
  by_cases e : q = w
  · subst e; rw [if_pos rfl, if_pos rfl]; grind
  · rw [if_neg e, if_neg e]; grind), sumN_one]
theorem first_sized {sz : Rat → Nat} (L : SizeFn sz) {d0 d : Dic} (h0 : First d0) {B : Nat} (hB : 1 ≤ B) (hS : Sized sz d0 B) (hP : Part d) (hE : Same d0 d) (hown : ∀ i, i < d.m → d.n ≤ d.own i) : Sized sz d B := by
 have hm := hE.m
 have hn := hE.n
 have l0 := L.zero
 have hfree : ∀ q, q < d.n → ∃ j, j < d.n ∧ d.free j = q := fun q hq => (hP.all q (by omega)).resolve_left (by rintro ⟨i, hi, e⟩; have := hown i hi; omega)
 have hat : ∀ i, i < d.m → ∃ i0, i0 < d0.m ∧ d.own i = d0.own i0 := fun i hi => by
  have h1 := hown i hi
  have h2 := hP.own_lt i hi
  exact ⟨d.own i - d.n, by omega, by rw [h0.own _ (by omega)]; omega⟩
 have hdir : ∀ s, s < d.n → ∀ q, q < d0.n → d.dir s (d0.free q) = if q = d.free s then 1 else 0 := by
  intro s hs q hq
  rw [h0.free q hq]
  obtain ⟨j, hj, rfl⟩ := hfree q (by omega)
  rw [dir_free hP hj]
  by_cases e : j = s
  · subst e; rw [if_pos rfl, if_pos rfl]
  · rw [if_neg e, if_neg (fun h' => e (hP.free_inj _ _ hj hs h'))]
 refine ⟨fun i hi => ?_, fun i j hi hj => ?_, fun j hj => ?_⟩
 · obtain ⟨i0, hi0, e⟩ := hat i hi
   have h1 := (hE.sol 1 d.base).2 (val_sol hP) i0 hi0
   unfold Row at h1
   rw [← e, base_own hP hi, sumN_congr (g := fun _ => 0) d0.n (fun q hq => by
    rw [h0.free q hq]
    obtain ⟨j, hj, rfl⟩ := hfree q (by omega)
    rw [base_free hP hj]; grind), sumN_zero] at h1
   rw [show d.v i = d0.v i0 by grind]
   exact hS.v i0 hi0
 · obtain ⟨i0, hi0, e⟩ := hat i hi
   have h1 := (hE.sol 0 (d.dir j)).2 (val_sol hP) i0 hi0
   unfold Row at h1
   rw [← e, dir_own hP hi hj, sum_dir (fun q => d0.a i0 q) (fun q => d.dir j (d0.free q)) d0.n (d.free j) (hdir j hj)] at h1
   by_cases hlt : d.free j < d0.n
   · rw [if_pos hlt] at h1
     rw [show d.a i j = d0.a i0 (d.free j) by grind]
     exact hS.a i0 _ hi0 hlt
   · rw [if_neg hlt] at h1
     rw [show d.a i j = 0 by grind]; omega
 · have h1 := hE.obj 0 (d.dir j) ((hE.sol 0 (d.dir j)).2 (val_sol hP))
   rw [dir_obj hP hj] at h1
   unfold obj at h1
   rw [sum_dir (fun q => d0.g q) (fun q => d.dir j (d0.free q)) d0.n (d.free j) (hdir j hj)] at h1
   by_cases hlt : d.free j < d0.n
   · rw [if_pos hlt] at h1
     rw [show d.g j = d0.g (d.free j) by grind]
     exact hS.g _ hlt
   · rw [if_neg hlt] at h1
     rw [show d.g j = 0 by grind]; omega
theorem sized {sz : Rat → Nat} (L : SizeFn sz) {d0 : Dic} (h0 : First d0) {B : Nat} (hB : 1 ≤ B) (hS : Sized sz d0 B) : ∀ (t : Nat) (d : Dic), Part d → Same d0 d → cnt (fun i => decide (d.own i < d.n)) d.m = t → Sized sz d (grow B t)
 | 0, d, hP, hE, hc => first_sized L h0 hB hS hP hE fun i hi => by have := cnt_zero _ hc i hi; simp at this; omega
 | t + 1, d, hP, hE, hc => by
   obtain ⟨i, hi, hio⟩ := cnt_some (p := fun i => decide (d.own i < d.n)) d.m (by omega)
   simp only [decide_eq_true_eq] at hio
   have hn := hE.n
   obtain ⟨j, hj, hjn, hp⟩ : ∃ j, j < d.n ∧ d.n ≤ d.free j ∧ d.a i j ≠ 0 := by
    refine Classical.byContradiction fun hno => ?_
    have hx := (hE.sol 0 _).1 (val_sol (k := 0) (c := fun q => if q = d.own i then 1 else 0) h0.part) i hi
    unfold Row at hx
    have hv : ∀ q, q < d.n → d0.val 0 (fun q => if q = d.own i then 1 else 0) q = if q = d.own i then 1 else 0 := fun q hq => by
     have := val_free (k := 0) (c := fun q => if q = d.own i then 1 else 0) h0.part (j := q) (by omega)
     rwa [h0.free q (by omega)] at this
    rw [hv _ hio, if_pos rfl, sumN_congr (g := fun _ => 0) d.n (fun j hj => by
     by_cases h1 : d.n ≤ d.free j
     · have : d.a i j = 0 := Classical.byContradiction fun h2 => hno ⟨j, hj, h1, h2⟩
       rw [this]; grind
     · rw [hv _ (by omega), if_neg (fun e => hP.apart i j hi hj e.symm)]; grind), sumN_zero] at hx
    grind
   have hP1 := ex_part hP hi hj
   have hE1 := hE.trans (ex_same hi hj hp)
   have hc1 : cnt (fun k => decide ((d.ex i j).own k < (d.ex i j).n)) (d.ex i j).m = t := by
    have := cnt_less (p := fun k => decide (d.own k < d.n)) (q := fun k => decide ((d.ex i j).own k < (d.ex i j).n)) (r := i) (by simpa using hio) (by simp [ex, up]; omega) d.m hi (fun k _ hne => by simp [ex, up, hne])
    have h2 : (d.ex i j).m = d.m := rfl
    rw [h2]; omega
   have ih := sized L h0 hB hS t (d.ex i j) hP1 hE1 hc1
   have hp1 : (d.ex i j).a i j ≠ 0 := by simp only [ex, if_pos]; grind
   have := ex_sized L (d := d.ex i j) hi hj hp1 ih (grow_pos hB t)
   rw [ex_ex hp] at this
   exact this
theorem grow_mono {B : Nat} : ∀ {t u : Nat}, t ≤ u → grow B t ≤ grow B u := by
 intro t u h
 induction u with
 | zero => obtain rfl : t = 0 := by omega
           exact Nat.le_refl _
 | succ u ih =>
   by_cases e : t = u + 1
   · subst e; exact Nat.le_refl _
   · have := ih (by omega); simp only [grow]; omega
theorem Sized.mono {sz : Rat → Nat} {d : Dic} {B C : Nat} (h : Sized sz d B) (hBC : B ≤ C) : Sized sz d C := ⟨fun i hi => Nat.le_trans (h.v i hi) hBC, fun i j hi hj => Nat.le_trans (h.a i j hi hj) hBC, fun j hj => Nat.le_trans (h.g j hj) hBC⟩
theorem small {sz : Rat → Nat} (L : SizeFn sz) {d0 d : Dic} (h0 : First d0) {B : Nat} (hB : 1 ≤ B) (hS : Sized sz d0 B) (hP : Part d) (hE : Same d0 d) {t : Nat} (ht : d.n ≤ t ∨ d.m ≤ t) : Sized sz d (grow B t) := by
 refine (sized L h0 hB hS _ d hP hE rfl).mono (grow_mono ?_)
 have h1 := cnt_inj hP.own_inj d.n
 have h2 := cnt_le (fun i => decide (d.own i < d.n)) d.m
 omega
end Dic
end Go.Proofs.YtpkdhmnlpnijhaaGreat
