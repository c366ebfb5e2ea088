/-
  Layer 44, plain: one material: serving the offers one after the other, those that pay more for a kilogram first, is best.
-/
import Derived.Test.YtbnbpfjfkedbaaaPMkA
import Derived.Test.YtbnbpfjfkedbaaaPMkB
import Derived.Test.YtbnbpfjfkedbaaaPMkM
namespace Go.Proofs.Ytbnbpfjfkedbaaa
set_option linter.unusedVariables false
set_option linter.unusedSimpArgs false
set_option linter.unusedSectionVars false
open Go Go.RowKit
set_option maxRecDepth 100000
namespace Mkt
def sumL : List Nat → (Nat → Rat) → Rat
 | [], _ => 0
 | i :: l, f => f i + sumL l f
theorem sumL_perm {l k : List Nat} (h : l.Perm k) (f : Nat → Rat) : sumL l f = sumL k f := by
 induction h with
 | nil => rfl
 | cons x _ ih => simp only [sumL, ih]
 | swap x y l => simp only [sumL]; grind
 | trans _ _ a b => rw [a, b]
theorem sumL_append (l k : List Nat) (f : Nat → Rat) : sumL (l ++ k) f = sumL l f + sumL k f := by
 induction l with
 | nil => simp only [List.nil_append, sumL]; grind
 | cons x l ih => simp only [List.cons_append, sumL, ih]; grind
theorem sumL_range (f : Nat → Rat) : ∀ n, sumL (List.range n) f = sumN n f
 | 0 => rfl
 | n + 1 => by rw [List.range_succ, sumL_append, sumL_range f n]; simp only [sumL, sumN]; grind
theorem sumL_congr {f g : Nat → Rat} : ∀ {l : List Nat}, (∀ i ∈ l, f i = g i) → sumL l f = sumL l g
 | [], _ => rfl
 | i :: l, h => by
   have ih := sumL_congr (l := l) fun j hj => h j (List.mem_cons_of_mem _ hj)
   simp only [sumL, ih, h i List.mem_cons_self]
theorem sumL_zero : ∀ l : List Nat, sumL l (fun _ => 0) = 0
 | [] => rfl
 | _ :: l => by simp only [sumL, sumL_zero l]; grind
def Pays (W P : Nat → Rat) (a b : Nat) : Prop := W a = 0 ∨ (W b ≠ 0 ∧ P b * W a ≤ P a * W b)
def greedy (W P : Nat → Rat) : List Nat → Rat → Rat
 | [], _ => 0
 | i :: l, L => if W i ≤ L then P i + greedy W P l (L - W i) else L / W i * P i + greedy W P l 0
theorem greedy_zero {W P : Nat → Rat} : ∀ l : List Nat, (∀ i ∈ l, 0 < W i) → greedy W P l 0 = 0
 | [], _ => rfl
 | i :: l, h => by
   have h1 := h i (by simp)
   simp only [greedy]
   rw [if_neg (by grind), greedy_zero l fun j hj => h j (by simp [hj]), Rat.div_def]; grind
theorem greedy_best {W P : Nat → Rat} (hW : ∀ i, 0 ≤ W i) (hP : ∀ i, 0 ≤ P i) : ∀ (l : List Nat) (L : Rat), 0 ≤ L → l.Nodup → l.Pairwise (Pays W P) →
    ∃ (q : Rat) (X : Nat → Rat), 0 ≤ q ∧ (q = 0 ∨ ∃ b ∈ l, W b ≠ 0 ∧ q * W b = P b) ∧ (∀ i, 0 ≤ X i ∧ X i ≤ 1) ∧ sumL l (fun i => X i * W i) ≤ L ∧ sumL l (fun i => X i * P i) = greedy W P l L ∧ q * L + sumL l (fun i => max0 (P i - q * W i)) = greedy W P l L
 | [], L, hL, _, _ => ⟨0, fun _ => 0, Rat.le_refl, .inl rfl, fun _ => ⟨Rat.le_refl, show (0 : Rat) ≤ 1 by decide +kernel⟩, by simp only [sumL]; exact hL, rfl, by simp only [sumL, greedy]; grind⟩
 | i :: l, L, hL, hnd, hp => by
   obtain ⟨hni, hnd⟩ := List.nodup_cons.1 hnd
   obtain ⟨hpi, hp⟩ := List.pairwise_cons.1 hp
   by_cases h : W i ≤ L
   · obtain ⟨q, X, q0, qb, x0, x1, x2, x3⟩ := greedy_best hW hP l (L - W i) (by grind) hnd hp
     have ec : ∀ f : Nat → Rat, sumL l (fun j => (if j = i then 1 else X j) * f j) = sumL l fun j => X j * f j := fun f => sumL_congr fun j hj => by rw [if_neg (fun e => hni (by rw [← e]; exact hj))]
     have hq : q * W i ≤ P i := by
      rcases qb with e | ⟨b, hb, b1, b2⟩
      · rw [e]; have := hP i; grind
      · rcases hpi b hb with e | ⟨_, e⟩
        · rw [e]; have := hP i; grind
        · rw [← b2] at e
          by_cases hc : q * W i ≤ P i
          · exact hc
          · have hb0 := hW b
            have := Rat.mul_pos (a := q * W i - P i) (b := W b) (by grind) (by grind)
            grind
     refine ⟨q, fun j => if j = i then 1 else X j, q0, ?_, fun j => ?_, ?_, ?_, ?_⟩
     · rcases qb with e | ⟨b, hb, h'⟩
       · exact .inl e
       · exact .inr ⟨b, by simp [hb], h'⟩
     · show 0 ≤ (if j = i then 1 else X j) ∧ (if j = i then 1 else X j) ≤ 1
       split
       · exact ⟨by decide +kernel, Rat.le_refl⟩
       · exact x0 j
     · simp only [sumL, if_true]; rw [ec]; grind
     · simp only [sumL, if_true, greedy]; rw [ec, if_pos h, x2]; grind
     · simp only [sumL, greedy]
       rw [if_pos h, ← x3, show max0 (P i - q * W i) = P i - q * W i by unfold max0; split <;> grind]
       grind
   · have w0 : 0 < W i := by grind
     have wb : ∀ b ∈ l, 0 < W b ∧ P b * W i ≤ P i * W b := fun b hb => by
      rcases hpi b hb with e | ⟨e1, e2⟩
      · rw [e] at w0; exact absurd w0 (by decide +kernel)
      · exact ⟨by have := hW b; grind, e2⟩
     have gz := greedy_zero (W := W) (P := P) l fun b hb => (wb b hb).1
     have hm := Rat.mul_inv_cancel (W i) (by grind)
     have hi := Rat.inv_pos.2 w0
     generalize hI : (W i)⁻¹ = I at *
     have ed : L / W i = L * I := by rw [Rat.div_def, hI]
     have hLI : 0 ≤ L * I := Rat.mul_nonneg hL (Rat.le_of_lt hi)
     have hLI1 : L * I ≤ 1 := by
      have := Rat.mul_nonneg (a := W i - L) (b := I) (by grind) (Rat.le_of_lt hi)
      grind
     have ec : ∀ f : Nat → Rat, sumL l (fun j => (if j = i then L * I else 0) * f j) = 0 := fun f => by
      rw [sumL_congr (g := fun _ => 0) fun j hj => by rw [if_neg (fun e => hni (by rw [← e]; exact hj))]; grind, sumL_zero]
     have em : sumL l (fun b => max0 (P b - P i * I * W b)) = 0 := by
      rw [sumL_congr (g := fun _ => 0) fun b hb => ?_, sumL_zero]
      have h2 := (wb b hb).2
      have := Rat.mul_nonneg (a := P i * W b - P b * W i) (b := I) (by grind) (Rat.le_of_lt hi)
      have e : (P i * W b - P b * W i) * I = P i * I * W b - P b * (W i * I) := by grind
      rw [e, hm] at this
      unfold max0; rw [if_neg (by grind)]
     refine ⟨P i * I, fun j => if j = i then L * I else 0, Rat.mul_nonneg (hP i) (Rat.le_of_lt hi), .inr ⟨i, by simp, by grind, by grind⟩, fun j => ?_, ?_, ?_, ?_⟩
     · show 0 ≤ (if j = i then L * I else 0) ∧ (if j = i then L * I else 0) ≤ 1
       split
       · exact ⟨hLI, hLI1⟩
       · exact ⟨Rat.le_refl, by decide +kernel⟩
     · simp only [sumL, if_true]; rw [ec]
       have : L * I * W i = L * (W i * I) := by grind
       rw [this, hm]; grind
     · simp only [sumL, if_true, greedy]; rw [ec, if_neg h, gz, ed]
     · simp only [sumL, greedy]
       rw [em, if_neg h, gz, ed]
       have : P i * I * W i = P i * (W i * I) := by grind
       rw [this, hm]
       have : max0 (P i - P i * 1) = 0 := by unfold max0; rw [if_neg (by grind)]
       rw [this]; grind
theorem one_best {M : Mkt} (hm : M.m = 1) (hW : ∀ i, 0 ≤ M.W i 0) (hP : ∀ i, 0 ≤ M.P i) (hS : 0 ≤ M.S 0) {l : List Nat} (hl : l.Perm (List.range M.n)) (hp : l.Pairwise (Pays (fun i => M.W i 0) M.P)) {X Y : Nat → Rat} (h : Best M X Y) :
    M.worth X = greedy (fun i => M.W i 0) M.P l (M.S 0) := by
 obtain ⟨q, Z, q0, _, z0, z1, z2, z3⟩ := greedy_best (W := fun i => M.W i 0) (P := M.P) hW hP l (M.S 0) hS (hl.nodup_iff.2 List.nodup_range) hp
 rw [sumL_perm hl, sumL_range] at z1 z2 z3
 have hc : ∀ i, M.cost (fun _ => q) i = q * M.W i 0 := fun i => by unfold cost; rw [hm]; simp only [sumN]; grind
 have hb : M.bound (fun _ => q) = q * M.S 0 + sumN M.n fun i => max0 (M.P i - q * M.W i 0) := by
  unfold bound paid; rw [hm]; simp only [sumN, hc]; grind
 have hd : ∀ k, k < M.m → M.used Z k ≤ M.S k := fun k hk => by
  obtain rfl : k = 0 := by omega
  exact z1
 have hZ : Best M Z fun _ => q := ⟨⟨fun i _ => (z0 i).1, fun i _ => (z0 i).2, hd⟩, fun _ _ => q0, by rw [hb, z3]; exact z2⟩
 rw [h.same hZ]; exact z2
end Mkt
namespace Mkt
def Bet (W P : Nat → Rat) (i b : Nat) : Prop := 0 < W b ∧ (W i = 0 ∨ P b * W i < P i * W b)
noncomputable def betQ (W P : Nat → Rat) (i b : Nat) : Bool := @decide (Bet W P i b) (Classical.propDecidable _)
theorem betQ_iff {W P : Nat → Rat} {i b : Nat} : betQ W P i b = true ↔ Bet W P i b := by unfold betQ; exact @decide_eq_true_iff _ (Classical.propDecidable _)
noncomputable def scanB (W P : Nat → Rat) : Nat → List Nat → Nat
 | b, [] => b
 | b, i :: l => scanB W P (if betQ W P i b then i else b) l
noncomputable def pickB (W P : Nat → Rat) : List Nat → Nat
 | [] => 0
 | i :: l => scanB W P i l
noncomputable def ordB (W P : Nat → Rat) : Nat → List Nat → List Nat
 | 0, _ => []
 | n + 1, l => pickB W P l :: ordB W P n (l.erase (pickB W P l))
section
variable {W P : Nat → Rat} (hW : ∀ i, 0 ≤ W i)
include hW
theorem bet_trans {i b c : Nat} (h : Bet W P c b) (hn : ¬ Bet W P i b) : ¬ Bet W P i c := by
 rintro ⟨h1, h2⟩
 obtain ⟨h3, h4⟩ := h
 rcases h4 with h4 | h4
 · rw [h4] at h1; exact absurd h1 (by decide +kernel)
 · refine hn ⟨h3, ?_⟩
   rcases h2 with h2 | h2
   · exact .inl h2
   · by_cases e : W i = 0
     · exact .inl e
     · right
       have wi : 0 < W i := by have := hW i; grind
       by_cases hc : P b * W i < P i * W b
       · exact hc
       · have a1 := Rat.mul_pos (a := P i * W c - P c * W i) (b := W b) (by grind) h3
         have a2 := Rat.mul_pos (a := P c * W b - P b * W c) (b := W i) (by grind) wi
         have a3 := Rat.mul_nonneg (a := P b * W i - P i * W b) (b := W c) (by grind) (hW c)
         grind
omit hW in
theorem bet_self {b : Nat} : ¬ Bet W P b b := by
 rintro ⟨h1, h2⟩
 rcases h2 with h2 | h2
 · rw [h2] at h1; exact absurd h1 (by decide +kernel)
 · grind
theorem scan_best : ∀ (l : List Nat) (b : Nat), (scanB W P b l = b ∨ scanB W P b l ∈ l) ∧ (∀ i, ¬ Bet W P i b → ¬ Bet W P i (scanB W P b l)) ∧ ∀ i ∈ l, ¬ Bet W P i (scanB W P b l)
 | [], b => ⟨.inl rfl, fun _ h => h, fun i h => by cases h⟩
 | c :: l, b => by
   cases hb : betQ W P c b
   · have hn : ¬ Bet W P c b := fun h => by rw [betQ_iff.2 h] at hb; cases hb
     have e : scanB W P b (c :: l) = scanB W P b l := by simp only [scanB, hb]; rfl
     obtain ⟨h1, h2, h3⟩ := scan_best l b
     rw [e]
     refine ⟨h1.imp id fun h => by simp [h], h2, fun i hi => ?_⟩
     rcases List.mem_cons.1 hi with rfl | hi
     · exact h2 _ hn
     · exact h3 i hi
   · have hy := betQ_iff.1 hb
     have e : scanB W P b (c :: l) = scanB W P c l := by simp only [scanB, hb]; rfl
     obtain ⟨h1, h2, h3⟩ := scan_best l c
     rw [e]
     refine ⟨.inr ?_, fun i hi => h2 i (bet_trans hW hy hi), fun i hi => ?_⟩
     · rcases h1 with h1 | h1
       · rw [h1]; simp
       · simp [h1]
     · rcases List.mem_cons.1 hi with rfl | hi
       · exact h2 _ bet_self
       · exact h3 i hi
theorem pick_best {l : List Nat} (h : l ≠ []) : pickB W P l ∈ l ∧ ∀ i ∈ l, ¬ Bet W P i (pickB W P l) := by
 match l, h with
 | c :: l, _ =>
   obtain ⟨h1, h2, h3⟩ := scan_best hW l c (P := P)
   refine ⟨?_, fun i hi => ?_⟩
   · rcases h1 with h1 | h1
     · simp only [pickB]; rw [h1]; simp
     · simp only [pickB]; simp [h1]
   · rcases List.mem_cons.1 hi with rfl | hi
     · exact h2 _ bet_self
     · exact h3 i hi
theorem pays_of {i b : Nat} (h : ¬ Bet W P i b) : Pays W P b i := by
 by_cases e : W b = 0
 · exact .inl e
 · right
   have hb : 0 < W b := by have := hW b; grind
   refine ⟨fun e2 => h ⟨hb, .inl e2⟩, ?_⟩
   by_cases hc : P i * W b ≤ P b * W i
   · exact hc
   · exact absurd ⟨hb, .inr (by grind)⟩ h
theorem ord_best : ∀ (n : Nat) (l : List Nat), l.length = n → (ordB W P n l).Perm l ∧ (ordB W P n l).Pairwise (Pays W P)
 | 0, l, h => by
   obtain rfl : l = [] := List.eq_nil_of_length_eq_zero h
   exact ⟨List.Perm.nil, List.Pairwise.nil⟩
 | n + 1, l, h => by
   have hne : l ≠ [] := fun e => by rw [e] at h; cases h
   obtain ⟨h1, h2⟩ := pick_best hW (P := P) hne
   have hlen : (l.erase (pickB W P l)).length = n := by rw [List.length_erase_of_mem h1, h]; rfl
   obtain ⟨p1, p2⟩ := ord_best n _ hlen
   simp only [ordB]
   refine ⟨(List.Perm.cons _ p1).trans (List.perm_cons_erase h1).symm, List.pairwise_cons.2 ⟨fun i hi => ?_, p2⟩⟩
   exact pays_of hW (h2 i (List.mem_of_mem_erase ((p1.mem_iff).1 hi)))
end
end Mkt
namespace Mkt
section
variable (W P : Nat → Rat) (n : Nat)
noncomputable def svB : Nat → Nat → Bool
 | 0, _ => false
 | t + 1, j => svB t j || j == pickB W P ((List.range n).filter fun j => !svB t j)
noncomputable def remB (t i : Nat) : List Nat := (List.range i).filter fun j => !svB W P n t j
noncomputable def pkB (l : List Nat) : Int := match l with
 | [] => -1
 | l => pickB W P l
theorem svB_succ (t j : Nat) : svB W P n (t + 1) j = (svB W P n t j || j == pickB W P (remB W P n t n)) := rfl
theorem rem_nodup (t i : Nat) : (remB W P n t i).Nodup := List.nodup_range.filter _
theorem rem_succ (t : Nat) : remB W P n (t + 1) n = (remB W P n t n).erase (pickB W P (remB W P n t n)) := by
 rw [List.Nodup.erase_eq_filter (rem_nodup W P n t n)]
 show (List.range n).filter _ = ((List.range n).filter _).filter _
 rw [List.filter_filter]
 congr 1
 funext j
 rw [svB_succ]
 cases svB W P n t j <;> cases h : j == pickB W P (remB W P n t n) <;> simp [bne, h]
theorem rem_zero : remB W P n 0 n = List.range n := by unfold remB; exact List.filter_eq_self.2 fun _ _ => rfl
theorem rem_step (t i : Nat) : remB W P n t (i + 1) = remB W P n t i ++ if svB W P n t i then [] else [i] := by
 unfold remB
 rw [List.range_succ, List.filter_append]
 congr 1
 cases h : svB W P n t i <;> simp [h]
theorem rem_mem {t i j : Nat} (h : j ∈ remB W P n t i) : j < i := List.mem_range.1 (List.mem_filter.1 h).1
variable {W P n}
theorem scan_app (i : Nat) : ∀ (l : List Nat) (b : Nat), scanB W P b (l ++ [i]) = if betQ W P i (scanB W P b l) then i else scanB W P b l
 | [], b => rfl
 | c :: l, b => by simp only [List.cons_append, scanB]; exact scan_app i l _
theorem pk_cons {l : List Nat} (h : l ≠ []) : pkB W P l = pickB W P l := by
 match l, h with
 | _ :: _, _ => rfl
theorem pk_app {l : List Nat} (h : l ≠ []) (i : Nat) : pkB W P (l ++ [i]) = if betQ W P i (pickB W P l) then (i : Int) else pickB W P l := by
 match l, h with
 | c :: l, _ =>
   rw [pk_cons (by simp)]
   show ((scanB W P c (l ++ [i]) : Nat) : Int) = _
   rw [scan_app]
   show ((if betQ W P i (scanB W P c l) then i else scanB W P c l : Nat) : Int) = if betQ W P i (scanB W P c l) then (i : Int) else ((scanB W P c l : Nat) : Int)
   split <;> rfl
variable (hW : ∀ i, 0 ≤ W i)
include hW
theorem rem_len : ∀ t : Nat, t ≤ n → (remB W P n t n).length = n - t
 | 0, _ => by rw [rem_zero, List.length_range]; rfl
 | t + 1, h => by
   have ih := rem_len t (by omega)
   have hne : remB W P n t n ≠ [] := fun e => by rw [e] at ih; simp at ih; omega
   rw [rem_succ, List.length_erase_of_mem (pick_best hW hne).1, ih]; omega
theorem rem_ne {t : Nat} (h : t < n) : remB W P n t n ≠ [] := fun e => by
 have := rem_len (W := W) (P := P) (n := n) hW t (by omega)
 rw [e] at this; simp at this; omega
theorem pick_lt {t i : Nat} (h : remB W P n t i ≠ []) : pickB W P (remB W P n t i) < i := rem_mem W P n (pick_best hW h).1
theorem ord_step {t : Nat} (h : t < n) : ordB W P (n - t) (remB W P n t n) = pickB W P (remB W P n t n) :: ordB W P (n - (t + 1)) (remB W P n (t + 1) n) := by
 rw [show n - t = (n - (t + 1)) + 1 by omega, rem_succ]; rfl
end
section
variable (w : Nat → Int) (P : Nat → Rat) (n : Nat) (S : Int)
noncomputable def pkT (t : Nat) : Nat := pickB (fun i => (w i : Rat)) P (remB (fun i => (w i : Rat)) P n t n)
noncomputable def lfI : Nat → Int
 | 0 => S
 | t + 1 => lfI t - min (lfI t) (w (pkT w P n t))
noncomputable def shQ (t : Nat) : Rat := if w (pkT w P n t) > lfI w P n S t then (lfI w P n S t : Rat) / (w (pkT w P n t) : Rat) else 1
noncomputable def vlQ : Nat → Rat
 | 0 => 0
 | t + 1 => vlQ t + shQ w P n S t * P (pkT w P n t)
variable {w P n S} (hw : ∀ i, 0 ≤ w i) (hS : 0 ≤ S)
include hw hS
theorem lf_le : ∀ t, 0 ≤ lfI w P n S t ∧ lfI w P n S t ≤ S
 | 0 => ⟨hS, Int.le_refl _⟩
 | t + 1 => by
   have ih := lf_le t
   have := hw (pkT w P n t)
   simp only [lfI]; omega
theorem vl_greedy : ∀ t : Nat, t ≤ n → vlQ w P n S t + greedy (fun i => (w i : Rat)) P (ordB (fun i => (w i : Rat)) P (n - t) (remB (fun i => (w i : Rat)) P n t n)) (lfI w P n S t : Rat) = greedy (fun i => (w i : Rat)) P (ordB (fun i => (w i : Rat)) P n (List.range n)) (S : Rat)
 | 0, _ => by rw [rem_zero]; simp only [vlQ, lfI, Nat.sub_zero]; grind
 | t + 1, h => by
   have ih := vl_greedy t (by omega)
   have hW : ∀ i, 0 ≤ (fun i => (w i : Rat)) i := fun i => Rat.intCast_nonneg.2 (hw i)
   rw [ord_step hW (by omega)] at ih
   rw [← ih]
   have e : pickB (fun i => (w i : Rat)) P (remB (fun i => (w i : Rat)) P n t n) = pkT w P n t := rfl
   simp only [greedy, e, vlQ]
   unfold shQ
   by_cases hc : w (pkT w P n t) > lfI w P n S t
   · have c1 : ¬ ((w (pkT w P n t) : Int) : Rat) ≤ (lfI w P n S t : Rat) := fun h => by have := Rat.intCast_le_intCast.1 h; omega
     have c2 : lfI w P n S (t + 1) = 0 := by simp only [lfI]; omega
     rw [if_pos hc, if_neg c1, c2]
     have : ((0 : Int) : Rat) = 0 := rfl
     rw [this]; grind
   · have c1 : ((w (pkT w P n t) : Int) : Rat) ≤ (lfI w P n S t : Rat) := Rat.intCast_le_intCast.2 (by omega)
     have c2 : lfI w P n S (t + 1) = lfI w P n S t - w (pkT w P n t) := by simp only [lfI]; omega
     rw [if_neg hc, if_pos c1, c2, Rat.intCast_sub]; grind
theorem vl_end : vlQ w P n S n = greedy (fun i => (w i : Rat)) P (ordB (fun i => (w i : Rat)) P n (List.range n)) (S : Rat) := by
 rw [← vl_greedy hw hS n (Nat.le_refl _), Nat.sub_self]
 simp only [ordB, greedy]; grind
theorem vl_sz (hb : ∀ i, w i ≤ 1000000) (hSb : S ≤ 1000000) (hP : ∀ i, szQ (P i) ≤ 4) : ∀ t : Nat, szQ (vlQ w P n S t) ≤ 1 + t * 20
 | 0 => by have := sz_0; simp only [vlQ]; omega
 | t + 1 => by
   have ih := vl_sz hb hSb hP t
   have a := szQ_add (vlQ w P n S t) (shQ w P n S t * P (pkT w P n t))
   have b := szQ_mul (shQ w P n S t) (P (pkT w P n t))
   have c := hP (pkT w P n t)
   have l := lf_le (P := P) (n := n) hw hS t
   have d : szQ (shQ w P n S t) ≤ 8 := by
    unfold shQ
    split
    · rename_i h
      have h1 := szQ_int (lfI w P n S t) (by omega) (by omega)
      have h2 := szQ_int (w (pkT w P n t)) (by have := hw (pkT w P n t); omega) (by have := hb (pkT w P n t); omega)
      have := szQ_div (a := (lfI w P n S t : Rat)) (b := (w (pkT w P n t) : Rat)) (fun e => by
       have : w (pkT w P n t) = 0 := by exact_mod_cast e
       omega)
      omega
    · decide +kernel
   show szQ (vlQ w P n S t + shQ w P n S t * P (pkT w P n t)) ≤ _
   omega
end
end Mkt
theorem GoodD.one {supply : List Int} {offers : List OffD} {d : DealD} {S : Int} (g : GoodD supply offers d) (hs : supply = [S]) : d.v = ofQ (Mkt.vlQ (wantI offers 0) (fun i => (bidI offers i : Rat)) offers.length S offers.length) := by
 have R := g.r
 have hS : 0 ≤ S := by have := R.s S (by rw [hs]; simp); exact this.1
 have hw : ∀ i, 0 ≤ wantI offers 0 i := fun i => (R.wb 0 i).1
 have hW : ∀ i, 0 ≤ (fun i => (wantI offers 0 i : Rat)) i := fun i => Rat.intCast_nonneg.2 (hw i)
 rw [g.v, Mkt.vl_end hw hS]
 obtain ⟨p1, p2⟩ := Mkt.ord_best hW (P := fun i => (bidI offers i : Rat)) offers.length (List.range offers.length) List.length_range
 have := Mkt.one_best (M := mkt supply offers) (by show supply.length = 1; rw [hs]; rfl) hW (fun i => Rat.intCast_nonneg.2 (R.pb i).1) (by show 0 ≤ ((supply[0]?.getD 0 : Int) : Rat); rw [hs]; exact Rat.intCast_nonneg.2 hS) p1 p2 g.b
 have e : (mkt supply offers).S 0 = (S : Rat) := by show ((supply[0]?.getD 0 : Int) : Rat) = _; rw [hs]; rfl
 rw [e] at this
 rw [this]; rfl
attribute [local go_sem] opsL_nil opsL_go opsL_guard gSel_tt gSel_ff gSel_tf gSel_ft stepR_some stepR_none callS_some callE_some runL_nil runL_go runL_guard gSelE_tt gSelE_ff gSelE_tf gSelE_ft stepE_some stepE_none opF callD rd constD putT upd_get guardL gOf_bool gOf_undef fieldAddrF fieldF loadF storeF indexAddrF indexF sliceF strSliceF bound buildF fillF buildSliceF elemsF allocF makeSliceF lenF elemsOf appendF minmaxF convertF boxF ldE blkAt spliceE D.cells? D.isCell Res.pure ov TyI.agg binD unD boolD initT thenA inBlockA argD argDs refsD refsL killW datJ datJs endA_ret endA_normal endR_some oneD_one oneD_two oneD_three oneD_four resDs resD fzT Value.oneCell' strip tabT tabM
attribute [local go_sem] List.map Nat.reduceEqDiff Nat.reduceBEq List.getElem?_cons_zero List.getElem?_cons_succ List.getElem?_nil Option.getD_some Option.getD_none true_and and_true true_or or_true false_or or_false and_self Nat.add_zero Nat.zero_add List.length_nil List.length_cons forall_const ite_true ite_false Bool.or_self Bool.false_eq_true Option.map_some Option.map_none beq_self_eq_true Nat.reduceAdd Nat.reduceSub Nat.reduceMul reduceCtorEq List.getElem?_toArray Bool.not_true Bool.not_false decide_eq_true_eq decide_true decide_false Nat.reduceLeDiff Nat.reduceLT Bool.or_false Bool.or_true Bool.and_true Bool.and_false Bool.false_and Bool.true_and Bool.true_beq Bool.false_beq beq_true beq_false Bool.not_eq_true List.drop_succ_cons List.take_succ_cons List.drop_zero List.take_zero List.length_map List.getElem?_map List.length_append List.all_cons List.all_nil List.append_nil List.nil_append List.cons_append List.set_cons_zero List.set_cons_succ Int.toNat_natCast Int.toNat_zero Option.isSome_some Option.isSome_none Array.size_empty ByteArray.size_empty Int.reduceToNat Int.reduceAdd Int.reduceSub Int.reduceLT Int.reduceLE Int.reduceEq Int.reduceNe Int.reduceBEq Int.reduceNeg List.forall_mem_cons List.not_mem_nil false_implies List.forall_mem_map implies_true Nat.reduceBNe Int.cast_ofNat_Int Int.reduceMul Int.reduceGE Int.reduceGT wrap_in ty_2 ty_3 ty_4 ty_5 ty_6 ty_7 ty_8 ty_9 ty_10 ty_11 ty_12 ty_13 ty_14 ty_18 ty_19 ty_21 ty_22 ty_23 ty_24 ty_25 ty_26 ty_27 ty_28 ty_29 ty_30 ty_34 ty_37 ty_41 ty_42 ty_49 ty_51 ty_53 ty_54 ty_55 ty_57 ty_58 ty_59 ty_60 ty_61 ty_62 ty_63 ty_64 ty_65 ty_66 ty_69 ty_70 ty_118 ty_119 ty_129 ty_130 ty_131 ty_132 ty_134 ty_139 ty_140 ty_141 ty_142 ty_145 ty_146 ty_162 ty_163 ty_173 ty_174 ty_175 ty_176 ty_177 ty_178 ty_179 ty_180 ty_183 ty_184 ty_185 ty_186
set_option maxHeartbeats 32000000
theorem bet44 {w : Nat → Int} {P : Nat → Rat} {i b : Nat} : Mkt.betQ (fun i => (w i : Rat)) P i b = true ↔ w b > 0 ∧ (w i = 0 ∨ cmpD (ofQ (P i * (w b : Rat))) (ofQ (P b * (w i : Rat))) > 0) := by
 rw [Mkt.betQ_iff, cmpQ_gt]
 unfold Mkt.Bet
 have e1 : (0 : Rat) < (w b : Rat) ↔ w b > 0 := by rw [show (0 : Rat) = ((0 : Int) : Rat) from rfl, Rat.intCast_lt_intCast]
 have e2 : (w i : Rat) = 0 ↔ w i = 0 := by rw [show (0 : Rat) = ((0 : Int) : Rat) from rfl, Rat.intCast_inj]
 simp only [e1, e2]
theorem marketOne_c (k0 : Contract Try.prog 7 [] (dB true)) (supply : List Int) (offers : List OffD) : Contract Try.prog 5 [encInts supply, encOfs offers] (dB true) := by
 have hres := Try.results5
 have q1 := few44_c supply offers zDeal 3 6
 cases h1 : few44 supply offers zDeal 3 6
 · rw [h1] at q1
   refine Contract.ofA (CallA.inline Try.func5 rfl (by kernel_rfl) (by kernel_rfl) (by kernel_rfl) ?_)
   rw [Try.ntmps5]
   exact aGo hres trivial
 rw [h1] at q1
 cases h2 : (supply.length : Int) != 1
 rotate_left
 · refine Contract.ofA (CallA.inline Try.func5 rfl (by kernel_rfl) (by kernel_rfl) (by kernel_rfl) ?_)
   rw [Try.ntmps5]
   exact aGo (cj2 hres h2) trivial
 have sm := few44_sm h1
 have q2 := right44_c supply offers sm
 cases hr : right44 supply offers
 · rw [hr] at q2
   refine Contract.ofA (CallA.inline Try.func5 rfl (by kernel_rfl) (by kernel_rfl) (by kernel_rfl) ?_)
   rw [Try.ntmps5]
   exact aGo (cj2 hres h2) trivial
 rw [hr] at q2
 have R := right44_iff.1 hr
 have h6 := few44_o (by decide) h1 hr
 have q3 := best44_c supply offers (fun _ => by omega) sm
 obtain ⟨a0, ag⟩ := best44_good hr
 rw [a0] at q3
 generalize (best44 supply offers).1 = A at *
 obtain ⟨S, hS⟩ : ∃ S, supply = [S] := by
  have : supply.length = 1 := by simp at h2; omega
  exact List.length_eq_one_iff.1 this
 have hSb := R.s S (by rw [hS]; simp)
 have ev := ag.one hS
 have hs0 : supply[0]? = some S := by rw [hS]; rfl
 have hl0 : (0 : Int) < supply.length := by rw [hS]; simp
 have hn := R.n1
 have hw : ∀ i, 0 ≤ wantI offers 0 i ∧ wantI offers 0 i ≤ 1000000 := fun i => R.wb 0 i
 have hP : ∀ i, szQ ((bidI offers i : Rat)) ≤ 4 := fun i => szI_le _ (R.pb i).1 (R.pb i).2
 have hof : ∀ i (o : OffD), offers[i]? = some o → o.wants[0]? = some (wantI offers 0 i) ∧ (0 : Int) < o.wants.length ∧ o.price = bidI offers i ∧ 0 ≤ o.price ∧ o.price ≤ 1125899906842624 := fun i o ho => by
  have a := R.w o (mem_at ho)
  have := R.m0
  exact ⟨(R.want ho (by omega)).1, by omega, R.bid_at ho, a.2.2⟩
 obtain ⟨W, eW⟩ : ∃ W : Nat → Rat, (fun i => (wantI offers 0 i : Rat)) = W := ⟨_, rfl⟩
 obtain ⟨P, eP⟩ : ∃ P : Nat → Rat, (fun i => (bidI offers i : Rat)) = P := ⟨_, rfl⟩
 have hW : ∀ i, 0 ≤ W i := fun i => by rw [← eW]; exact Rat.intCast_nonneg.2 (hw i).1
 have hbet : ∀ i b : Nat, Mkt.betQ W P i b = true ↔ wantI offers 0 b > 0 ∧ (wantI offers 0 i = 0 ∨ cmpD (ofQ ((bidI offers i : Rat) * (wantI offers 0 b : Rat))) (ofQ ((bidI offers b : Rat) * (wantI offers 0 i : Rat))) > 0) := fun i b => by
  rw [← eW, ← eP]; exact bet44
 obtain ⟨n, en⟩ : ∃ n, offers.length = n := ⟨_, rfl⟩
 obtain ⟨T, eT⟩ : ∃ T : Nat → Nat, (fun t => Mkt.pickB W P (Mkt.remB W P n t n)) = T := ⟨_, rfl⟩
 obtain ⟨lf, el⟩ : ∃ lf : Nat → Int, Mkt.lfI (wantI offers 0) P n S = lf := ⟨_, rfl⟩
 obtain ⟨vl, evl⟩ : ∃ vl : Nat → Rat, Mkt.vlQ (wantI offers 0) P n S = vl := ⟨_, rfl⟩
 obtain ⟨sh, esh⟩ : ∃ sh : Nat → Rat, Mkt.shQ (wantI offers 0) P n S = sh := ⟨_, rfl⟩
 have eTT : ∀ t, Mkt.pkT (wantI offers 0) P n t = T t := fun t => by unfold Mkt.pkT; rw [eW, ← eT]
 have l0 : lf 0 = S := by rw [← el]; rfl
 have v0 : vl 0 = 0 := by rw [← evl]; rfl
 have ls : ∀ t, lf (t + 1) = lf t - min (lf t) (wantI offers 0 (T t)) := fun t => by rw [← el, ← eTT]; rfl
 have vs : ∀ t, vl (t + 1) = vl t + sh t * (bidI offers (T t) : Rat) := fun t => by rw [← evl, ← esh, ← eTT, show (bidI offers (Mkt.pkT (wantI offers 0) P n t) : Rat) = P (Mkt.pkT (wantI offers 0) P n t) by rw [← eP]]; rfl
 have sh1 : ∀ t, wantI offers 0 (T t) > lf t → sh t = (lf t : Rat) / (wantI offers 0 (T t) : Rat) := fun t h => by rw [← eTT, ← el] at h; rw [← esh, ← eTT, ← el]; exact if_pos h
 have sh2 : ∀ t, ¬ wantI offers 0 (T t) > lf t → sh t = 1 := fun t h => by rw [← eTT, ← el] at h; rw [← esh]; exact if_neg h
 have lb : ∀ t, 0 ≤ lf t ∧ lf t ≤ S := fun t => by rw [← el]; exact Mkt.lf_le (fun i => (hw i).1) hSb.1 t
 have vz : ∀ t, szQ (vl t) ≤ 1 + t * 20 := fun t => by rw [← evl]; exact Mkt.vl_sz (fun i => (hw i).1) hSb.1 (fun i => (hw i).2) hSb.2 (fun i => by rw [← eP]; exact hP i) t
 have B0 : ((List.range n).map fun j => [dB (Mkt.svB W P n 0 j)]) = List.replicate n [D.v (.bool false)] := by
  show (List.range n).map (fun _ => [D.v (.bool false)]) = _
  rw [List.map_const', List.length_range]
 have Br : ∀ i, i < n → (List.range n)[i]? = some i := fun i hi => by simp [hi]
 have Bn : (List.range n).length = n := List.length_range
 have Bs : ∀ t, ((List.range n).map fun j => [dB (Mkt.svB W P n t j)]).set (T t) [D.v (.bool true)] = ((List.range n).map fun j => [dB (Mkt.svB W P n (t + 1) j)]) := fun t => by
  refine List.ext_getElem? fun i => ?_
  by_cases hi : i < n
  · have e2 : ∀ u, ((List.range n).map fun j => [dB (Mkt.svB W P n u j)])[i]? = some [dB (Mkt.svB W P n u i)] := fun u => by simp [hi]
    rw [e2, Mkt.svB_succ]
    by_cases e : T t = i
    · rw [e, List.getElem?_set_self (by simp [hi])]
      rw [← eT] at e
      rw [show (i == Mkt.pickB W P (Mkt.remB W P n t n)) = true by simp [← e], Bool.or_true]
    · rw [List.getElem?_set_ne e, e2]
      rw [← eT] at e
      rw [show (i == Mkt.pickB W P (Mkt.remB W P n t n)) = false by simp; exact fun h => e h.symm, Bool.or_false]
  · rw [List.getElem?_eq_none (by simp; omega), List.getElem?_eq_none (by simp; omega)]
 have Tn : ∀ t, t < n → T t < n := fun t h => by rw [← eT]; exact Mkt.pick_lt hW (Mkt.rem_ne hW h)
 have Tp : ∀ t, t < n → Mkt.pkB W P (Mkt.remB W P n t n) = T t := fun t h => by rw [← eT]; exact Mkt.pk_cons (Mkt.rem_ne hW h)
 rw [eP, en, evl] at ev
 have i0 := nZ_c
 have i1 := nO_c
 have b01 : ((0 : Int) == 0) = true := rfl
 have hlen : (offers.length : Int) = n := by rw [en]
 have n0 : (0 : Int) ≤ n := by omega
 have n12 : (n : Int) ≤ 12 := by omega
 refine Contract.ofA (CallA.inline Try.func5 rfl (by kernel_rfl) (by kernel_rfl) (by kernel_rfl) ?_)
 rw [Try.ntmps5]
 refine aGo (cj4 hres h2 hs0 (cj4 hl0 hlen n0 n12)) ?_
 repeat (guard_target =~ ∀ _ : St → Prop, _; intro K hK)
 clear k0 q1 q2 q3
 refine aLoopT (fun (t : Nat) => [(1, encOfs offers), (5, dB true), (6, .lp 0 0 0 0), (7, dI 0), (8, dI (lf t)), (9, .lp 1 0 0 0), (10, .ls 2 1), (11, dI t)])
  (fun t => [(0, ⟨30, 0, 6, [cDl A], 0, false⟩), (1, ⟨28, 0, 4, [cF (ofQ (vl t))], 0, false⟩), (2, ⟨4, 1, 1, ((List.range n).map fun j => [dB (Mkt.svB W P n t j)]), 0, false⟩)]) 3 0 (fun t => t ≤ n) (fun t => n - t) 0 (by omega) ?_ ?_
 · skip
   exact leGo (cj3 l0 v0 B0)
 rintro t ht
 have hwt : IntKind.i64.wrap ((t : Int) + 1) = (t : Int) + 1 := wrap_in (by omega) (by omega)
 have t0 : (0 : Int) ≤ t := by omega
 by_cases h3 : (t : Int) < n
 rotate_left
 · obtain rfl : t = n := by omega
   have c1 := fsame_c A.v (ofQ (vl t))
   rw [show sameF A.v (ofQ (vl t)) = true by rw [ev]; exact sameF_self _] at c1
   exact aGo (cj4 hres hlen h3 b01) trivial
 have p0 : Mkt.pkB W P (Mkt.remB W P n t 0) = -1 := rfl
 refine aGo (cj3 hres hlen h3) ?_
 repeat (guard_target =~ ∀ _ : St → Prop, _; intro K hK)
 refine aLoopT (fun (i : Nat) => [(1, encOfs offers), (5, dB true), (6, .lp 0 0 0 0), (7, dI 0), (8, dI (lf t)), (9, .lp 1 0 0 0), (10, .ls 2 1), (11, dI t), (12, dI (Mkt.pkB W P (Mkt.remB W P n t i))), (13, dI i)])
  (fun _ => [(0, ⟨30, 0, 6, [cDl A], 0, false⟩), (1, ⟨28, 0, 4, [cF (ofQ (vl t))], 0, false⟩), (2, ⟨4, 1, 1, ((List.range n).map fun j => [dB (Mkt.svB W P n t j)]), 0, false⟩)]) 3 0 (fun i => i ≤ n) (fun i => n - i) 0 (by omega) ?_ ?_
 · exact leGo p0
 rintro i hi
 have hwi : IntKind.i64.wrap ((i : Int) + 1) = (i : Int) + 1 := wrap_in (by omega) (by omega)
 have j0 : (0 : Int) ≤ i := by omega
 by_cases h4 : (i : Int) < n
 · have hbi := Br i (by omega)
   have hst := Mkt.rem_step W P n t i
   cases h5 : Mkt.svB W P n t i
   rotate_left
   · rw [h5, if_pos rfl, List.append_nil] at hst
     refine aGo (cj4 hres j0 h4 (cj4 hlen hbi h5 (cj2 hwi Bn))) ?_
     repeat (guard_target =~ ∀ _ : St → Prop, _; intro K hK)
     exact loop_end (i + 1) (by omega) (by omega) (by exact leGo hst)
   rw [h5, if_neg (by simp)] at hst
   by_cases h6 : Mkt.remB W P n t i = []
   · rw [h6] at hst
     have hp : Mkt.pkB W P (Mkt.remB W P n t (i + 1)) = i := by rw [hst]; rfl
     have hp0 : Mkt.pkB W P (Mkt.remB W P n t i) = -1 := by rw [h6]; rfl
     refine aGo (cj4 hres j0 h4 (cj4 hlen hbi h5 (cj3 hwi Bn hp0))) ?_
     repeat (guard_target =~ ∀ _ : St → Prop, _; intro K hK)
     exact loop_end (i + 1) (by omega) (by omega) (by exact leGo hp)
   have hp0 := Mkt.pk_cons (W := W) (P := P) h6
   have hbl := Mkt.pick_lt hW h6
   have hpa := Mkt.pk_app (W := W) (P := P) h6 i
   rw [← hst] at hpa
   generalize Mkt.pickB W P (Mkt.remB W P n t i) = b at *
   have hbi2 := hbet i b
   have b0 : ¬ ((b : Int) < 0) := by omega
   have b1 : (0 : Int) ≤ b := by omega
   have b2 : (b : Int) < n := by omega
   obtain ⟨o, ho⟩ : ∃ e, offers[i]? = some e := ⟨_, List.getElem?_eq_getElem (by omega)⟩
   obtain ⟨u, hu⟩ : ∃ e, offers[b]? = some e := ⟨_, List.getElem?_eq_getElem (by omega)⟩
   obtain ⟨o1, o2, o3, o4, o5⟩ := hof i o ho
   obtain ⟨u1, u2, u3, u4, u5⟩ := hof b u hu
   have hwi0 := hw i
   have hwb0 := hw b
   have z1 := szI_le o.price o4 o5
   have z2 := szI_le u.price u4 u5
   have z3 := szI_le (wantI offers 0 i) hwi0.1 (by omega)
   have z4 := szI_le (wantI offers 0 b) hwb0.1 (by omega)
   have z5 := szQ_mul (bidI offers i : Rat) (wantI offers 0 b : Rat)
   have z6 := szQ_mul (bidI offers b : Rat) (wantI offers 0 i : Rat)
   rw [o3] at z1 o4 o5
   rw [u3] at z2 u4 u5
   have c1 := nI_c (bidI offers i) o4 (by omega)
   have c2 := nI_c (bidI offers b) u4 (by omega)
   have c3 := nI_c (wantI offers 0 i) hwi0.1 (by omega)
   have c4 := nI_c (wantI offers 0 b) hwb0.1 (by omega)
   have c5 := nmul_c (bidI offers i : Rat) (wantI offers 0 b : Rat) (by omega) (by omega)
   have c6 := nmul_c (bidI offers b : Rat) (wantI offers 0 i : Rat) (by omega) (by omega)
   have c7 := fcompare_c (ofQ ((bidI offers i : Rat) * (wantI offers 0 b : Rat))) (ofQ ((bidI offers b : Rat) * (wantI offers 0 i : Rat))) (by rw [szF_ofQ]; omega) (by rw [szF_ofQ]; omega)
   by_cases h7 : wantI offers 0 b > 0
   rotate_left
   · rw [if_neg (fun h => h7 (hbi2.1 h).1)] at hpa
     refine aGo (cj4 hres j0 h4 (cj4 hlen hbi h5 (cj4 hwi Bn hp0 (cj4 b0 b1 b2 (cj4 ho hu o1 (cj4 o2 o3 u1 (cj3 u2 u3 h7))))))) ?_
     repeat (guard_target =~ ∀ _ : St → Prop, _; intro K hK)
     exact loop_end (i + 1) (by omega) (by omega) (by exact leGo (cj2 hpa hp0))
   cases h8 : (wantI offers 0 i == 0)
   rotate_left
   · rw [if_pos (hbi2.2 ⟨h7, .inl (by simpa using h8)⟩)] at hpa
     refine aGo (cj4 hres j0 h4 (cj4 hlen hbi h5 (cj4 hwi Bn hp0 (cj4 b0 b1 b2 (cj4 ho hu o1 (cj4 o2 o3 u1 (cj4 u2 u3 h7 h8))))))) ?_
     repeat (guard_target =~ ∀ _ : St → Prop, _; intro K hK)
     exact loop_end (i + 1) (by omega) (by omega) (by exact leGo hpa)
   have h8' : ¬ wantI offers 0 i = 0 := by simpa using h8
   by_cases h9 : cmpD (ofQ ((bidI offers i : Rat) * (wantI offers 0 b : Rat))) (ofQ ((bidI offers b : Rat) * (wantI offers 0 i : Rat))) > 0
   · rw [if_pos (hbi2.2 ⟨h7, .inr h9⟩)] at hpa
     refine aGo (cj4 hres j0 h4 (cj4 hlen hbi h5 (cj4 hwi Bn hp0 (cj4 b0 b1 b2 (cj4 ho hu o1 (cj4 o2 o3 u1 (cj4 u2 u3 h7 (cj2 h8 h9)))))))) ?_
     repeat (guard_target =~ ∀ _ : St → Prop, _; intro K hK)
     exact loop_end (i + 1) (by omega) (by omega) (by exact leGo hpa)
   · rw [if_neg (fun h => (hbi2.1 h).2.elim h8' h9)] at hpa
     refine aGo (cj4 hres j0 h4 (cj4 hlen hbi h5 (cj4 hwi Bn hp0 (cj4 b0 b1 b2 (cj4 ho hu o1 (cj4 o2 o3 u1 (cj4 u2 u3 h7 (cj2 h8 h9)))))))) ?_
     repeat (guard_target =~ ∀ _ : St → Prop, _; intro K hK)
     exact loop_end (i + 1) (by omega) (by omega) (by exact leGo (cj2 hpa hp0))
 obtain rfl : i = n := by omega
 have hp := Tp t (by omega)
 have hTn := Tn t (by omega)
 have hbT := Br (T t) hTn
 have b1 : (0 : Int) ≤ T t := by omega
 have b2 : (T t : Int) < i := by omega
 have kz : (0 : Nat) ≤ T t := Nat.zero_le _
 have hB := Bs t
 obtain ⟨u, hu⟩ : ∃ e, offers[T t]? = some e := ⟨_, List.getElem?_eq_getElem (by omega)⟩
 obtain ⟨u1, u2, u3, u4, u5⟩ := hof (T t) u hu
 have hwb0 := hw (T t)
 obtain ⟨l1, l2⟩ := lb t
 have z1 := szI_le u.price u4 u5
 rw [u3] at z1 u4 u5
 have lst := ls t
 have vst := vs t
 have vzt := vz t
 have c1 := nI_c (bidI offers (T t)) u4 (by omega)
 by_cases h7 : wantI offers 0 (T t) > lf t
 · have es := sh1 t h7
   have eml : (if wantI offers 0 (T t) < lf t then wantI offers 0 (T t) else lf t) = min (lf t) (wantI offers 0 (T t)) := by split <;> omega
   have c2 := of44_c (lf t) (wantI offers 0 (T t)) (by omega) (by omega) (by omega) (by omega)
   rw [← es] at c2
   have zs : szQ (sh t) ≤ 8 := by
    have a1 := szI_le (lf t) l1 (by omega)
    have a2 := szI_le (wantI offers 0 (T t)) hwb0.1 (by omega)
    have := szQ_div (a := (lf t : Rat)) (b := (wantI offers 0 (T t) : Rat)) (fun e => by
     have : wantI offers 0 (T t) = 0 := by exact_mod_cast e
     omega)
    rw [es]; omega
   have z3 := szQ_mul (sh t) (bidI offers (T t) : Rat)
   have c3 := nmul_c (sh t) (bidI offers (T t) : Rat) (by omega) (by omega)
   have c4 := nadd_c (vl t) (sh t * (bidI offers (T t) : Rat)) (by omega) (by omega)
   have hwl : IntKind.i64.wrap (lf t - (if wantI offers 0 (T t) < lf t then wantI offers 0 (T t) else lf t)) = lf (t + 1) := by
    rw [eml, lst]; exact wrap_in (by omega) (by omega)
   refine aGo (cj4 hres hlen h4 (cj4 hp b1 b2 (cj4 kz hbT hB (cj4 hu u1 u2 (cj4 u3 h7 hwl (cj2 hwt Bn)))))) ?_
   repeat (guard_target =~ ∀ _ : St → Prop, _; intro K hK)
   exact loop_end (t + 1) (by omega) (by omega) (by exact leGo (cj2 vst hB))
 · have es := sh2 t h7
   have eml : (if wantI offers 0 (T t) < lf t then wantI offers 0 (T t) else lf t) = min (lf t) (wantI offers 0 (T t)) := by split <;> omega
   have zs : szQ (1 : Rat) ≤ 8 := by decide +kernel
   have z3 := szQ_mul (1 : Rat) (bidI offers (T t) : Rat)
   have c3 := nmul_c 1 (bidI offers (T t) : Rat) (by omega) (by omega)
   have c4 := nadd_c (vl t) (1 * (bidI offers (T t) : Rat)) (by omega) (by omega)
   rw [es] at vst
   have hwl : IntKind.i64.wrap (lf t - (if wantI offers 0 (T t) < lf t then wantI offers 0 (T t) else lf t)) = lf (t + 1) := by
    rw [eml, lst]; exact wrap_in (by omega) (by omega)
   refine aGo (cj4 hres hlen h4 (cj4 hp b1 b2 (cj4 kz hbT hB (cj4 hu u1 u2 (cj4 u3 h7 hwl (cj2 hwt Bn)))))) ?_
   repeat (guard_target =~ ∀ _ : St → Prop, _; intro K hK)
   exact loop_end (t + 1) (by omega) (by omega) (by exact leGo (cj2 vst hB))
end Go.Proofs.Ytbnbpfjfkedbaaa
