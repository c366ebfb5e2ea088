/-
  Determinants (plain): linear in each column, zero if two columns are equal, whole if all entries are; Cramer's rule.
-/
import Derived.Test.YtpkdhmnlpnijhaaGreatVSimA
import Derived.Test.YtpkdhmnlpnijhaaGreatVSimB
import Derived.Test.YtpkdhmnlpnijhaaGreatVSd
import Derived.Test.YtpkdhmnlpnijhaaGreatVSimI
import Derived.Test.YtpkdhmnlpnijhaaGreatVSimD
namespace Go.Proofs.YtpkdhmnlpnijhaaGreat
set_option linter.unusedVariables false
set_option linter.unusedSimpArgs false
set_option linter.unusedSectionVars false
open Go Go.RowKit
set_option maxRecDepth 100000
def skp (i j : Nat) : Nat := if j < i then j else j + 1
def sg2 (i : Nat) : Rat := if i % 2 = 0 then 1 else -1
def det : Nat → (Nat → Nat → Rat) → Rat
 | 0, _ => 1
 | m + 1, c => sumN (m + 1) fun i => sg2 i * c i 0 * det m fun j k => c (skp i j) (k + 1)
theorem skp_ne (i j : Nat) : skp i j ≠ i := by unfold skp; split <;> omega
theorem skp_lt {i j m : Nat} (h : j < m) : skp i j < m + 1 := by unfold skp; split <;> omega
theorem det_congr : ∀ (m : Nat) {c e : Nat → Nat → Rat}, (∀ j, j < m → c j = e j) → det m c = det m e
 | 0, _, _, _ => rfl
 | m + 1, c, e, h => by
   simp only [det]
   refine sumN_congr _ fun i hi => ?_
   rw [h i hi, det_congr m (c := fun j k => c (skp i j) (k + 1)) (e := fun j k => e (skp i j) (k + 1)) fun j hj => by rw [h _ (skp_lt hj)]]
def setC (c : Nat → Nat → Rat) (t : Nat) (u : Nat → Rat) : Nat → Nat → Rat := fun j => if j = t then u else c j
theorem setC_same (c : Nat → Nat → Rat) (t : Nat) (u : Nat → Rat) : setC c t u t = u := if_pos rfl
theorem setC_ne {c : Nat → Nat → Rat} {t j : Nat} (u : Nat → Rat) (h : j ≠ t) : setC c t u j = c j := if_neg h
def dwn (i t : Nat) : Nat := if t < i then t else t - 1
theorem skp_eq {i t j : Nat} (h : i ≠ t) : skp i j = t ↔ j = dwn i t := by unfold skp dwn; split <;> split <;> omega
theorem minor_at (c : Nat → Nat → Rat) (t : Nat) (u : Nat → Rat) : (fun j k => setC c t u (skp t j) (k + 1)) = fun j k => c (skp t j) (k + 1) := by
 funext j k; rw [setC_ne u (skp_ne t j)]
theorem minor_set (c : Nat → Nat → Rat) {i t : Nat} (u : Nat → Rat) (h : i ≠ t) : (fun j k => setC c t u (skp i j) (k + 1)) = setC (fun j k => c (skp i j) (k + 1)) (dwn i t) fun k => u (k + 1) := by
 funext j k
 by_cases e : j = dwn i t
 · rw [(skp_eq h).2 e, setC_same, e, setC_same]
 · rw [setC_ne _ (fun h2 => e ((skp_eq h).1 h2)), setC_ne _ e]
theorem det_lin (a b : Rat) : ∀ (m : Nat) (c : Nat → Nat → Rat) (t : Nat) (u w : Nat → Rat), t < m → det m (setC c t fun k => a * u k + b * w k) = a * det m (setC c t u) + b * det m (setC c t w)
 | 0, _, _, _, _, h => absurd h (Nat.not_lt_zero _)
 | m + 1, c, t, u, w, h => by
   simp only [det]
   rw [← sumN_mul, ← sumN_mul, ← sumN_add]
   refine sumN_congr _ fun i hi => ?_
   by_cases e : i = t
   · subst e
     rw [minor_at, minor_at, minor_at, setC_same, setC_same, setC_same]; grind
   · rw [minor_set c _ e, minor_set c _ e, minor_set c _ e, setC_ne _ e, setC_ne _ e, setC_ne _ e]
     have ht : dwn i t < m := by unfold dwn; split <;> omega
     rw [det_lin a b m _ (dwn i t) (fun k => u (k + 1)) (fun k => w (k + 1)) ht]; grind
theorem sumN_two0 {f : Nat → Rat} {n a b : Nat} (ha : a < n) (hb : b < n) (hab : a ≠ b) (h : ∀ i, i < n → i ≠ a → i ≠ b → f i = 0) : sumN n f = f a + f b := by
 rw [sumN_split f n ha, sumN_split _ n hb, if_neg hab.symm]
 rw [sumN_congr (g := fun _ => 0) n fun i hi => ?_, sumN_zero]
 · grind
 · by_cases e : i = b
   · rw [if_pos e]
   · rw [if_neg e]
     by_cases e2 : i = a
     · rw [if_pos e2]
     · rw [if_neg e2]; exact h i hi e2 e
theorem sg2_succ (t : Nat) : sg2 (t + 1) = -(sg2 t) := by unfold sg2; split <;> split <;> first | omega | grind
theorem det_adj : ∀ (m : Nat) (c : Nat → Nat → Rat) (t : Nat), t + 1 < m → c t = c (t + 1) → det m c = 0
 | 0, _, _, h, _ => absurd h (Nat.not_lt_zero _)
 | m + 1, c, t, h, e => by
   simp only [det]
   rw [sumN_two0 (a := t) (b := t + 1) (by omega) h (by omega) fun i hi h1 h2 => ?_]
   · have em : det m (fun j k => c (skp t j) (k + 1)) = det m fun j k => c (skp (t + 1) j) (k + 1) := det_congr m fun j hj => by
       funext k
       unfold skp
       by_cases e1 : j < t
       · rw [if_pos e1, if_pos (by omega)]
       · by_cases e2 : j = t
         · subst e2; rw [if_neg e1, if_pos (by omega), e]
         · rw [if_neg e1, if_neg (by omega)]
     rw [em, sg2_succ, e]; grind
   · have hz : det m (fun j k => c (skp i j) (k + 1)) = 0 := by
       by_cases hlt : i < t
       · refine det_adj m _ (t - 1) (by omega) ?_
         funext k
         show c (skp i (t - 1)) (k + 1) = c (skp i (t - 1 + 1)) (k + 1)
         rw [show skp i (t - 1) = t by unfold skp; rw [if_neg (by omega)]; omega, show skp i (t - 1 + 1) = t + 1 by unfold skp; rw [if_neg (by omega)]; omega, e]
       · refine det_adj m _ t (by omega) ?_
         funext k
         show c (skp i t) (k + 1) = c (skp i (t + 1)) (k + 1)
         rw [show skp i t = t by unfold skp; rw [if_pos (by omega)], show skp i (t + 1) = t + 1 by unfold skp; rw [if_pos (by omega)], e]
     rw [hz]; grind
theorem setC_self (c : Nat → Nat → Rat) (t : Nat) : setC c t (c t) = c := by
 funext j; unfold setC; split
 · rename_i h; rw [h]
 · rfl
theorem setC_comm (c : Nat → Nat → Rat) {t s : Nat} (u w : Nat → Rat) (h : t ≠ s) : setC (setC c t u) s w = setC (setC c s w) t u := by
 funext j; unfold setC
 by_cases e1 : j = s
 · rw [if_pos e1, if_neg (by omega), if_pos e1]
 · by_cases e2 : j = t
   · rw [if_neg e1, if_pos e2, if_pos e2]
   · rw [if_neg e1, if_neg e2, if_neg e2, if_neg e1]
theorem det_add {m : Nat} (c : Nat → Nat → Rat) {t : Nat} (u w : Nat → Rat) (h : t < m) : det m (setC c t fun k => u k + w k) = det m (setC c t u) + det m (setC c t w) := by
 have := det_lin 1 1 m c t u w h
 rw [show (fun k => 1 * u k + 1 * w k) = fun k => u k + w k from funext fun k => by grind] at this
 grind
theorem det_swap {m : Nat} (c : Nat → Nat → Rat) {t : Nat} (u w : Nat → Rat) (h : t + 1 < m) : det m (setC (setC c t u) (t + 1) w) = -(det m (setC (setC c t w) (t + 1) u)) := by
 have eq : ∀ x : Nat → Rat, det m (setC (setC c t x) (t + 1) x) = 0 := fun x => det_adj m _ t h (by rw [setC_same, setC_ne _ (by omega), setC_same])
 have h0 := eq fun k => u k + w k
 rw [det_add _ u w h, setC_comm c _ u (by omega), setC_comm c _ w (by omega), det_add _ u w (by omega), det_add _ u w (by omega)] at h0
 have a := eq u
 have b := eq w
 rw [setC_comm c u u (by omega)] at a
 rw [setC_comm c w w (by omega)] at b
 rw [setC_comm (t := t) (s := t + 1) c u w (by omega), setC_comm (t := t) (s := t + 1) c w u (by omega)]
 grind
theorem det_alt {m : Nat} : ∀ (g : Nat) (c : Nat → Nat → Rat) (a : Nat), a + g + 1 < m → c a = c (a + g + 1) → det m c = 0
 | 0, c, a, h, e => det_adj m c a h e
 | g + 1, c, a, h, e => by
   have e1 : c = setC (setC c (a + g + 1) (c (a + g + 1))) (a + g + 1 + 1) (c (a + g + 1 + 1)) := by rw [setC_self, setC_self]
   rw [e1, det_swap c _ _ (by omega), det_alt g _ a (by omega) ?_]
   · grind
   · rw [setC_ne _ (by omega), setC_ne _ (by omega), setC_ne _ (by omega), setC_same, e]; rfl
theorem det_same {m : Nat} (c : Nat → Nat → Rat) {a b : Nat} (ha : a < m) (hb : b < m) (hab : a ≠ b) (e : c a = c b) : det m c = 0 := by
 rcases Nat.lt_or_gt_of_ne hab with h | h
 · obtain ⟨g, rfl⟩ : ∃ g, b = a + g + 1 := ⟨b - a - 1, by omega⟩
   exact det_alt g c a hb e
 · obtain ⟨g, rfl⟩ : ∃ g, a = b + g + 1 := ⟨a - b - 1, by omega⟩
   exact det_alt g c b ha e.symm
theorem det_int : ∀ (m : Nat) (c : Nat → Nat → Rat), (∀ j k, ∃ z : Int, c j k = z) → ∃ z : Int, det m c = z
 | 0, _, _ => ⟨1, rfl⟩
 | m + 1, c, h => by
   have hs : ∀ n, ∃ z : Int, sumN n (fun i => sg2 i * c i 0 * det m fun j k => c (skp i j) (k + 1)) = z := by
    intro n
    induction n with
    | zero => exact ⟨0, rfl⟩
    | succ n ih =>
      obtain ⟨z, hz⟩ := ih
      obtain ⟨x, hx⟩ := h n 0
      obtain ⟨y, hy⟩ := det_int m (fun j k => c (skp n j) (k + 1)) fun j k => h _ _
      simp only [sumN, hz, hx, hy]
      unfold sg2
      split
      · exact ⟨z + x * y, by rw [Rat.intCast_add, Rat.intCast_mul]; grind⟩
      · exact ⟨z - x * y, by rw [Rat.intCast_sub, Rat.intCast_mul]; grind⟩
   exact hs (m + 1)
theorem cramer {m : Nat} (c : Nat → Nat → Rat) {r : Nat} (hr : r < m) (x : Nat → Rat) : det m (setC c r fun k => sumN m fun i => x i * c i k) = x r * det m c := by
 have key : ∀ n, n ≤ m → det m (setC c r fun k => sumN n fun i => x i * c i k) = (if r < n then x r else 0) * det m c := by
  intro n
  induction n with
  | zero =>
    intro _
    rw [if_neg (by omega)]
    have := det_lin 0 0 m c r (c r) (c r) hr
    rw [show (fun k => 0 * c r k + 0 * c r k) = fun k => sumN 0 fun i => x i * c i k from funext fun k => by simp only [sumN]; grind] at this
    rw [this]; grind
  | succ n ih =>
    intro hn
    have ih := ih (by omega)
    have e := det_lin 1 (x n) m c r (fun k => sumN n fun i => x i * c i k) (c n) hr
    rw [show (fun k => 1 * sumN n (fun i => x i * c i k) + x n * c n k) = fun k => sumN (n + 1) fun i => x i * c i k from funext fun k => by simp only [sumN]; grind] at e
    rw [e, ih]
    by_cases h1 : n = r
    · subst h1
      rw [if_neg (by omega), if_pos (by omega), setC_self]; grind
    · have h0 : det m (setC c r (c n)) = 0 := det_same _ hr (by omega) (fun e => h1 e.symm) (by rw [setC_same, setC_ne _ h1])
      rw [h0]
      by_cases h2 : r < n
      · rw [if_pos h2, if_pos (by omega)]; grind
      · rw [if_neg h2, if_neg (by omega)]; grind
 have := key m (Nat.le_refl _)
 rwa [if_pos hr] at this
theorem det_unit : ∀ m : Nat, det m (fun j k => if j = k then 1 else 0) = 1
 | 0 => rfl
 | m + 1 => by
   simp only [det]
   rw [sumN_split _ (m + 1) (s := 0) (by omega), sumN_congr (g := fun _ => 0) (m + 1) fun i hi => ?_, sumN_zero]
   · have e : det m (fun j k => if skp 0 j = k + 1 then (1 : Rat) else 0) = det m fun j k => if j = k then 1 else 0 := det_congr m fun j hj => by
       funext k
       rw [show skp 0 j = j + 1 from rfl]
       by_cases e : j = k
       · rw [if_pos (show j + 1 = k + 1 by omega), if_pos e]
       · rw [if_neg (show ¬ j + 1 = k + 1 by omega), if_neg e]
     rw [e, det_unit m]
     have : sg2 0 = 1 := rfl
     rw [this]; simp only [if_true]; grind
   · by_cases e : i = 0
     · rw [if_pos e]
     · rw [if_neg e, if_neg e]; grind
namespace Dic
def colV (d0 : Dic) (q k : Nat) : Rat := if k = d0.m then (if q < d0.n then -(d0.g q) else 0) else (if q < d0.n then d0.a k q else if q = d0.n + k then 1 else 0)
def colR (d0 : Dic) (k : Nat) : Rat := if k = d0.m then d0.z else d0.v k
def colE (d0 : Dic) (k : Nat) : Rat := if k = d0.m then 1 else 0
def basC (d0 d : Dic) (i : Nat) : Nat → Rat := if i < d0.m then colV d0 (d.own i) else colE d0
structure Base (d0 d : Dic) : Prop where
 m : d.m = d0.m
 n : d.n = d0.n
 f : ∀ j k, j < d.n → k < d0.m + 1 → colV d0 (d.free j) k = sumN d.m (fun i => d.a i j * colV d0 (d.own i) k) - d.g j * colE d0 k
 r : ∀ k, k < d0.m + 1 → colR d0 k = sumN d.m (fun i => d.v i * colV d0 (d.own i) k) + d.z * colE d0 k
theorem base_first {d : Dic} (h : First d) (hf : ∀ j, j < d.n → d.free j = j) (ho : ∀ i, i < d.m → d.own i = d.n + i) : Base d d := by
 have e : ∀ (k : Nat) (x : Nat → Rat), k < d.m + 1 → sumN d.m (fun i => x i * colV d (d.own i) k) = if k < d.m then x k else 0 := fun k x hk => by
  rw [sumN_congr (g := fun i => if i = k then (if k < d.m then x k else 0) else 0) d.m fun i hi => ?_, sumN_one]
  · split <;> grind
  · rw [ho i hi]
    unfold colV
    rw [if_neg (show ¬ d.n + i < d.n by omega), if_neg (show ¬ d.n + i < d.n by omega)]
    by_cases e1 : k = d.m
    · rw [if_pos e1, if_neg (by omega)]; grind
    · rw [if_neg e1]
      by_cases e2 : i = k
      · subst e2; rw [if_pos rfl, if_pos rfl, if_pos hi]; grind
      · rw [if_neg (by omega), if_neg e2]; grind
 refine ⟨rfl, rfl, fun j k hj hk => ?_, fun k hk => ?_⟩
 · rw [e k (fun i => d.a i j) hk, hf j hj]
   unfold colV colE
   by_cases e1 : k = d.m
   · rw [if_pos e1, if_pos hj, if_neg (by omega), if_pos e1]; grind
   · rw [if_neg e1, if_pos hj, if_pos (by omega), if_neg e1]; grind
 · rw [e k d.v hk]
   unfold colR colE
   by_cases e1 : k = d.m
   · rw [if_pos e1, if_neg (by omega), if_pos e1]; grind
   · rw [if_neg e1, if_pos (by omega), if_neg e1]; grind
theorem base_ex {d0 d : Dic} (h : Base d0 d) {r s : Nat} (hr : r < d.m) (hs : s < d.n) (hp : d.a r s ≠ 0) : Base d0 (d.ex r s) := by
 have hpi : d.a r s * (1 / d.a r s) = 1 := by grind
 generalize hI : 1 / d.a r s = I at *
 have hv : ∀ x : Rat, x / d.a r s = x * I := fun x => by rw [← hI]; grind
 -- the leaving column
 have key : ∀ k, k < d0.m + 1 → colV d0 (d.own r) k = I * colV d0 (d.free s) k - I * sumN d.m (fun i => if i = r then 0 else d.a i s * colV d0 (d.own i) k) + I * d.g s * colE d0 k := fun k hk => by
  have e := h.f s k hs hk
  rw [sumN_split _ d.m hr] at e
  rw [e]
  have : I * (d.a r s * colV d0 (d.own r) k) = d.a r s * I * colV d0 (d.own r) k := by grind
  grind
 have others : ∀ (k : Nat) (x : Nat → Rat), sumN d.m (fun i => (if i = r then x r * I else x i - d.a i s * (x r * I)) * colV d0 (if i = r then d.free s else d.own i) k) =
     x r * I * colV d0 (d.free s) k + (sumN d.m (fun i => if i = r then 0 else x i * colV d0 (d.own i) k) - x r * I * sumN d.m (fun i => if i = r then 0 else d.a i s * colV d0 (d.own i) k)) := fun k x => by
  rw [sumN_split _ d.m hr, if_pos rfl, if_pos rfl, ← sumN_mul, ← sumN_sub]
  refine congrArg _ (sumN_congr _ fun i _ => ?_)
  by_cases e : i = r
  · rw [if_pos e, if_pos e, if_pos e]; grind
  · rw [if_neg e, if_neg e, if_neg e, if_neg e, if_neg e]; grind
 refine ⟨h.m, h.n, fun j k hj hk => ?_, fun k hk => ?_⟩
 · by_cases e : j = s
   · subst e
     have e1 : (fun i => (d.ex r j).a i j * colV d0 ((d.ex r j).own i) k) = fun i => (if i = r then I else 0 - d.a i j * I) * colV d0 (if i = r then d.free j else d.own i) k := by
      funext i; simp only [ex, up, if_true, hI]
     have e2 : sumN d.m (fun i => (if i = r then I else 0 - d.a i j * I) * colV d0 (if i = r then d.free j else d.own i) k) = I * colV d0 (d.free j) k - I * sumN d.m (fun i => if i = r then 0 else d.a i j * colV d0 (d.own i) k) := by
      rw [sumN_split _ d.m hr, if_pos rfl, if_pos rfl, ← sumN_mul]
      have : sumN d.m (fun i => if i = r then 0 else (if i = r then I else 0 - d.a i j * I) * colV d0 (if i = r then d.free j else d.own i) k) = -(sumN d.m fun i => I * if i = r then 0 else d.a i j * colV d0 (d.own i) k) := by
       rw [show -(sumN d.m fun i => I * if i = r then 0 else d.a i j * colV d0 (d.own i) k) = (-1) * (sumN d.m fun i => I * if i = r then 0 else d.a i j * colV d0 (d.own i) k) by grind, ← sumN_mul]
       refine sumN_congr _ fun i _ => ?_
       by_cases e : i = r
       · rw [if_pos e, if_pos e]; grind
       · rw [if_neg e, if_neg e, if_neg e, if_neg e]; grind
      rw [this]; grind
     show colV d0 ((d.ex r j).free j) k = sumN d.m _ - (d.ex r j).g j * colE d0 k
     rw [e1, e2, show (d.ex r j).free j = d.own r by simp only [ex, up, if_true], show (d.ex r j).g j = 0 - d.g j * I by simp only [ex, if_true, hI], key k hk]
     grind
   · have e1 : (fun i => (d.ex r s).a i j * colV d0 ((d.ex r s).own i) k) = fun i => (if i = r then d.a r j * I else d.a i j - d.a i s * (d.a r j * I)) * colV d0 (if i = r then d.free s else d.own i) k := by
       funext i; simp only [ex, up, if_neg e, hv]
     show colV d0 ((d.ex r s).free j) k = sumN d.m _ - (d.ex r s).g j * colE d0 k
     rw [e1, others k fun i => d.a i j, show (d.ex r s).free j = d.free j by simp only [ex, up, if_neg e], show (d.ex r s).g j = d.g j - d.g s * (d.a r j * I) by simp only [ex, if_neg e, hv]]
     have f1 := h.f j k hj hk
     rw [sumN_split _ d.m hr] at f1
     have f2 := key k hk
     rw [f1, f2]
     grind
 · have e1 : (fun i => (d.ex r s).v i * colV d0 ((d.ex r s).own i) k) = fun i => (if i = r then d.v r * I else d.v i - d.a i s * (d.v r * I)) * colV d0 (if i = r then d.free s else d.own i) k := by
     funext i; simp only [ex, up, hv]
   show colR d0 k = sumN d.m _ + (d.ex r s).z * colE d0 k
   rw [e1, others k d.v, show (d.ex r s).z = d.z + d.g s * (d.v r * I) by simp only [ex, hv]]
   have f1 := h.r k hk
   rw [sumN_split _ d.m hr] at f1
   have f2 := key k hk
   rw [f1, f2]
   grind
end Dic
theorem det_congr2 : ∀ (m : Nat) {c e : Nat → Nat → Rat}, (∀ j k, j < m → k < m → c j k = e j k) → det m c = det m e
 | 0, _, _, _ => rfl
 | m + 1, c, e, h => by
   simp only [det]
   refine sumN_congr _ fun i hi => ?_
   rw [h i 0 hi (by omega), det_congr2 m (c := fun j k => c (skp i j) (k + 1)) (e := fun j k => e (skp i j) (k + 1)) fun j k hj hk => h _ _ (skp_lt hj) (by omega)]
namespace Dic
def delta (d0 d : Dic) : Rat := det (d0.m + 1) (basC d0 d)
structure IntD (d : Dic) : Prop where
 a : ∀ i j, ∃ z : Int, d.a i j = z
 v : ∀ i, ∃ z : Int, d.v i = z
 g : ∀ j, ∃ z : Int, d.g j = z
 z : ∃ z : Int, d.z = z
theorem delta_first {d : Dic} (ho : ∀ i, i < d.m → d.own i = d.n + i) : delta d d = 1 := by
 unfold delta
 rw [← det_unit (d.m + 1)]
 refine det_congr _ fun j hj => ?_
 funext k
 unfold basC
 by_cases h : j < d.m
 · rw [if_pos h, ho j h]
   unfold colV
   rw [if_neg (show ¬ d.n + j < d.n by omega), if_neg (show ¬ d.n + j < d.n by omega)]
   by_cases e : k = d.m
   · rw [if_pos e, if_neg (by omega)]
   · rw [if_neg e]
     by_cases e2 : j = k
     · rw [if_pos (by omega), if_pos e2]
     · rw [if_neg (by omega), if_neg e2]
 · obtain rfl : j = d.m := by omega
   rw [if_neg h]
   unfold colE
   by_cases e : k = d.m
   · rw [if_pos e, if_pos e.symm]
   · rw [if_neg e, if_neg (fun h => e h.symm)]
section
variable {d0 d : Dic}
theorem colV_int (h : IntD d0) (q k : Nat) : ∃ z : Int, colV d0 q k = z := by
 unfold colV
 split
 · split
   · obtain ⟨z, hz⟩ := h.g q; exact ⟨-z, by rw [hz, Rat.intCast_neg]⟩
   · exact ⟨0, rfl⟩
 · split
   · exact h.a k q
   · split
     · exact ⟨1, rfl⟩
     · exact ⟨0, rfl⟩
theorem colR_int (h : IntD d0) (k : Nat) : ∃ z : Int, colR d0 k = z := by
 unfold colR
 split
 · exact h.z
 · exact h.v k
theorem basC_int (h : IntD d0) (i k : Nat) : ∃ z : Int, basC d0 d i k = z := by
 unfold basC
 split
 · exact colV_int h _ _
 · unfold colE; split
   · exact ⟨1, rfl⟩
   · exact ⟨0, rfl⟩
theorem set_int (h : IntD d0) (t : Nat) {u : Nat → Rat} (hu : ∀ k, ∃ z : Int, u k = z) : ∃ z : Int, det (d0.m + 1) (setC (basC d0 d) t u) = z :=
 det_int _ _ fun j k => by
  unfold setC
  split
  · exact hu k
  · exact basC_int h j k
theorem col_by (hB : Base d0 d) {u : Nat → Rat} {x : Nat → Rat} {y : Rat} (hu : ∀ k, k < d0.m + 1 → u k = sumN d.m (fun i => x i * colV d0 (d.own i) k) + y * colE d0 k) {t : Nat} (ht : t < d0.m + 1) :
    det (d0.m + 1) (setC (basC d0 d) t u) = (if t < d0.m then x t else y) * delta d0 d := by
 have e : det (d0.m + 1) (setC (basC d0 d) t u) = det (d0.m + 1) (setC (basC d0 d) t fun k => sumN (d0.m + 1) fun i => (if i < d0.m then x i else y) * basC d0 d i k) := det_congr2 _ fun j k hj hk => by
  unfold setC
  by_cases e : j = t
  · rw [if_pos e, if_pos e, hu k hk, hB.m]
    simp only [sumN]
    rw [sumN_congr (f := fun i => (if i < d0.m then x i else y) * basC d0 d i k) (g := fun i => x i * colV d0 (d.own i) k) d0.m fun i hi => by unfold basC; rw [if_pos hi, if_pos hi],
     if_neg (Nat.lt_irrefl _)]
    unfold basC
    rw [if_neg (Nat.lt_irrefl _)]
  · rw [if_neg e, if_neg e]
 rw [e, cramer _ ht]; rfl
theorem delta_ex (hB : Base d0 d) {r s : Nat} (hr : r < d.m) (hs : s < d.n) : delta d0 (d.ex r s) = d.a r s * delta d0 d := by
 have hr0 : r < d0.m := by rw [← hB.m]; exact hr
 have h := col_by hB (u := colV d0 (d.free s)) (x := fun i => d.a i s) (y := -(d.g s)) (fun k hk => by rw [hB.f s k hs hk]; grind) (t := r) (by omega)
 rw [if_pos hr0] at h
 rw [← h]
 unfold delta
 refine det_congr _ fun j hj => ?_
 unfold setC basC
 by_cases e : j = r
 · subst e; rw [if_pos hr0, if_pos rfl]; simp only [ex, up, if_true]
 · rw [if_neg e]
   by_cases e2 : j < d0.m
   · rw [if_pos e2, if_pos e2]; simp only [ex, up, if_neg e]
   · rw [if_neg e2, if_neg e2]
theorem whole_a (h : IntD d0) (hB : Base d0 d) {i j : Nat} (hi : i < d.m) (hj : j < d.n) : ∃ z : Int, d.a i j * delta d0 d = z := by
 have hi0 : i < d0.m := by rw [← hB.m]; exact hi
 have e := col_by hB (u := colV d0 (d.free j)) (x := fun i => d.a i j) (y := -(d.g j)) (fun k hk => by rw [hB.f j k hj hk]; grind) (t := i) (by omega)
 rw [if_pos hi0] at e
 rw [← e]; exact set_int h i fun k => colV_int h _ k
theorem whole_g (h : IntD d0) (hB : Base d0 d) {j : Nat} (hj : j < d.n) : ∃ z : Int, d.g j * delta d0 d = z := by
 have e := col_by hB (u := colV d0 (d.free j)) (x := fun i => d.a i j) (y := -(d.g j)) (fun k hk => by rw [hB.f j k hj hk]; grind) (t := d0.m) (by omega)
 rw [if_neg (Nat.lt_irrefl _)] at e
 obtain ⟨z, hz⟩ := set_int (d := d) h d0.m fun k => colV_int h (d.free j) k
 exact ⟨-z, by rw [Rat.intCast_neg, ← hz, e]; grind⟩
theorem whole_v (h : IntD d0) (hB : Base d0 d) {i : Nat} (hi : i < d.m) : ∃ z : Int, d.v i * delta d0 d = z := by
 have hi0 : i < d0.m := by rw [← hB.m]; exact hi
 have e := col_by hB (u := colR d0) (x := d.v) (y := d.z) hB.r (t := i) (by omega)
 rw [if_pos hi0] at e
 rw [← e]; exact set_int h i fun k => colR_int h k
end
end Dic
namespace Dic
structure Den (d0 d : Dic) (D : Rat) : Prop where
 base : Base d0 d
 e : D = delta d0 d ∨ D = -(delta d0 d)
section
variable {d0 d : Dic} {D : Rat} (hI : IntD d0) (h : Den d0 d D)
include hI h
theorem den_a {i j : Nat} (hi : i < d.m) (hj : j < d.n) : ∃ z : Int, d.a i j * D = z := by
 obtain ⟨z, hz⟩ := whole_a hI h.base hi hj
 rcases h.e with e | e
 · exact ⟨z, by rw [e, hz]⟩
 · exact ⟨-z, by rw [e, Rat.intCast_neg, ← hz]; grind⟩
theorem den_v {i : Nat} (hi : i < d.m) : ∃ z : Int, d.v i * D = z := by
 obtain ⟨z, hz⟩ := whole_v hI h.base hi
 rcases h.e with e | e
 · exact ⟨z, by rw [e, hz]⟩
 · exact ⟨-z, by rw [e, Rat.intCast_neg, ← hz]; grind⟩
theorem den_g {j : Nat} (hj : j < d.n) : ∃ z : Int, d.g j * D = z := by
 obtain ⟨z, hz⟩ := whole_g hI h.base hj
 rcases h.e with e | e
 · exact ⟨z, by rw [e, hz]⟩
 · exact ⟨-z, by rw [e, Rat.intCast_neg, ← hz]; grind⟩
omit hI in
theorem den_ex {r s : Nat} (hr : r < d.m) (hs : s < d.n) (hp : d.a r s ≠ 0) : Den d0 (d.ex r s) (d.a r s * D) ∧ Den d0 (d.ex r s) (-(d.a r s * D)) := by
 have hb := base_ex h.base hr hs hp
 have hd := delta_ex h.base hr hs
 rcases h.e with e | e
 · exact ⟨⟨hb, .inl (by rw [hd, e])⟩, ⟨hb, .inr (by rw [hd, e])⟩⟩
 · exact ⟨⟨hb, .inr (by rw [hd, e]; grind)⟩, ⟨hb, .inl (by rw [hd, e]; grind)⟩⟩
end
section
variable {d : Dic} {D : Rat} {r s : Nat} (hp : d.a r s ≠ 0)
include hp
theorem next_a {i j : Nat} (hi : i ≠ r) (hj : j ≠ s) : d.a i j * D * (d.a r s * D) - d.a i s * D * (d.a r j * D) = (d.ex r s).a i j * (d.a r s * D) * D := by
 have e : (d.ex r s).a i j = d.a i j - d.a i s * (d.a r j / d.a r s) := by simp only [ex, if_neg hi, if_neg hj]
 have m := Rat.mul_inv_cancel (d.a r s) hp
 rw [e, Rat.div_def]
 generalize (d.a r s)⁻¹ = I at *
 have : d.a i s * (d.a r j * I) * (d.a r s * D) * D = d.a i s * D * (d.a r j * D) * (d.a r s * I) := by grind
 rw [m] at this
 grind
theorem next_v {i : Nat} (hi : i ≠ r) : d.v i * D * (d.a r s * D) - d.a i s * D * (d.v r * D) = (d.ex r s).v i * (d.a r s * D) * D := by
 have e : (d.ex r s).v i = d.v i - d.a i s * (d.v r / d.a r s) := by simp only [ex, if_neg hi]
 have m := Rat.mul_inv_cancel (d.a r s) hp
 rw [e, Rat.div_def]
 generalize (d.a r s)⁻¹ = I at *
 have : d.a i s * (d.v r * I) * (d.a r s * D) * D = d.a i s * D * (d.v r * D) * (d.a r s * I) := by grind
 rw [m] at this
 grind
theorem next_g {j : Nat} (hj : j ≠ s) : d.g j * D * (d.a r s * D) - d.g s * D * (d.a r j * D) = (d.ex r s).g j * (d.a r s * D) * D := by
 have e : (d.ex r s).g j = d.g j - d.g s * (d.a r j / d.a r s) := by simp only [ex, if_neg hj]
 have m := Rat.mul_inv_cancel (d.a r s) hp
 rw [e, Rat.div_def]
 generalize (d.a r s)⁻¹ = I at *
 have : d.g s * (d.a r j * I) * (d.a r s * D) * D = d.g s * D * (d.a r j * D) * (d.a r s * I) := by grind
 rw [m] at this
 grind
theorem next_row {j : Nat} (hj : j ≠ s) : (d.ex r s).a r j * (d.a r s * D) = d.a r j * D := by
 have e : (d.ex r s).a r j = d.a r j / d.a r s := by simp only [ex, if_true, if_neg hj]
 have m := Rat.mul_inv_cancel (d.a r s) hp
 rw [e, Rat.div_def]; grind
theorem next_rowv : (d.ex r s).v r * (d.a r s * D) = d.v r * D := by
 have e : (d.ex r s).v r = d.v r / d.a r s := by simp only [ex, if_true]
 have m := Rat.mul_inv_cancel (d.a r s) hp
 rw [e, Rat.div_def]; grind
theorem next_piv : (d.ex r s).a r s * (d.a r s * D) = D := by
 have e : (d.ex r s).a r s = 1 / d.a r s := by simp only [ex, if_true]
 have m := Rat.mul_inv_cancel (d.a r s) hp
 rw [e, Rat.div_def]; grind
theorem next_col {i : Nat} (hi : i ≠ r) : (d.ex r s).a i s * (d.a r s * D) = -(d.a i s * D) := by
 have e : (d.ex r s).a i s = 0 - d.a i s * (1 / d.a r s) := by simp only [ex, if_true, if_neg hi]
 have m := Rat.mul_inv_cancel (d.a r s) hp
 rw [e, Rat.div_def]; grind
theorem next_colg : (d.ex r s).g s * (d.a r s * D) = -(d.g s * D) := by
 have e : (d.ex r s).g s = 0 - d.g s * (1 / d.a r s) := by simp only [ex, if_true]
 have m := Rat.mul_inv_cancel (d.a r s) hp
 rw [e, Rat.div_def]; grind
end
end Dic
def Bnd (x : Rat) (N : Nat) : Prop := -(N : Rat) ≤ x ∧ x ≤ (N : Rat)
theorem Bnd.mono {x : Rat} {N M : Nat} (h : Bnd x N) (hM : N ≤ M) : Bnd x M := by
 have : (N : Rat) ≤ (M : Rat) := Rat.natCast_le_natCast.2 hM
 exact ⟨by have := h.1; grind, by have := h.2; grind⟩
theorem Bnd.neg {x : Rat} {N : Nat} (h : Bnd x N) : Bnd (-x) N := ⟨by have := h.2; grind, by have := h.1; grind⟩
theorem Bnd.add {x y : Rat} {N M : Nat} (h : Bnd x N) (k : Bnd y M) : Bnd (x + y) (N + M) := by
 have := h.1; have := h.2; have := k.1; have := k.2
 exact ⟨by rw [Rat.natCast_add]; grind, by rw [Rat.natCast_add]; grind⟩
theorem Bnd.mul {x y : Rat} {N M : Nat} (h : Bnd x N) (k : Bnd y M) : Bnd (x * y) (N * M) := by
 have h1 := h.1; have h2 := h.2; have k1 := k.1; have k2 := k.2
 have a1 : 0 ≤ ((N : Rat) - x) * ((M : Rat) + y) := Rat.mul_nonneg (by grind) (by grind)
 have a2 : 0 ≤ ((N : Rat) + x) * ((M : Rat) - y) := Rat.mul_nonneg (by grind) (by grind)
 have a3 : 0 ≤ ((N : Rat) - x) * ((M : Rat) - y) := Rat.mul_nonneg (by grind) (by grind)
 have a4 : 0 ≤ ((N : Rat) + x) * ((M : Rat) + y) := Rat.mul_nonneg (by grind) (by grind)
 exact ⟨by rw [Rat.natCast_mul]; grind, by rw [Rat.natCast_mul]; grind⟩
theorem bnd_zero (N : Nat) : Bnd 0 N := by
 have : (0 : Rat) ≤ (N : Rat) := Rat.natCast_nonneg
 exact ⟨by grind, by grind⟩
theorem bnd_one : Bnd 1 1 := ⟨by decide +kernel, by decide +kernel⟩
theorem bnd_int {z : Int} {N : Nat} : Bnd (z : Rat) N ↔ z.natAbs ≤ N := by
 unfold Bnd
 rw [show (N : Rat) = ((N : Int) : Rat) from (Rat.intCast_natCast N).symm, ← Rat.intCast_neg, Rat.intCast_le_intCast, Rat.intCast_le_intCast]
 omega
theorem bnd_sum {f : Nat → Rat} {K : Nat} : ∀ n, (∀ i, i < n → Bnd (f i) K) → Bnd (sumN n f) (n * K)
 | 0, _ => by simp only [sumN]; exact bnd_zero _
 | n + 1, h => by
   simp only [sumN]
   rw [Nat.succ_mul]
   exact (bnd_sum n fun i hi => h i (by omega)).add (h n (by omega))
def detB : Nat → Nat → Nat
 | 0, _ => 1
 | m + 1, M => (m + 1) * (M * detB m M)
theorem bnd_sg (i : Nat) : Bnd (sg2 i) 1 := by unfold sg2; split <;> exact ⟨by decide +kernel, by decide +kernel⟩
theorem det_bnd {M : Nat} : ∀ (m : Nat) {c : Nat → Nat → Rat}, (∀ j k, j < m → k < m → Bnd (c j k) M) → Bnd (det m c) (detB m M)
 | 0, _, _ => bnd_one
 | m + 1, c, h => by
   simp only [det, detB]
   refine bnd_sum (m + 1) fun i hi => ?_
   have h1 := ((bnd_sg i).mul (h i 0 hi (by omega))).mul (det_bnd m (c := fun j k => c (skp i j) (k + 1)) fun j k hj hk => h _ _ (skp_lt hj) (by omega))
   rwa [Nat.one_mul] at h1
theorem detB_sz {M k : Nat} (hM : (M : Int) < bp k) : ∀ m, m ≤ 1000 → (detB m M : Int) < bp (m * (k + 1) + 1)
 | 0, _ => by rw [Nat.zero_mul]; simp only [detB, bp]; omega
 | m + 1, h => by
   have ih := detB_sz hM m (by omega)
   have e : bp ((m + 1) * (k + 1) + 1) = bp 1 * bp k * bp (m * (k + 1) + 1) := by
    rw [← bp_add, ← bp_add]; congr 1; rw [Nat.succ_mul]; omega
   rw [e]
   simp only [detB]
   have h1 : ((m + 1 : Nat) : Int) < bp 1 := by simp only [bp]; omega
   rw [Int.natCast_mul, Int.natCast_mul, ← Int.mul_assoc]
   have p1 : (0 : Int) ≤ ((m + 1 : Nat) : Int) := by omega
   have p2 : (0 : Int) ≤ (M : Int) := by omega
   have p3 : (0 : Int) ≤ (detB m M : Int) := by omega
   have a1 : ((m + 1 : Nat) : Int) * M ≤ bp 1 * bp k := Int.mul_le_mul (by omega) (by omega) p2 (by omega)
   have a2 : (0 : Int) ≤ bp 1 * bp k := Int.le_trans (Int.mul_nonneg p1 p2) a1
   by_cases e0 : bp 1 * bp k = 0
   · have : 0 < bp 1 * bp k := Int.mul_pos (by omega) (by omega)
     omega
   · calc ((m + 1 : Nat) : Int) * M * detB m M ≤ bp 1 * bp k * detB m M := Int.mul_le_mul_of_nonneg_right a1 p3
       _ < bp 1 * bp k * bp (m * (k + 1) + 1) := Int.mul_lt_mul_of_pos_left ih (by omega)
namespace Dic
structure IntB (d : Dic) (M : Nat) : Prop where
 one : 1 ≤ M
 a : ∀ i j, i < d.m → j < d.n → Bnd (d.a i j) M
 v : ∀ i, i < d.m → Bnd (d.v i) M
 g : ∀ j, j < d.n → Bnd (d.g j) M
 z : Bnd d.z M
section
variable {d0 d : Dic} {M : Nat} (hB : IntB d0 M)
include hB
theorem colV_bnd {q k : Nat} (hk : k < d0.m + 1) : Bnd (colV d0 q k) M := by
 unfold colV
 split
 · split
   · exact (hB.g q (by assumption)).neg
   · exact bnd_zero _
 · split
   · exact hB.a k q (by omega) (by assumption)
   · split
     · exact bnd_one.mono hB.one
     · exact bnd_zero _
theorem colR_bnd {k : Nat} (hk : k < d0.m + 1) : Bnd (colR d0 k) M := by
 unfold colR
 split
 · exact hB.z
 · exact hB.v k (by omega)
theorem basC_bnd {i k : Nat} (hk : k < d0.m + 1) : Bnd (basC d0 d i k) M := by
 unfold basC
 split
 · exact colV_bnd hB hk
 · unfold colE; split
   · exact bnd_one.mono hB.one
   · exact bnd_zero _
theorem set_bnd (t : Nat) {u : Nat → Rat} (hu : ∀ k, k < d0.m + 1 → Bnd (u k) M) : Bnd (det (d0.m + 1) (setC (basC d0 d) t u)) (detB (d0.m + 1) M) :=
 det_bnd _ fun j k _ hk => by
  unfold setC
  split
  · exact hu k hk
  · exact basC_bnd hB hk
variable {D : Rat} (h : Den d0 d D)
include h
theorem den_bnd : Bnd D (detB (d0.m + 1) M) := by
 have hd : Bnd (delta d0 d) (detB (d0.m + 1) M) := det_bnd _ fun j k _ hk => basC_bnd hB hk
 rcases h.e with e | e
 · rw [e]; exact hd
 · rw [e]; exact hd.neg
theorem den_of {x : Rat} (hx : Bnd (x * delta d0 d) (detB (d0.m + 1) M)) : Bnd (x * D) (detB (d0.m + 1) M) := by
 rcases h.e with e | e
 · rw [e]; exact hx
 · rw [e, show x * -(delta d0 d) = -(x * delta d0 d) by grind]; exact hx.neg
theorem bnd_a {i j : Nat} (hi : i < d.m) (hj : j < d.n) : Bnd (d.a i j * D) (detB (d0.m + 1) M) := by
 refine den_of hB h ?_
 have hi0 : i < d0.m := by rw [← h.base.m]; exact hi
 have e := col_by h.base (u := colV d0 (d.free j)) (x := fun i => d.a i j) (y := -(d.g j)) (fun k hk => by rw [h.base.f j k hj hk]; grind) (t := i) (by omega)
 rw [if_pos hi0] at e
 rw [← e]; exact set_bnd hB i fun k hk => colV_bnd hB hk
theorem bnd_g {j : Nat} (hj : j < d.n) : Bnd (d.g j * D) (detB (d0.m + 1) M) := by
 refine den_of hB h ?_
 have e := col_by h.base (u := colV d0 (d.free j)) (x := fun i => d.a i j) (y := -(d.g j)) (fun k hk => by rw [h.base.f j k hj hk]; grind) (t := d0.m) (by omega)
 rw [if_neg (Nat.lt_irrefl _)] at e
 have := (set_bnd (d := d) hB d0.m (u := colV d0 (d.free j)) fun k hk => colV_bnd hB hk).neg
 rw [e] at this
 rwa [show -(-(d.g j) * delta d0 d) = d.g j * delta d0 d by grind] at this
theorem bnd_v {i : Nat} (hi : i < d.m) : Bnd (d.v i * D) (detB (d0.m + 1) M) := by
 refine den_of hB h ?_
 have hi0 : i < d0.m := by rw [← h.base.m]; exact hi
 have e := col_by h.base (u := colR d0) (x := d.v) (y := d.z) h.base.r (t := i) (by omega)
 rw [if_pos hi0] at e
 rw [← e]; exact set_bnd hB i fun k hk => colR_bnd hB hk
end
end Dic
structure ZD where
 m : Nat
 n : Nat
 own : Nat → Nat
 free : Nat → Nat
 a : Nat → Nat → Int
 v : Nat → Int
 g : Nat → Int
 D : Int
namespace ZD
def nx (Z : ZD) (x p f y : Int) : Int := (x * p - f * y) / Z.D
def a1 (Z : ZD) (r s i j : Nat) : Int := if i = r then (if j = s then Z.D else Z.a r j) else if j = s then -(Z.a i s) else Z.nx (Z.a i j) (Z.a r s) (Z.a i s) (Z.a r j)
def v1 (Z : ZD) (r s i : Nat) : Int := if i = r then Z.v r else Z.nx (Z.v i) (Z.a r s) (Z.a i s) (Z.v r)
def g1 (Z : ZD) (r s j : Nat) : Int := if j = s then -(Z.g s) else Z.nx (Z.g j) (Z.a r s) (Z.g s) (Z.a r j)
def ex1 (Z : ZD) (r s : Nat) : ZD := { Z with a := Z.a1 r s, v := Z.v1 r s, g := Z.g1 r s, D := Z.a r s }
def turn (Z : ZD) : ZD := { Z with a := fun i j => -(Z.a i j), v := fun i => -(Z.v i), g := fun j => -(Z.g j), D := -Z.D }
def swap (Z : ZD) (r s : Nat) : ZD := { Z with own := Dic.up Z.own r (Z.free s), free := Dic.up Z.free s (Z.own r) }
def ex (Z : ZD) (r s : Nat) : ZD := (if Z.a r s < 0 then (Z.ex1 r s).turn else Z.ex1 r s).swap r s
end ZD
structure ZRel (d0 d : Dic) (Z : ZD) : Prop where
 den : Dic.Den d0 d (Z.D : Rat)
 pos : 0 < Z.D
 m : Z.m = d.m
 n : Z.n = d.n
 own : Z.own = d.own
 free : Z.free = d.free
 a : ∀ i j, i < d.m → j < d.n → d.a i j * Z.D = Z.a i j
 v : ∀ i, i < d.m → d.v i * Z.D = Z.v i
 g : ∀ j, j < d.n → d.g j * Z.D = Z.g j
theorem int_div {x D z : Int} (hD : D ≠ 0) (h : (x : Rat) = z * D) : D ∣ x ∧ x / D = z := by
 have e : x = z * D := by
  have : ((x : Int) : Rat) = ((z * D : Int) : Rat) := by rw [h, Rat.intCast_mul]
  exact Rat.intCast_inj.1 this
 exact ⟨⟨z, by rw [e, Int.mul_comm]⟩, by rw [e, Int.mul_ediv_cancel _ hD]⟩
section
variable {d0 d : Dic} {Z : ZD} {r s : Nat} (hI : Dic.IntD d0) (h : ZRel d0 d Z) (hr : r < d.m) (hs : s < d.n) (hp : d.a r s ≠ 0)
include hI h hr hs hp
theorem ZRel.at_a {i j : Nat} (hi : i < d.m) (hj : j < d.n) (e1 : i ≠ r) (e2 : j ≠ s) : Z.D ∣ Z.a i j * Z.a r s - Z.a i s * Z.a r j ∧ (d.ex r s).a i j * (Z.a r s : Rat) = (Z.a1 r s i j : Rat) := by
 have hx := (Dic.den_ex h.den hr hs hp).1
 obtain ⟨z, hz⟩ := Dic.den_a hI hx (i := i) (j := j) hi hj
 have hn := Dic.next_a (D := (Z.D : Rat)) hp e1 e2
 rw [h.a i j hi hj, h.a r s hr hs, h.a i s hi hs, h.a r j hr hj] at hn
 rw [h.a r s hr hs] at hz
 rw [hz] at hn
 have := int_div (x := Z.a i j * Z.a r s - Z.a i s * Z.a r j) (D := Z.D) (z := z) (by have := h.pos; omega) (by rw [Rat.intCast_sub, Rat.intCast_mul, Rat.intCast_mul]; exact hn)
 refine ⟨this.1, ?_⟩
 rw [hz]
 unfold ZD.a1 ZD.nx
 rw [if_neg e1, if_neg e2, this.2]
theorem ZRel.at_v {i : Nat} (hi : i < d.m) (e1 : i ≠ r) : Z.D ∣ Z.v i * Z.a r s - Z.a i s * Z.v r ∧ (d.ex r s).v i * (Z.a r s : Rat) = (Z.v1 r s i : Rat) := by
 have hx := (Dic.den_ex h.den hr hs hp).1
 obtain ⟨z, hz⟩ := Dic.den_v hI hx (i := i) hi
 have hn := Dic.next_v (D := (Z.D : Rat)) hp e1
 rw [h.v i hi, h.a r s hr hs, h.a i s hi hs, h.v r hr] at hn
 rw [h.a r s hr hs] at hz
 rw [hz] at hn
 have := int_div (x := Z.v i * Z.a r s - Z.a i s * Z.v r) (D := Z.D) (z := z) (by have := h.pos; omega) (by rw [Rat.intCast_sub, Rat.intCast_mul, Rat.intCast_mul]; exact hn)
 refine ⟨this.1, ?_⟩
 rw [hz]
 unfold ZD.v1 ZD.nx
 rw [if_neg e1, this.2]
theorem ZRel.at_g {j : Nat} (hj : j < d.n) (e2 : j ≠ s) : Z.D ∣ Z.g j * Z.a r s - Z.g s * Z.a r j ∧ (d.ex r s).g j * (Z.a r s : Rat) = (Z.g1 r s j : Rat) := by
 have hx := (Dic.den_ex h.den hr hs hp).1
 obtain ⟨z, hz⟩ := Dic.den_g hI hx (j := j) hj
 have hn := Dic.next_g (D := (Z.D : Rat)) hp e2
 rw [h.g j hj, h.a r s hr hs, h.g s hs, h.a r j hr hj] at hn
 rw [h.a r s hr hs] at hz
 rw [hz] at hn
 have := int_div (x := Z.g j * Z.a r s - Z.g s * Z.a r j) (D := Z.D) (z := z) (by have := h.pos; omega) (by rw [Rat.intCast_sub, Rat.intCast_mul, Rat.intCast_mul]; exact hn)
 refine ⟨this.1, ?_⟩
 rw [hz]
 unfold ZD.g1 ZD.nx
 rw [if_neg e2, this.2]
theorem ZRel.piv : Z.a r s ≠ 0 := fun e => by
 have h1 := h.a r s hr hs
 rw [e] at h1
 have hD : (Z.D : Rat) ≠ 0 := fun h0 => by
  have : Z.D = 0 := Rat.intCast_inj.1 (by rw [h0]; rfl)
  have := h.pos; omega
 have h2 : d.a r s * (Z.D : Rat) = 0 := by rw [h1]; rfl
 rcases Rat.mul_eq_zero.1 h2 with h3 | h3
 · exact hp h3
 · exact hD h3
theorem ZRel.all1 : (∀ i j, i < d.m → j < d.n → (d.ex r s).a i j * (Z.a r s : Rat) = (Z.a1 r s i j : Rat)) ∧ (∀ i, i < d.m → (d.ex r s).v i * (Z.a r s : Rat) = (Z.v1 r s i : Rat)) ∧ ∀ j, j < d.n → (d.ex r s).g j * (Z.a r s : Rat) = (Z.g1 r s j : Rat) := by
 refine ⟨fun i j hi hj => ?_, fun i hi => ?_, fun j hj => ?_⟩
 · by_cases e1 : i = r
   · subst e1
     unfold ZD.a1
     rw [if_pos rfl]
     by_cases e2 : j = s
     · subst e2
       have := Dic.next_piv (D := (Z.D : Rat)) hp
       rw [h.a i j hr hs] at this
       rw [if_pos rfl]; exact this
     · have := Dic.next_row (D := (Z.D : Rat)) hp e2
       rw [h.a i s hr hs, h.a i j hr hj] at this
       rw [if_neg e2]; exact this
   · by_cases e2 : j = s
     · subst e2
       have := Dic.next_col (D := (Z.D : Rat)) hp e1
       rw [h.a r j hr hs, h.a i j hi hs] at this
       unfold ZD.a1
       rw [if_neg e1, if_pos rfl, Rat.intCast_neg]; exact this
     · exact (h.at_a hI hr hs hp hi hj e1 e2).2
 · by_cases e1 : i = r
   · subst e1
     have := Dic.next_rowv (D := (Z.D : Rat)) hp
     rw [h.a i s hr hs, h.v i hr] at this
     unfold ZD.v1
     rw [if_pos rfl]; exact this
   · exact (h.at_v hI hr hs hp hi e1).2
 · by_cases e2 : j = s
   · subst e2
     have := Dic.next_colg (D := (Z.D : Rat)) hp
     rw [h.a r j hr hs, h.g j hs] at this
     unfold ZD.g1
     rw [if_pos rfl, Rat.intCast_neg]; exact this
   · exact (h.at_g hI hr hs hp hj e2).2
theorem ZRel.ex : ZRel d0 (d.ex r s) (Z.ex r s) := by
 obtain ⟨ha, hv, hg⟩ := h.all1 hI hr hs hp
 have hne := h.piv hI hr hs hp
 have hd := Dic.den_ex h.den hr hs hp
 rw [h.a r s hr hs] at hd
 by_cases hneg : Z.a r s < 0
 · have eZ : Z.ex r s = ((Z.ex1 r s).turn).swap r s := by unfold ZD.ex; rw [if_pos hneg]
   rw [eZ]
   have eD : (((((Z.ex1 r s).turn).swap r s).D : Int) : Rat) = -(Z.a r s : Rat) := by show ((-(Z.a r s) : Int) : Rat) = _; rw [Rat.intCast_neg]
   refine ⟨?_, by show 0 < -(Z.a r s); omega, h.m, h.n, ?_, ?_, fun i j hi hj => ?_, fun i hi => ?_, fun j hj => ?_⟩
   · rw [eD]; exact hd.2
   · show Dic.up Z.own r (Z.free s) = _; rw [h.own, h.free]; rfl
   · show Dic.up Z.free s (Z.own r) = _; rw [h.own, h.free]; rfl
   · rw [eD]; show _ = ((-(Z.a1 r s i j) : Int) : Rat); rw [Rat.intCast_neg, ← ha i j hi hj]; grind
   · rw [eD]; show _ = ((-(Z.v1 r s i) : Int) : Rat); rw [Rat.intCast_neg, ← hv i hi]; grind
   · rw [eD]; show _ = ((-(Z.g1 r s j) : Int) : Rat); rw [Rat.intCast_neg, ← hg j hj]; grind
 · have eZ : Z.ex r s = (Z.ex1 r s).swap r s := by unfold ZD.ex; rw [if_neg hneg]
   rw [eZ]
   refine ⟨hd.1, by show 0 < Z.a r s; omega, h.m, h.n, ?_, ?_, fun i j hi hj => ha i j hi hj, fun i hi => hv i hi, fun j hj => hg j hj⟩
   · show Dic.up Z.own r (Z.free s) = _; rw [h.own, h.free]; rfl
   · show Dic.up Z.free s (Z.own r) = _; rw [h.own, h.free]; rfl
end
theorem mul_neg_iff {x D : Rat} (hD : 0 < D) : x * D < 0 ↔ x < 0 := by
 constructor
 · intro h
   refine Rat.not_le.1 fun h0 => ?_
   have := Rat.mul_nonneg h0 (Rat.le_of_lt hD)
   grind
 · intro h
   have := Rat.mul_pos (show 0 < -x by grind) hD
   grind
section
variable {d0 d : Dic} {Z : ZD} (h : ZRel d0 d Z)
include h
theorem ZRel.dpos : (0 : Rat) < (Z.D : Rat) := by
 have := Rat.intCast_lt_intCast.2 h.pos
 exact this
theorem ZRel.neg {x : Rat} {z : Int} (hx : x * Z.D = z) : neg' x = decide (z < 0) := by
 have h1 : neg' x = true ↔ z < 0 := by
  rw [neg_iff, ← mul_neg_iff h.dpos, hx]
  exact Rat.intCast_lt_intCast (b := 0)
 cases hb : neg' x
 · rw [decide_eq_false]; intro hz; rw [h1.2 hz] at hb; cases hb
 · rw [decide_eq_true (h1.1 hb)]
theorem ZRel.posB {x : Rat} {z : Int} (hx : x * Z.D = z) : pos' x = decide (z > 0) := by
 have h1 : Go.Proofs.YtpkdhmnlpnijhaaGreat.pos' x = true ↔ z > 0 := by
  rw [pos_iff]
  have h2 : (-x) * (Z.D : Rat) < 0 ↔ -x < 0 := mul_neg_iff h.dpos
  have h3 : (-x) * (Z.D : Rat) = ((-z : Int) : Rat) := by rw [Rat.intCast_neg, ← hx]; grind
  rw [h3] at h2
  have h4 : ((-z : Int) : Rat) < 0 ↔ -z < 0 := Rat.intCast_lt_intCast (b := 0)
  constructor
  · intro hx; have := h4.1 (h2.2 (by grind)); omega
  · intro hz; have := h2.1 (h4.2 (by omega)); grind
 cases hb : Go.Proofs.YtpkdhmnlpnijhaaGreat.pos' x
 · rw [decide_eq_false]; intro hz; rw [h1.2 hz] at hb; cases hb
 · rw [decide_eq_true (h1.1 hb)]
end
theorem pick_congr {f f' : Nat → Nat} {p p' : Nat → Bool} : ∀ {k : Nat}, (∀ i, i < k → p i = p' i) → (f = f') → pick f p k = pick f' p' k
 | 0, _, _ => rfl
 | k + 1, h, e => by
   subst e
   have ih := pick_congr (f := f) (f' := f) (p := p) (p' := p') (k := k) (fun i hi => h i (by omega)) rfl
   unfold pick
   rw [ih, h k (by omega)]
def zrow (Z : ZD) : Option Nat := pick Z.own (fun i => decide (Z.v i < 0)) Z.m
def zcol (Z : ZD) : Option Nat := pick Z.free (fun j => decide (Z.g j > 0)) Z.n
def zacr (Z : ZD) (r : Nat) : Option Nat := pick Z.free (fun j => decide (Z.a r j < 0)) Z.n
def zdwn (Z : ZD) (s : Nat) : Option Nat := pick Z.own (fun i => decide (Z.a i s > 0)) Z.m
section
variable {d0 d : Dic} {Z : ZD} (h : ZRel d0 d Z)
include h
theorem ZRel.row : pick d.own (fun i => neg' (d.v i)) d.m = zrow Z := by
 unfold zrow; rw [h.m]; exact pick_congr (fun i hi => h.neg (h.v i hi)) h.own.symm
theorem ZRel.col : pick d.free (fun j => Go.Proofs.YtpkdhmnlpnijhaaGreat.pos' (d.g j)) d.n = zcol Z := by
 unfold zcol; rw [h.n]; exact pick_congr (fun i hi => h.posB (h.g i hi)) h.free.symm
theorem ZRel.acr {r : Nat} (hr : r < d.m) : pick d.free (fun j => neg' (d.a r j)) d.n = zacr Z r := by
 unfold zacr; rw [h.n]; exact pick_congr (fun i hi => h.neg (h.a r i hr hi)) h.free.symm
theorem ZRel.dwn {s : Nat} (hs : s < d.n) : pick d.own (fun i => Go.Proofs.YtpkdhmnlpnijhaaGreat.pos' (d.a i s)) d.m = zdwn Z s := by
 unfold zdwn; rw [h.m]; exact pick_congr (fun i hi => h.posB (h.a i s hi hs)) h.own.symm
end
structure ZSz (Z : ZD) (S : Nat) : Prop where
 a : ∀ i j, i < Z.m → j < Z.n → szZ (Z.a i j) ≤ S
 v : ∀ i, i < Z.m → szZ (Z.v i) ≤ S
 g : ∀ j, j < Z.n → szZ (Z.g j) ≤ S
 D : szZ Z.D ≤ S
theorem ZRel.sized {d0 d : Dic} {Z : ZD} (h : ZRel d0 d Z) {M k : Nat} (hB : Dic.IntB d0 M) (hM : (M : Int) < bp k) (hm : d0.m < 1000) : ZSz Z ((d0.m + 1) * (k + 1) + 1) := by
 have hW := detB_sz hM (d0.m + 1) (by omega)
 have key : ∀ z : Int, Bnd (z : Rat) (detB (d0.m + 1) M) → szZ z ≤ (d0.m + 1) * (k + 1) + 1 := fun z hz => szZ_le (by have := bnd_int.1 hz; omega)
 refine ⟨fun i j hi hj => key _ ?_, fun i hi => key _ ?_, fun j hj => key _ ?_, key _ (Dic.den_bnd hB h.den)⟩
 · rw [← h.a i j (by rw [← h.m]; exact hi) (by rw [← h.n]; exact hj)]; exact Dic.bnd_a hB h.den (by rw [← h.m]; exact hi) (by rw [← h.n]; exact hj)
 · rw [← h.v i (by rw [← h.m]; exact hi)]; exact Dic.bnd_v hB h.den (by rw [← h.m]; exact hi)
 · rw [← h.g j (by rw [← h.n]; exact hj)]; exact Dic.bnd_g hB h.den (by rw [← h.n]; exact hj)
def lcQ (n : Nat) (q : Rat) : Nat := n / Nat.gcd n q.den * q.den
def scT (n : Nat) (l : List TermD) : Nat := l.foldl (fun n t => lcQ n (qOf t.f)) n
def scW (w : RowD) : Nat := scT (lcQ 1 (qOf w.v)) w.t
def mulTs (k : Nat) (l : List TermD) : List TermD := l.map fun t => ⟨t.v, ofQ ((k : Rat) * qOf t.f)⟩
def mulW (w : RowD) : RowD := ⟨mulTs (scW w) w.t, w.k, ofQ ((scW w : Rat) * qOf w.v)⟩
def mulS (s : SysD) : SysD := ⟨s.n, s.r.map mulW⟩
def goalM1 (l : List TermD) : Nat := scT 1 l
def mulG (l : List TermD) : List TermD := mulTs (goalM1 l) l
def zmul (n : Nat) (q : Rat) : Int := ((n / q.den : Nat) : Int) * q.num
theorem lcQ_den (n : Nat) (q : Rat) : q.den ∣ lcQ n q := Nat.dvd_mul_left _ _
theorem lcQ_num (n : Nat) (q : Rat) : n ∣ lcQ n q := by
 unfold lcQ
 obtain ⟨c, hc⟩ := Nat.gcd_dvd_right n q.den
 have h := Nat.div_mul_cancel (Nat.gcd_dvd_left n q.den)
 refine ⟨c, ?_⟩
 conv => lhs; rw [hc]
 rw [← Nat.mul_assoc]
 congr 1
 rw [← hc]; exact h
theorem lcQ_pos {n : Nat} (h : 0 < n) (q : Rat) : 0 < lcQ n q := by
 unfold lcQ
 refine Nat.mul_pos (Nat.div_pos (Nat.le_of_dvd h (Nat.gcd_dvd_left _ _)) (Nat.gcd_pos_of_pos_left _ h)) q.den_pos
theorem lcQ_le (n : Nat) (q : Rat) : lcQ n q ≤ n * q.den := Nat.mul_le_mul_right _ (Nat.div_le_self _ _)
theorem scT_num : ∀ (l : List TermD) (n : Nat), n ∣ scT n l
 | [], _ => Nat.dvd_refl _
 | t :: l, n => Nat.dvd_trans (lcQ_num n (qOf t.f)) (scT_num l _)
theorem scT_den : ∀ (l : List TermD) (n : Nat), ∀ t ∈ l, (qOf t.f).den ∣ scT n l
 | [], _, t, h => by cases h
 | u :: l, n, t, h => by
   rcases List.mem_cons.1 h with rfl | h
   · exact Nat.dvd_trans (lcQ_den n (qOf t.f)) (scT_num l _)
   · exact scT_den l _ t h
theorem scT_pos : ∀ (l : List TermD) {n : Nat}, 0 < n → 0 < scT n l
 | [], _, h => h
 | _ :: l, _, h => scT_pos l (lcQ_pos h _)
theorem den_bp {q : Rat} {B : Nat} (h : szQ q ≤ B) : (q.den : Int) < bp B := by
 rw [szQ_eq] at h
 have h1 : szZ (q.den : Int) ≤ B := by omega
 have h2 := lt_length_digs q.den
 unfold szZ at h1
 rw [Int.natAbs_natCast] at h1
 exact Int.lt_of_lt_of_le h2 (bp_le h1)
theorem lcQ_bp {n a B : Nat} (hn : (n : Int) < bp a) {q : Rat} (h : szQ q ≤ B) : (lcQ n q : Int) < bp (a + B) := by
 have h1 := lcQ_le n q
 have h2 := den_bp h
 have e := bp_add a B
 have p := bp_pos B
 rw [e]
 have h3 : ((n * q.den : Nat) : Int) < bp a * bp B := by
  rw [Int.natCast_mul]
  exact Int.lt_of_le_of_lt (Int.mul_le_mul_of_nonneg_left (Int.le_of_lt h2) (by omega)) (Int.mul_lt_mul_of_pos_right hn p)
 omega
theorem scT_bp {B : Nat} : ∀ (l : List TermD) {n a : Nat}, (n : Int) < bp a → (∀ t ∈ l, szQ (qOf t.f) ≤ B) → (scT n l : Int) < bp (a + l.length * B)
 | [], n, a, h, _ => by simpa [scT] using h
 | t :: l, n, a, h, hl => by
   have := scT_bp (B := B) l (lcQ_bp h (hl t (List.mem_cons_self ..))) fun u hu => hl u (List.mem_cons_of_mem _ hu)
   rw [List.length_cons, Nat.succ_mul, Nat.add_comm (l.length * B) B, ← Nat.add_assoc]
   exact this
theorem den_mul (q : Rat) : (q.den : Rat) * q = (q.num : Rat) := by
 have h : (q.den : Rat) ≠ 0 := by have := Rat.natCast_pos.2 q.den_pos; intro e; rw [e] at this; exact absurd this (by decide)
 have e := Rat.mkRat_self q
 rw [Rat.mkRat_eq_div, Rat.div_def] at e
 have m := Rat.mul_inv_cancel (q.den : Rat) h
 conv => lhs; rhs; rw [← e]
 grind
theorem zmul_eq {n : Nat} {q : Rat} (h : q.den ∣ n) : (n : Rat) * q = (zmul n q : Rat) := by
 obtain ⟨c, rfl⟩ := h
 unfold zmul
 rw [Nat.mul_div_cancel_left _ q.den_pos, Rat.intCast_mul, Rat.intCast_natCast, Rat.natCast_mul, ← den_mul q]
 grind
theorem qOf_ne {f : FracD} (h : sgnD f ≠ 0) : qOf f ≠ 0 := fun e => by
 unfold sgnD at h
 split at h
 · rw [e] at h; exact h (by decide +kernel)
 · exact h rfl
theorem nat_pos {k : Nat} (h : 0 < k) : (0 : Rat) < (k : Rat) := Rat.natCast_pos.2 h
theorem mulTs_goR {n : Int} {k : Nat} (hk : 0 < k) : ∀ (l : List TermD) (last : Int), goR n last l = true → goR n last (mulTs k l) = true
 | [], _, _ => rfl
 | t :: l, last, h => by
   obtain ⟨h1, h2, h3, h4⟩ := goR_cons.1 h
   refine goR_cons.2 ⟨h1, h2, ?_, mulTs_goR hk l _ h4⟩
   refine sgnD_ofQ_ne fun e => ?_
   have := nat_pos hk
   rcases Rat.mul_eq_zero.1 e with e | e
   · rw [e] at this; exact absurd this (by decide)
   · exact qOf_ne h3 e
theorem mulTs_right {l : List TermD} {n : Int} {k : Nat} (hk : 0 < k) (h : rightT l n = true) : rightT (mulTs k l) n = true := by
 simp only [rightT, Bool.and_eq_true, decide_eq_true_eq] at h ⊢
 exact ⟨h.1, mulTs_goR hk l _ h.2⟩
theorem mulTs_dot (g : Int → Rat) (k : Nat) : ∀ l : List TermD, dotS g (mulTs k l) = (k : Rat) * dotS g l
 | [] => by simp only [mulTs, List.map_nil, dotS]; grind
 | t :: l => by
   have ih := mulTs_dot g k l
   simp only [mulTs, List.map_cons, dotS, qOf_ofQ] at ih ⊢
   rw [ih]; grind
theorem mulTs_coef (k : Nat) (l : List TermD) (v : Nat) : coefT (mulTs k l) v = (k : Rat) * coefT l v := mulTs_dot _ _ _
theorem mulTs_dotD (k : Nat) (l : List TermD) (x : List FracD) : dotD (mulTs k l) x = (k : Rat) * dotD l x := by rw [dotD_eq, dotD_eq, mulTs_dot]
theorem scW_pos (w : RowD) : 0 < scW w := scT_pos _ (lcQ_pos (by decide) _)
theorem goalM_pos (l : List TermD) : 0 < goalM1 l := scT_pos _ (by decide)
theorem mulS_n (s : SysD) : (mulS s).n = s.n := rfl
theorem mulS_len (s : SysD) : (mulS s).r.length = s.r.length := by simp [mulS]
theorem mulS_get {s : SysD} {i : Nat} {w : RowD} (h : s.r[i]? = some w) : (mulS s).r[i]? = some (mulW w) := by simp [mulS, h]
theorem mulW_right {w : RowD} {n : Int} (h : rightW n w = true) : rightW n (mulW w) = true := by
 simp only [rightW, Bool.and_eq_true, decide_eq_true_eq] at h ⊢
 exact ⟨⟨⟨mulTs_right (scW_pos w) h.1.1.1, h.1.1.2⟩, h.1.2⟩, okF_ofQ _⟩
theorem mulS_right {s : SysD} (h : rightS s = true) : rightS (mulS s) = true := by
 simp only [rightS, Bool.and_eq_true, decide_eq_true_eq] at h ⊢
 refine ⟨⟨h.1.1, by rw [mulS_len]; exact h.1.2⟩, List.all_eq_true.2 fun w hw => ?_⟩
 obtain ⟨u, hu, rfl⟩ := List.mem_map.1 hw
 exact mulW_right (List.all_eq_true.1 h.2 u hu)
theorem mulG_right {l : List TermD} {n : Int} (h : rightT l n = true) : rightT (mulG l) n = true := mulTs_right (goalM_pos l) h
theorem sgQ_scale {k x : Rat} (hk : 0 < k) : sgQ (k * x) = sgQ x := by
 have tri : x < 0 ∨ x = 0 ∨ 0 < x := by
  by_cases h : x < 0
  · exact .inl h
  · by_cases h2 : 0 < x
    · exact .inr (.inr h2)
    · exact .inr (.inl (by grind))
 rcases tri with h | h | h
 · rw [sgQ_neg.2 h, sgQ_neg]
   have := Rat.mul_pos hk (show 0 < -x by grind)
   grind
 · rw [h]; congr 1; grind
 · rw [sgQ_pos.2 h, sgQ_pos]; exact Rat.mul_pos hk h
theorem mulW_holds (w : RowD) (x : List FracD) : holdsW (mulW w) x = holdsW w x := by
 unfold holdsW mulW
 simp only [qOf_ofQ]
 rw [mulTs_dotD, show (scW w : Rat) * dotD w.t x - (scW w : Rat) * qOf w.v = (scW w : Rat) * (dotD w.t x - qOf w.v) by grind, sgQ_scale (nat_pos (scW_pos w))]
theorem all_map_mul (s : SysD) (p : RowD → Bool) (h : ∀ w, p (mulW w) = p w) : (mulS s).r.all p = s.r.all p := by
 unfold mulS
 rw [List.all_map]
 congr 1
 funext w; exact h w
theorem mulS_holds {s : SysD} (hr : rightS s = true) (x : List FracD) : holdsS (mulS s) x = holdsS s x := by
 unfold holdsS
 rw [mulS_right hr, hr, mulS_n, all_map_mul s _ fun w => mulW_holds w x]
theorem mulG_dot (goal : List TermD) (x : List FracD) : dotD (mulG goal) x = (goalM1 goal : Rat) * dotD goal x := mulTs_dotD _ _ _
theorem mulS_ray {s : SysD} {goal : List TermD} (hr : rightS s = true) (hg : rightT goal s.n = true) (d : List FracD) : rayD (mulS s) (mulG goal) d = rayD s goal d := by
 unfold rayD
 rw [mulS_right hr, hr, mulS_n, mulG_right hg, hg, all_map_mul s (fun w => fitsK w.k (sgQ (dotD w.t d))) (fun w => by simp only [mulW]; rw [mulTs_dotD, sgQ_scale (nat_pos (scW_pos w))]), mulG_dot, sgQ_scale (nat_pos (goalM_pos goal))]
def scI (s : SysD) (i : Nat) : Rat := match s.r[i]? with
 | some w => (scW w : Rat)
 | none => 1
theorem scI_pos (s : SysD) (i : Nat) : 0 < scI s i := by
 unfold scI; split
 · exact nat_pos (scW_pos _)
 · decide
theorem mulS_rdG (s : SysD) (g : Int → Rat) (i : Nat) : rdG (mulS s) g i = scI s i * rdG s g i := by
 unfold rdG scI
 cases h : s.r[i]? with
 | none => rw [show (mulS s).r[i]? = none by simp [mulS, h]]; simp
 | some w => rw [mulS_get h]; exact mulTs_dot g _ _
theorem mulS_rdV (s : SysD) (i : Nat) : rdV (mulS s) i = scI s i * rdV s i := by
 unfold rdV scI
 cases h : s.r[i]? with
 | none => rw [show (mulS s).r[i]? = none by simp [mulS, h]]; simp
 | some w => rw [mulS_get h]; simp only [mulW, qOf_ofQ]
theorem mulS_signs {s : SysD} {y : Nat → Rat} {c : Rat} (hc : 0 ≤ c) (h : Signs (mulS s) y) : Signs s fun i => c * (scI s i * y i) := by
 intro i w hw
 have := h i (mulW w) (mulS_get hw)
 have hp := Rat.le_of_lt (scI_pos s i)
 refine ⟨fun hk => Rat.mul_nonneg hc (Rat.mul_nonneg hp (this.1 hk)), fun hk => ?_⟩
 have h1 := Rat.mul_nonneg hc (Rat.mul_nonneg hp (show 0 ≤ -(y i) by have := this.2 hk; grind))
 grind
section
variable {s : SysD} {goal : List TermD} (hr : rightS s = true)
include hr
theorem mulS_lower (hg : rightT goal s.n = true) {y : Nat → Rat} (h : (lowerD (mulS s) (mulG goal) (fracsOf s.r.length y)).2 = true) :
    (lowerD s goal (fracsOf s.r.length fun i => (goalM1 goal : Rat)⁻¹ * (scI s i * y i))).2 = true ∧ (goalM1 goal : Rat) * mixV s.r (fracsOf s.r.length fun i => (goalM1 goal : Rat)⁻¹ * (scI s i * y i)) = mixV (mulS s).r (fracsOf s.r.length y) := by
 have hM := nat_pos (goalM_pos goal)
 have hinv : (goalM1 goal : Rat) * (goalM1 goal : Rat)⁻¹ = 1 := Rat.mul_inv_cancel _ (by grind)
 have hi0 : 0 ≤ (goalM1 goal : Rat)⁻¹ := Rat.le_of_lt (Rat.inv_pos.2 hM)
 have hl := mulS_len s
 rw [← hl] at h
 have sg := signs_of h
 have h1 := (low_iff (mulS_right hr) (mulG_right hg) sg).1 h
 rw [hl, mulS_n] at h1
 refine ⟨(low_iff hr hg (mulS_signs hi0 sg)).2 fun v hv => ?_, ?_⟩
 · have h2 := h1 v hv
   rw [show coefT (mulG goal) v = (goalM1 goal : Rat) * coefT goal v from mulTs_coef _ _ _] at h2
   have e : sumN s.r.length (fun i => (goalM1 goal : Rat)⁻¹ * (scI s i * y i) * rdG s (indI v) i) = (goalM1 goal : Rat)⁻¹ * sumN s.r.length fun i => y i * rdG (mulS s) (indI v) i := by
    rw [← sumN_mul]
    refine sumN_congr _ fun i _ => ?_
    rw [mulS_rdG]; grind
   rw [e]
   have h3 := Rat.mul_le_mul_of_nonneg_left h2 hi0
   have h4 : (goalM1 goal : Rat)⁻¹ * ((goalM1 goal : Rat) * coefT goal v) = coefT goal v := by
    rw [← Rat.mul_assoc, Rat.mul_comm _ (goalM1 goal : Rat), hinv]; grind
   rw [← h4]; exact h3
 · rw [mixv_fracs]
   have := mixv_fracs (mulS s) y
   rw [hl] at this
   rw [this, ← sumN_mul]
   refine sumN_congr _ fun i _ => ?_
   rw [mulS_rdV]
   have : (goalM1 goal : Rat) * ((goalM1 goal : Rat)⁻¹ * (scI s i * y i) * rdV s i) = ((goalM1 goal : Rat) * (goalM1 goal : Rat)⁻¹) * (scI s i * y i * rdV s i) := by grind
   rw [this, hinv]; grind
end
noncomputable def pointR (s : SysD) (goal : List TermD) : List FracD := fracsOf s.n.toNat (pointK (fin (mulS s) (mulG goal)) (fin (mulS s) (mulG goal)).m)
noncomputable def pricesR (s : SysD) (goal : List TermD) : Nat → Rat := fun i => (goalM1 goal : Rat)⁻¹ * (scI s i * pricesK (fin (mulS s) (mulG goal)) (srcOf (mulS s) (mulG goal)) s.n.toNat i)
noncomputable def refR (s : SysD) (goal : List TermD) (r : Nat) : Nat → Rat := fun i => scI s i * refK (fin (mulS s) (mulG goal)) (srcOf (mulS s) (mulG goal)) r s.n.toNat i
noncomputable def leastR (s : SysD) (goal : List TermD) : OptD := match next (fin (mulS s) (mulG goal)) with
 | .best => ⟨0, (valueD goal (pointR s goal)).1, pointR s goal, fracsOf s.r.length (pricesR s goal), []⟩
 | .row r => ⟨1, zF, [], fracsOf s.r.length (refR s goal r), []⟩
 | .col c => match next (fin (mulS s) (mulG [])) with
   | .row r => ⟨1, zF, [], fracsOf s.r.length (refR s [] r), []⟩
   | _ => ⟨2, zF, pointR s [], [], fracsOf s.n.toNat (rayK (fin (mulS s) (mulG goal)) c (fin (mulS s) (mulG goal)).m)⟩
 | .ex _ _ => ⟨0, zF, [], [], []⟩
noncomputable def leastRD (s : SysD) (goal : List TermD) : OptD × Int := if rightS s && rightT goal s.n then (leastR s goal, 0) else (⟨0, zF, [], [], []⟩, 1)
section
variable {s : SysD} {goal : List TermD} (hr : rightS s = true)
include hr
theorem mulS_refutes {y : Nat → Rat} (h : refutesD (mulS s) (fracsOf s.r.length y) = true) : refutesD s (fracsOf s.r.length fun i => scI s i * y i) = true := by
 simp only [refutesD, Bool.and_eq_true, decide_eq_true_eq] at h
 obtain ⟨h1, h2⟩ := h
 have hg : rightT [] s.n = true := by have := (rightS_n hr).1; simp [rightT, goR]; omega
 have e1 : (goalM1 [] : Rat)⁻¹ = 1 := by decide +kernel
 have e2 : (goalM1 [] : Rat) = 1 := by decide +kernel
 obtain ⟨a, b⟩ := mulS_lower (goal := []) hr hg (y := y) h1
 rw [e1, e2] at b
 rw [e1] at a
 have ey : (fun i => (1 : Rat) * (scI s i * y i)) = fun i => scI s i * y i := funext fun i => by grind
 rw [ey] at a b
 simp only [refutesD, Bool.and_eq_true, decide_eq_true_eq]
 refine ⟨a, ?_⟩
 rw [lowerD_val a]
 have h3 : (lowerD (mulS s) (mulG []) (fracsOf s.r.length y)).1 = ofQ (mixV (mulS s).r (fracsOf s.r.length y)) := lowerD_val h1
 have h4 : (lowerD (mulS s) [] (fracsOf s.r.length y)).1 = ofQ (mixV (mulS s).r (fracsOf s.r.length y)) := h3
 rw [h4, ← b] at h2
 rwa [show (1 : Rat) * mixV s.r (fracsOf s.r.length fun i => scI s i * y i) = mixV s.r (fracsOf s.r.length fun i => scI s i * y i) by grind] at h2
variable (hg : rightT goal s.n = true)
include hg
theorem leastR_check : checkD s goal (leastR s goal) = true := by
 have hr' := mulS_right hr
 have hg' := mulG_right hg
 have hl := mulS_len s
 have hM := nat_pos (goalM_pos goal)
 unfold checkD
 simp only [hr, hg, Bool.and_self, Bool.true_and]
 unfold leastR
 cases hn : next (fin (mulS s) (mulG goal)) with
 | ex r c => exact absurd hn (fin_ended _ _ r c)
 | best =>
   obtain ⟨h1, h2⟩ := best_of hn
   obtain ⟨h3, h4⟩ := prices_lower hr' hg' h2
   have h5 := point_holds hr' h1
   have h6 := point_value (s := mulS s) (goal := mulG goal) hr' hg'
   rw [hl, mulS_n] at h3 h4
   rw [mulS_holds hr, mulS_n] at h5
   rw [mulS_n, mulG_dot] at h6
   obtain ⟨a, b⟩ := mulS_lower hr hg h3
   rw [h4, ← h6] at b
   have e : mixV s.r (fracsOf s.r.length (pricesR s goal)) = dotD goal (pointR s goal) := by
    have hc := Rat.mul_inv_cancel (goalM1 goal : Rat) (by grind)
    have b2 : (goalM1 goal : Rat)⁻¹ * ((goalM1 goal : Rat) * mixV s.r (fracsOf s.r.length (pricesR s goal))) = (goalM1 goal : Rat)⁻¹ * ((goalM1 goal : Rat) * dotD goal (pointR s goal)) := congrArg _ b
    rw [← Rat.mul_assoc, ← Rat.mul_assoc, Rat.mul_comm _ (goalM1 goal : Rat), hc] at b2
    grind
   have hv : (valueD goal (pointR s goal)).1 = ofQ (dotD goal (pointR s goal)) := by
    unfold valueD pointR
    rw [fracs_len, show rightT goal (s.n.toNat : Nat) = true from right_toNat hg, fracs_ok]
    simp only [Bool.and_self, if_true]
   have a' : (lowerD s goal (fracsOf s.r.length (pricesR s goal))).2 = true := a
   have h5' : holdsS s (pointR s goal) = true := h5
   simp only [if_pos]
   rw [a', h5', sameF_self, lowerD_val a', e, hv, sameF_self]; rfl
 | row r =>
   obtain ⟨h1, h2, h3⟩ := row_of_next hn
   have h4 := ref_refutes hr' h1 h2 h3
   rw [hl, mulS_n] at h4
   have := mulS_refutes hr h4
   simp only
   rw [if_neg (by decide), if_pos trivial, show refutesD s (fracsOf s.r.length (refR s goal r)) = true from this, sameF_self]; rfl
 | col c =>
   obtain ⟨h1, h2, h3⟩ := col_of_next hn
   have hray := ray_ok hr' hg' h1 h2 h3
   rw [mulS_ray hr hg, mulS_n] at hray
   simp only
   cases hnE : next (fin (mulS s) (mulG [])) with
   | ex r c => exact absurd hnE (fin_ended _ _ r c)
   | col c2 => exact absurd hnE (no_col _ c2)
   | best =>
     obtain ⟨b1, b2⟩ := best_of hnE
     have hp := point_holds hr' b1
     rw [mulS_holds hr, mulS_n] at hp
     simp only
     rw [if_neg (by decide), if_neg (by decide), if_pos trivial, show holdsS s (pointR s []) = true from hp, hray, sameF_self]; rfl
   | row r =>
     obtain ⟨h1, h2, h3⟩ := row_of_next hnE
     have h4 := ref_refutes hr' h1 h2 h3
     rw [hl, mulS_n] at h4
     have := mulS_refutes hr h4
     simp only
     rw [if_neg (by decide), if_pos trivial, show refutesD s (fracsOf s.r.length (refR s [] r)) = true from this, sameF_self]; rfl
theorem leastR_agrees : (leastR s goal).k = (leastE s goal).k ∧ (leastR s goal).v = (leastE s goal).v := agrees (leastR_check hr hg) (least_check hr hg)
end
def zfirst (d : Dic) : ZD := ⟨d.m, d.n, d.own, d.free, fun i j => (d.a i j).num, fun i => (d.v i).num, fun j => (d.g j).num, 1⟩
theorem num_int {x : Rat} (h : ∃ z : Int, x = z) : x * ((1 : Int) : Rat) = (x.num : Rat) := by
 obtain ⟨z, rfl⟩ := h
 rw [Rat.num_intCast]
 have : ((1 : Int) : Rat) = 1 := by decide +kernel
 rw [this]; grind
theorem zrel_first {d : Dic} (h : Dic.First d) (hI : Dic.IntD d) : ZRel d d (zfirst d) := by
 refine ⟨⟨Dic.base_first h h.free h.own, .inl ?_⟩, by show (0 : Int) < 1; decide, rfl, rfl, rfl, rfl, fun i j _ _ => num_int (hI.a i j), fun i _ => num_int (hI.v i), fun j _ => num_int (hI.g j)⟩
 rw [Dic.delta_first h.own]; show ((1 : Int) : Rat) = 1; decide +kernel
theorem dot_whole {k : Nat} (v : Int) : ∀ l : List TermD, (∀ t ∈ l, (qOf t.f).den ∣ k) → ∃ z : Int, dotS (indI v) (mulTs k l) = z
 | [], _ => ⟨0, rfl⟩
 | t :: l, h => by
   obtain ⟨z, hz⟩ := dot_whole v l fun u hu => h u (List.mem_cons_of_mem _ hu)
   have e := zmul_eq (h t (List.mem_cons_self ..))
   simp only [mulTs, List.map_cons, dotS, qOf_ofQ] at hz ⊢
   rw [hz, e]
   unfold indI
   split
   · exact ⟨zmul k (qOf t.f) + z, by rw [Rat.intCast_add]; grind⟩
   · exact ⟨z, by grind⟩
theorem mulW_whole (w : RowD) (v : Nat) : ∃ z : Int, coefT (mulW w).t v = z := dot_whole _ _ fun t ht => scT_den _ _ t ht
theorem mulW_v (w : RowD) : ∃ z : Int, qOf (mulW w).v = z := ⟨_, by simp only [mulW, qOf_ofQ]; exact zmul_eq (Nat.dvd_trans (lcQ_den _ _) (scT_num _ _))⟩
theorem mulG_whole (l : List TermD) (v : Nat) : ∃ z : Int, coefT (mulG l) v = z := dot_whole _ _ fun t ht => scT_den _ _ t ht
theorem sg_whole {b : Bool} {x : Rat} (h : ∃ z : Int, x = z) : ∃ z : Int, sgQ' b x = z := by
 obtain ⟨z, rfl⟩ := h
 unfold sgQ'; split
 · exact ⟨-z, by rw [Rat.intCast_neg]⟩
 · exact ⟨z, rfl⟩
theorem open_int (s : SysD) (goal : List TermD) : Dic.IntD (openD (mulS s) (mulG goal)).1 := by
 have key := openK_part (fun x => (∀ i j, ∃ z : Int, x.1.a i j = z) ∧ (∀ i, ∃ z : Int, x.1.v i = z) ∧ (∃ z : Int, x.1.z = z)) (fun j => -coefT (mulG goal) j) (mulS s)
  ⟨fun _ _ => ⟨0, rfl⟩, fun _ => ⟨0, rfl⟩, ⟨0, rfl⟩⟩ (fun x k w b ih hw => by
    obtain ⟨u, hu, rfl⟩ : ∃ u, u ∈ s.r ∧ mulW u = w := List.mem_map.1 (List.mem_of_getElem? hw)
    refine ⟨fun i j => ?_, fun i => ?_, ih.2.2⟩
    · simp only [addP, addRow]
      by_cases e : i = x.1.m
      · rw [if_pos e]; exact sg_whole (mulW_whole u j)
      · rw [if_neg e]; exact ih.1 i j
    · simp only [addP, addRow]
      by_cases e : i = x.1.m
      · rw [if_pos e]; exact sg_whole (mulW_v u)
      · rw [if_neg e]; exact ih.2.1 i) (mulS s).r.length
 refine ⟨key.1, key.2.1, fun j => ?_, key.2.2⟩
 rw [openD_g]
 obtain ⟨z, hz⟩ := mulG_whole goal j
 exact ⟨-z, by show -coefT (mulG goal) j = _; rw [hz, Rat.intCast_neg]⟩
structure RFit (s : SysD) (goal : List TermD) (B L : Nat) : Prop where
 hr : s.r.length ≤ 20
 hn : rightS s = true → s.n ≤ 16
 hw : ∀ w ∈ s.r, w.t.length ≤ L ∧ szF w.v ≤ B ∧ ∀ t ∈ w.t, szF t.f ≤ B
 hg : goal.length ≤ L ∧ ∀ t ∈ goal, szF t.f ≤ B
 hB : B ≤ 16
 hL : L ≤ 16
theorem szF_q {f : FracD} {B : Nat} (o : okF f = true) (h : szF f ≤ B) : szQ (qOf f) ≤ B := by unfold szQ; rw [← okF_eq o]; exact h
theorem szF_any {f : FracD} {B : Nat} (h : sgnD f ≠ 0) (hz : szF f ≤ B) : szQ (qOf f) ≤ B := by
 refine szF_q ?_ hz
 unfold sgnD at h
 split at h
 · assumption
 · exact absurd rfl h
theorem zmul_sz {n : Nat} {q : Rat} {a B : Nat} (hn : (n : Int) < bp a) (h : szQ q ≤ B) : szZ (zmul n q) ≤ a + B := by
 unfold zmul
 have h1 := szZ_mul ((n / q.den : Nat) : Int) q.num
 have h2 : szZ ((n / q.den : Nat) : Int) ≤ a := szZ_le (by
  rw [Int.natAbs_natCast]
  have := Nat.div_le_self n q.den
  omega)
 rw [szQ_eq] at h
 omega
theorem szQ_whole {z : Int} {K : Nat} (h : szZ z ≤ K) (hK : 1 ≤ K) : szQ (z : Rat) ≤ K := by
 rw [szQ_eq, Rat.num_intCast, Rat.den_intCast]
 have : szZ ((1 : Nat) : Int) = 1 := by decide +kernel
 omega
theorem whole_bnd {x : Rat} {K : Nat} (hx : ∃ z : Int, x = z) (h : szQ x ≤ K) : Bnd x (bp K).toNat := by
 obtain ⟨z, rfl⟩ := hx
 rw [szQ_eq, Rat.num_intCast] at h
 have h1 := lt_szZ z
 have h2 := bp_le (show szZ z ≤ K by omega)
 have h3 := bp_pos K
 exact bnd_int.2 (by omega)
theorem goR_sg {n : Int} : ∀ (l : List TermD) (last : Int), goR n last l = true → ∀ t ∈ l, sgnD t.f ≠ 0
 | [], _, _, t, ht => by cases ht
 | u :: l, last, h, t, ht => by
   obtain ⟨_, _, h3, h4⟩ := goR_cons.1 h
   rcases List.mem_cons.1 ht with rfl | ht
   · exact h3
   · exact goR_sg l _ h4 t ht
theorem right_sg {l : List TermD} {n : Int} (h : rightT l n = true) : ∀ t ∈ l, sgnD t.f ≠ 0 := by
 simp only [rightT, Bool.and_eq_true, decide_eq_true_eq] at h
 exact goR_sg l _ h.2
theorem mulTs_sz {k : Nat} {l : List TermD} {n : Int} {a B : Nat} (hr : rightT l n = true) (hk : (k : Int) < bp a) (hd : ∀ t ∈ l, (qOf t.f).den ∣ k) (hz : ∀ t ∈ l, szF t.f ≤ B) (hK : 1 ≤ a + B) : ∀ t ∈ mulTs k l, szF t.f ≤ a + B := by
 intro t ht
 obtain ⟨u, hu, rfl⟩ := List.mem_map.1 ht
 show szQ ((k : Rat) * qOf u.f) ≤ a + B
 rw [zmul_eq (hd u hu)]
 exact szQ_whole (zmul_sz hk (szF_any (right_sg hr u hu) (hz u hu))) hK
section
variable {s : SysD} {goal : List TermD} {B L : Nat} (h : RFit s goal B L) (hr : rightS s = true) (hg : rightT goal s.n = true)
include h
theorem RFit.nil : RFit s [] B L := ⟨h.hr, h.hn, h.hw, ⟨by simp, fun t ht => by cases ht⟩, h.hB, h.hL⟩
include hr
theorem RFit.sc {w : RowD} (hw : w ∈ s.r) : (scW w : Int) < bp (1 + B + L * B) := by
 obtain ⟨h1, h2, h3⟩ := h.hw w hw
 have hrw := rightS_row hr hw
 have e1 : ((1 : Nat) : Int) < bp 1 := by decide +kernel
 have h4 := scT_bp (B := B) w.t (lcQ_bp e1 (szF_q hrw.2.2.2 h2)) fun t ht => szF_any (right_sg hrw.1 t ht) (h3 t ht)
 have h5 : w.t.length * B ≤ L * B := Nat.mul_le_mul_right _ h1
 exact Int.lt_of_lt_of_le h4 (bp_le (by omega))
include hg
theorem RFit.gl : (goalM1 goal : Int) < bp (1 + B + L * B) := by
 obtain ⟨h1, h2⟩ := h.hg
 have e1 : ((1 : Nat) : Int) < bp 1 := by decide +kernel
 have h4 := scT_bp (B := B) goal e1 fun t ht => szF_any (right_sg hg t ht) (h2 t ht)
 have h5 : goal.length * B ≤ L * B := Nat.mul_le_mul_right _ h1
 exact Int.lt_of_lt_of_le h4 (bp_le (by omega))
theorem RFit.intB : Dic.IntB (openD (mulS s) (mulG goal)).1 (bp (1 + B + L * B + B)).toNat := by
 have hI := open_int s goal
 have hp := bp_pos (1 + B + L * B + B)
 refine ⟨by omega, fun i j hi hj => whole_bnd (hI.a i j) ?_, fun i hi => whole_bnd (hI.v i) ?_, fun j hj => whole_bnd (hI.g j) ?_, ?_⟩
 · obtain ⟨w, hw, _, ha, _⟩ := openD_row (mulS s) (mulG goal) i hi
   obtain ⟨u, hu, rfl⟩ := List.mem_map.1 (List.mem_of_getElem? hw)
   have hru := rightS_row hr hu
   rw [ha]
   have := coef_sz (mulTs_right (scW_pos u) hru.1) (B := 1 + B + L * B + B) (by omega) (mulTs_sz hru.1 (h.sc hr hu) (fun t ht => scT_den _ _ t ht) (h.hw u hu).2.2 (by omega)) j
   unfold sgQ'
   split
   · rw [szQ_neg]; exact this
   · exact this
 · obtain ⟨w, hw, hv, _⟩ := openD_row (mulS s) (mulG goal) i hi
   obtain ⟨u, hu, rfl⟩ := List.mem_map.1 (List.mem_of_getElem? hw)
   have hru := rightS_row hr hu
   rw [hv]
   have : szQ (qOf (mulW u).v) ≤ 1 + B + L * B + B := by
    simp only [mulW, qOf_ofQ]
    rw [zmul_eq (n := scW u) (Nat.dvd_trans (lcQ_den 1 (qOf u.v)) (scT_num _ _))]
    exact szQ_whole (zmul_sz (h.sc hr hu) (szF_q hru.2.2.2 (h.hw u hu).2.1)) (by omega)
   unfold sgQ'
   split
   · rw [szQ_neg]; exact this
   · exact this
 · rw [openD_g]
   rw [szQ_neg]
   exact coef_sz (mulG_right hg) (by omega) (mulTs_sz hg (h.gl hr hg) (fun t ht => scT_den _ _ t ht) h.hg.2 (by omega)) j
 · rw [show (openD (mulS s) (mulG goal)).1.z = 0 from openK_z _ _ _]; exact bnd_zero _
theorem RFit.sized {d : Dic} {Z : ZD} (hZ : ZRel (openD (mulS s) (mulG goal)).1 d Z) : ZSz Z 16384 := by
 have hm := openD_m2 (mulS s) (mulG goal)
 rw [mulS_len] at hm
 have h20 := h.hr
 have hp := bp_pos (1 + B + L * B + B)
 have hM : (((bp (1 + B + L * B + B)).toNat : Nat) : Int) < bp (1 + B + L * B + B + 1) := by
  rw [bp_add _ 1]
  have e1 : bp 1 = 1048576 := by decide +kernel
  rw [e1]; omega
 have hz := hZ.sized (h.intB hr hg) hM (by omega)
 have hB := h.hB
 have hL := h.hL
 have h1 : L * B ≤ 16 * 16 := Nat.mul_le_mul hL hB
 have h2 : ((openD (mulS s) (mulG goal)).1.m + 1) * (1 + B + L * B + B + 1 + 1) ≤ 41 * 291 := Nat.mul_le_mul (by omega) (by omega)
 exact ⟨fun i j hi hj => Nat.le_trans (hz.a i j hi hj) (by omega), fun i hi => Nat.le_trans (hz.v i hi) (by omega), fun j hj => Nat.le_trans (hz.g j hj) (by omega), Nat.le_trans hz.D (by omega)⟩
end
end Go.Proofs.YtpkdhmnlpnijhaaGreat
