/-
  What Least returns is a certificate (plain): solutions of the first dictionary are solutions of the system.
-/
import Derived.Test.YtpkdhmnlpnijhaaGreatVSimD
import Derived.Test.YtpkdhmnlpnijhaaGreatVDualX
import Derived.Test.YtpkdhmnlpnijhaaGreatVDualW
import Derived.Test.YtpkdhmnlpnijhaaGreatVSimC
namespace Go.Proofs.YtpkdhmnlpnijhaaGreat
set_option linter.unusedVariables false
set_option linter.unusedSimpArgs false
set_option linter.unusedSectionVars false
open Go Go.RowKit
set_option maxRecDepth 100000
theorem putP_0 {x : Dic × (Nat → Nat × Bool)} {row : Nat} {w : RowD} (h : w.k = 0) : putP x row w = addP w row true x := by unfold putP; simp [h]
theorem putP_1 {x : Dic × (Nat → Nat × Bool)} {row : Nat} {w : RowD} (h : w.k = 1) : putP x row w = addP w row false x := by unfold putP; simp [h]
theorem putP_2 {x : Dic × (Nat → Nat × Bool)} {row : Nat} {w : RowD} (h0 : w.k ≠ 0) (h1 : w.k ≠ 1) : putP x row w = addP w row true (addP w row false x) := by unfold putP; simp [h0, h1]
theorem openK_part2 (P : Dic × (Nat → Nat × Bool) → Prop) (g : Nat → Rat) (s : SysD) (h0 : P (dicZ s.n.toNat g, fun _ => (0, false)))
    (h : ∀ x k w b, P x → s.r[k]? = some w → (b = false → w.k ≠ 0) → (b = true → w.k ≠ 1) → P (addP w k b x)) : ∀ k, P (openK g s k)
 | 0 => h0
 | k + 1 => by
   have ih := openK_part2 P g s h0 h k
   simp only [openK]
   split
   · rename_i w hw
     by_cases e0 : w.k = 0
     · rw [putP_0 e0]; exact h _ _ _ _ ih hw (fun e => by cases e) (fun _ => by omega)
     · by_cases e1 : w.k = 1
       · rw [putP_1 e1]; exact h _ _ _ _ ih hw (fun _ => e0) (fun e => by cases e)
       · rw [putP_2 e0 e1]; exact h _ _ _ _ (h _ _ _ _ ih hw (fun _ => e0) (fun e => by cases e)) hw (fun e => by cases e) (fun _ => e1)
   · exact ih
theorem openD_row (s : SysD) (goal : List TermD) : ∀ k, k < (openD s goal).1.m → ∃ w, s.r[((openD s goal).2 k).1]? = some w ∧ (openD s goal).1.v k = sgQ' ((openD s goal).2 k).2 (qOf w.v) ∧ ((openD s goal).1.a k = fun j => sgQ' ((openD s goal).2 k).2 (coefT w.t j)) ∧
    (((openD s goal).2 k).2 = false → w.k ≠ 0) ∧ (((openD s goal).2 k).2 = true → w.k ≠ 1) := by
 refine openK_part2 (fun x => ∀ k, k < x.1.m → ∃ w, s.r[(x.2 k).1]? = some w ∧ x.1.v k = sgQ' (x.2 k).2 (qOf w.v) ∧ (x.1.a k = fun j => sgQ' (x.2 k).2 (coefT w.t j)) ∧ ((x.2 k).2 = false → w.k ≠ 0) ∧ ((x.2 k).2 = true → w.k ≠ 1)) _ s
  (fun i hi => absurd hi (Nat.not_lt_zero _)) (fun x k w b ih hw h1 h2 i hi => ?_) s.r.length
 simp only [addP, addRow] at hi ⊢
 by_cases e : i = x.1.m
 · simp only [if_pos e]; exact ⟨w, hw, rfl, rfl, h1, h2⟩
 · simp only [if_neg e]; exact ih i (by omega)
theorem addP_m (x : Dic × (Nat → Nat × Bool)) (row : Nat) (w : RowD) (b : Bool) : (addP w row b x).1.m = x.1.m + 1 := rfl
theorem addP_old {x : Dic × (Nat → Nat × Bool)} (row : Nat) (w : RowD) (b : Bool) {k : Nat} (h : k < x.1.m) : (addP w row b x).2 k = x.2 k := by
 show (if k = x.1.m then (row, b) else x.2 k) = x.2 k
 rw [if_neg (by omega)]
theorem addP_new (x : Dic × (Nat → Nat × Bool)) (row : Nat) (w : RowD) (b : Bool) : (addP w row b x).2 x.1.m = (row, b) := by
 show (if x.1.m = x.1.m then (row, b) else x.2 x.1.m) = (row, b)
 rw [if_pos rfl]
theorem putP_keep (x : Dic × (Nat → Nat × Bool)) (row : Nat) (w : RowD) : x.1.m ≤ (putP x row w).1.m ∧ ∀ k, k < x.1.m → (putP x row w).2 k = x.2 k := by
 by_cases e0 : w.k = 0
 · rw [putP_0 e0]; exact ⟨Nat.le_succ _, fun k hk => addP_old _ _ _ hk⟩
 · by_cases e1 : w.k = 1
   · rw [putP_1 e1]; exact ⟨Nat.le_succ _, fun k hk => addP_old _ _ _ hk⟩
   · rw [putP_2 e0 e1]
     exact ⟨by rw [addP_m, addP_m]; omega, fun k hk => (addP_old _ _ _ (by rw [addP_m]; omega)).trans (addP_old _ _ _ hk)⟩
theorem putP_new (x : Dic × (Nat → Nat × Bool)) (row : Nat) (w : RowD) : (w.k ≠ 0 → ∃ k, k < (putP x row w).1.m ∧ (putP x row w).2 k = (row, false)) ∧ (w.k ≠ 1 → ∃ k, k < (putP x row w).1.m ∧ (putP x row w).2 k = (row, true)) := by
 by_cases e0 : w.k = 0
 · rw [putP_0 e0]; exact ⟨fun h => absurd e0 h, fun _ => ⟨x.1.m, Nat.lt_succ_self _, addP_new _ _ _ _⟩⟩
 · by_cases e1 : w.k = 1
   · rw [putP_1 e1]; exact ⟨fun _ => ⟨x.1.m, Nat.lt_succ_self _, addP_new _ _ _ _⟩, fun h => absurd e1 h⟩
   · rw [putP_2 e0 e1]
     exact ⟨fun _ => ⟨x.1.m, by rw [addP_m, addP_m]; omega, (addP_old _ _ _ (by rw [addP_m]; omega)).trans (addP_new _ _ _ _)⟩, fun _ => ⟨x.1.m + 1, by rw [addP_m, addP_m]; omega, addP_new _ _ _ _⟩⟩
theorem openK_all (g : Nat → Rat) (s : SysD) : ∀ K ρ w, ρ < K → s.r[ρ]? = some w → (w.k ≠ 0 → ∃ k, k < (openK g s K).1.m ∧ (openK g s K).2 k = (ρ, false)) ∧ (w.k ≠ 1 → ∃ k, k < (openK g s K).1.m ∧ (openK g s K).2 k = (ρ, true))
 | 0, _, _, h, _ => absurd h (Nat.not_lt_zero _)
 | K + 1, ρ, w, hρ, hw => by
   simp only [openK]
   by_cases e : ρ = K
   · subst e; rw [hw]; exact putP_new _ _ _
   · have ih := openK_all g s K ρ w (by omega) hw
     split
     · rename_i w' _
       obtain ⟨k1, k2⟩ := putP_keep (openK g s K) K w'
       refine ⟨fun h => ?_, fun h => ?_⟩
       · obtain ⟨k, h1, h2⟩ := ih.1 h; exact ⟨k, by omega, (k2 k h1).trans h2⟩
       · obtain ⟨k, h1, h2⟩ := ih.2 h; exact ⟨k, by omega, (k2 k h1).trans h2⟩
     · exact ih
theorem atP_fracs (n : Nat) (c : Nat → Rat) (v : Nat) (hv : v < n) : atP (fracsOf n c) v = c v := by
 unfold atP fracsOf
 rw [Int.toNat_natCast, List.getElem?_map, List.getElem?_range hv]
 exact qOf_ofQ _
theorem dot_fracs {l : List TermD} {n : Nat} (h : rightT l n = true) (c : Nat → Rat) : dotD l (fracsOf n c) = sumN n fun v => coefT l v * c v := by
 rw [dotD_eq, dot_sum _ l (rightT_in h)]
 exact sumN_congr n fun v hv => by rw [atP_fracs n c v hv]
theorem sgq_nonneg {q : Rat} (h : 0 ≤ q) : 0 ≤ sgnD (ofQ q) := by
 rw [sgnD_ofQ]
 have := @sgQ_lt q
 have h2 : ¬ q < 0 := by grind
 have h3 : ¬ sgQ q < 0 := fun h => h2 (this.1 h)
 omega
section
variable {s : SysD} {goal : List TermD}
theorem sol_fits (hr : rightS s = true) {κ : Rat} {x : Nat → Rat} (hx : (openD s goal).1.Sol κ x) (h0 : ∀ u, u < s.n.toNat + (openD s goal).1.m → 0 ≤ x u) : ∀ w ∈ s.r, fitsK w.k (sgQ (dotD w.t (fracsOf s.n.toNat x) - κ * qOf w.v)) = true := by
 intro w hw
 obtain ⟨hwr, hk0, hk3, _⟩ := rightS_row hr hw
 obtain ⟨ρ, hρ⟩ := List.getElem?_of_mem hw
 have hall := openK_all (fun j => -coefT goal j) s s.r.length ρ w (List.getElem?_eq_some_iff.1 hρ).1 hρ
 have hF := openD_first s goal
 have hn := openD_n s goal
 have key : ∀ k b, k < (openD s goal).1.m → (openD s goal).2 k = (ρ, b) → 0 ≤ sgQ' b (qOf w.v) * κ - sgQ' b (dotD w.t (fracsOf s.n.toNat x)) := by
  intro k b hk hs
  obtain ⟨w', hw', hv, ha, _⟩ := openD_row s goal k hk
  rw [hs] at hw' hv ha
  simp only at hw' hv ha
  rw [hρ] at hw'
  cases hw'
  have h1 := hx k hk
  unfold Dic.Row at h1
  rw [hF.own k hk, hn, hv, ha] at h1
  have h2 := h0 (s.n.toNat + k) (by omega)
  rw [h1] at h2
  have e : sumN s.n.toNat (fun j => sgQ' b (coefT w.t j) * x ((openD s goal).1.free j)) = sgQ' b (dotD w.t (fracsOf s.n.toNat x)) := by
   rw [dot_fracs hwr]
   unfold sgQ'
   split
   · rw [show -sumN s.n.toNat (fun v => coefT w.t v * x v) = (-1) * sumN s.n.toNat (fun v => coefT w.t v * x v) by grind, ← sumN_mul]
     exact sumN_congr _ fun j hj => by rw [hF.free j (by omega)]; grind
   · exact sumN_congr _ fun j hj => by rw [hF.free j (by omega)]
  rw [e] at h2
  exact h2
 rw [fitsK_iff hk0 hk3]
 have a1 : w.k ≠ 0 → dotD w.t (fracsOf s.n.toNat x) - κ * qOf w.v ≤ 0 := fun h => by
  obtain ⟨k, h1, h2⟩ := hall.1 h
  have := key k false h1 h2
  simp only [sgQ'] at this; grind
 have a2 : w.k ≠ 1 → 0 ≤ dotD w.t (fracsOf s.n.toNat x) - κ * qOf w.v := fun h => by
  obtain ⟨k, h1, h2⟩ := hall.2 h
  have := key k true h1 h2
  simp only [sgQ'] at this; grind
 refine ⟨fun h => a2 (by omega), fun h => a1 (by omega), fun h => ?_⟩
 have := a1 (by omega); have := a2 (by omega); grind
theorem fracs_nonneg {n : Nat} {x : Nat → Rat} (h : ∀ u, u < n → 0 ≤ x u) : nonneg (fracsOf n x) = true := by
 refine List.all_eq_true.2 fun f hf => ?_
 obtain ⟨u, hu, rfl⟩ := fracs_mem hf
 exact decide_eq_true (sgq_nonneg (h u hu))
theorem sol_holds (hr : rightS s = true) {x : Nat → Rat} (hx : (openD s goal).1.Sol 1 x) (h0 : ∀ u, u < s.n.toNat + (openD s goal).1.m → 0 ≤ x u) : holdsS s (fracsOf s.n.toNat x) = true := by
 have h1 := sol_fits hr hx h0
 have hn := (rightS_n hr).1
 simp only [holdsS, Bool.and_eq_true, decide_eq_true_eq]
 refine ⟨⟨⟨⟨hr, by rw [fracs_len]; omega⟩, fracs_ok _ _⟩, fracs_nonneg fun u hu => h0 u (by omega)⟩, List.all_eq_true.2 fun w hw => ?_⟩
 have := h1 w hw
 rwa [show (1 : Rat) * qOf w.v = qOf w.v by grind] at this
end
theorem point_own {d : Dic} (hP : d.Part) {k : Nat} (hk : k < d.m) (hn : d.own k < d.n) : ∀ i, k < i → i ≤ d.m → pointK d i (d.own k) = d.v k
 | 0, h, _ => absurd h (Nat.not_lt_zero _)
 | i + 1, h, hi => by
   simp only [pointK]
   by_cases e : k = i
   · subst e; rw [if_pos ⟨hn, rfl⟩]
   · rw [if_neg (fun h2 => e (hP.own_inj k i hk (by omega) h2.2))]
     exact point_own hP hk hn i (by omega) (by omega)
theorem point_free {d : Dic} {u : Nat} : ∀ i, (∀ k, k < i → d.own k ≠ u) → pointK d i u = 0
 | 0, _ => rfl
 | i + 1, h => by
   simp only [pointK]
   rw [if_neg (fun h2 => h i (by omega) h2.2.symm)]
   exact point_free i fun k hk => h k (by omega)
theorem point_base {d : Dic} (hP : d.Part) {u : Nat} (hu : u < d.n) : pointK d d.m u = d.base u := by
 rcases hP.all u (by omega) with ⟨i, hi, rfl⟩ | ⟨j, hj, rfl⟩
 · rw [point_own hP hi hu d.m hi (Nat.le_refl _), Dic.base_own hP hi]
 · rw [point_free d.m fun k hk => hP.apart k j hk hj, Dic.base_free hP hj]
theorem ray_own {d : Dic} (hP : d.Part) {s k : Nat} (hk : k < d.m) (hn : d.own k < d.n) : ∀ i, k < i → i ≤ d.m → rayK d s i (d.own k) = -d.a k s
 | 0, h, _ => absurd h (Nat.not_lt_zero _)
 | i + 1, h, hi => by
   simp only [rayK]
   by_cases e : k = i
   · subst e; rw [if_pos ⟨hn, rfl⟩]
   · rw [if_neg (fun h2 => e (hP.own_inj k i hk (by omega) h2.2))]
     exact ray_own hP hk hn i (by omega) (by omega)
theorem ray_free {d : Dic} {s u : Nat} : ∀ i, (∀ k, k < i → d.own k ≠ u) → rayK d s i u = if d.free s < d.n ∧ u = d.free s then 1 else 0
 | 0, _ => rfl
 | i + 1, h => by
   simp only [rayK]
   rw [if_neg (fun h2 => h i (by omega) h2.2.symm)]
   exact ray_free i fun k hk => h k (by omega)
theorem ray_dir {d : Dic} (hP : d.Part) {s u : Nat} (hs : s < d.n) (hu : u < d.n) : rayK d s d.m u = d.dir s u := by
 rcases hP.all u (by omega) with ⟨i, hi, rfl⟩ | ⟨j, hj, rfl⟩
 · rw [ray_own hP hi hu d.m hi (Nat.le_refl _), Dic.dir_own hP hi hs]
 · rw [ray_free d.m fun k hk => hP.apart k j hk hj, Dic.dir_free hP hj]
   by_cases e : j = s
   · subst e; rw [if_pos ⟨hu, rfl⟩, if_pos rfl]
   · rw [if_neg (fun h => e (hP.free_inj j s hj hs h.2)), if_neg e]
theorem fracs_congr {n : Nat} {c e : Nat → Rat} (h : ∀ u, u < n → c u = e u) : fracsOf n c = fracsOf n e := List.map_congr_left fun u hu => by rw [h u (List.mem_range.1 hu)]
theorem charge_sum (src : Nat → Nat × Bool) (y rd : Nat → Rat) (k : Nat) (p : Rat) {M : Nat} (h : (src k).1 < M) : sumN M (fun i => chargeY src y k p i * rd i) = sumN M (fun i => y i * rd i) - p * sgQ' (src k).2 (rd (src k).1) := by
 have e : (fun i => chargeY src y k p i * rd i) = fun i => y i * rd i + (if i = (src k).1 then (if (src k).2 then p else -p) * rd (src k).1 else 0) := by
  funext i
  unfold chargeY
  by_cases e : i = (src k).1
  · rw [if_pos e, if_pos e, e]; grind
  · rw [if_neg e, if_neg e]; grind
 rw [e, sumN_add, sumN_one, if_pos h]
 unfold sgQ'
 split <;> grind
section
variable {d : Dic} {src : Nat → Nat × Bool} {M : Nat} {rd A : Nat → Rat} (hP : d.Part) (hs : ∀ k, k < d.m → (src k).1 < M) (hA : ∀ k, k < d.m → A k = sgQ' (src k).2 (rd (src k).1))
include hP hs hA
theorem prices_sum : ∀ j, j ≤ d.n → sumN M (fun i => pricesK d src j i * rd i) = sumN j fun l => if d.n ≤ d.free l then d.g l * A (d.free l - d.n) else 0
 | 0, _ => by
   simp only [pricesK, sumN]
   rw [show (fun i => (0 : Rat) * rd i) = fun _ => 0 by funext i; grind, sumN_zero]
 | j + 1, hj => by
   have ih := prices_sum j (by omega)
   have fl := hP.free_lt j (by omega)
   simp only [pricesK, sumN]
   by_cases e : d.n ≤ d.free j
   · simp only [if_pos e]
     rw [charge_sum src _ rd _ _ (hs _ (by omega)), ih, hA (d.free j - d.n) (by omega)]; grind
   · simp only [if_neg e]
     rw [ih]; grind
theorem ref_sum {r : Nat} (hr : r < d.m) : ∀ j, j ≤ d.n → sumN M (fun i => refK d src r j i * rd i) = (if d.n ≤ d.own r then -A (d.own r - d.n) else 0) - sumN j fun l => if d.n ≤ d.free l then d.a r l * A (d.free l - d.n) else 0
 | 0, _ => by
   have ol := hP.own_lt r hr
   have z : sumN M (fun i => (0 : Rat) * rd i) = 0 := by rw [show (fun i => (0 : Rat) * rd i) = fun _ => 0 by funext i; grind, sumN_zero]
   simp only [refK, sumN]
   by_cases e : d.n ≤ d.own r
   · simp only [if_pos e]
     rw [charge_sum src _ rd _ _ (hs _ (by omega)), z, hA _ (by omega)]; grind
   · simp only [if_neg e]
     rw [z]; grind
 | j + 1, hj => by
   have ih := ref_sum hr j (by omega)
   have fl := hP.free_lt j (by omega)
   simp only [refK, sumN]
   by_cases e : d.n ≤ d.free j
   · simp only [if_pos e]
     rw [charge_sum src _ rd _ _ (hs _ (by omega)), ih, hA (d.free j - d.n) (by omega)]; grind
   · simp only [if_neg e]
     rw [ih]; grind
end
def rdG (s : SysD) (g : Int → Rat) (i : Nat) : Rat := match s.r[i]? with
 | some w => dotS g w.t
 | none => 0
def rdV (s : SysD) (i : Nat) : Rat := match s.r[i]? with
 | some w => qOf w.v
 | none => 0
theorem fracs_get {n k : Nat} (c : Nat → Rat) (h : k < n) : (fracsOf n c)[k]? = some (ofQ (c k)) := by
 unfold fracsOf; rw [List.getElem?_map, List.getElem?_range h]; rfl
theorem mix_fracs (s : SysD) (g : Int → Rat) (y : Nat → Rat) : mixG g s.r (fracsOf s.r.length y) = sumN s.r.length fun i => y i * rdG s g i := by
 have h : ∀ k, k ≤ s.r.length → mixG g (s.r.take k) ((fracsOf s.r.length y).take k) = sumN k fun i => y i * rdG s g i := by
  intro k
  induction k with
  | zero => intro _; rw [List.take_zero, mixG_nil]; rfl
  | succ k ih =>
    intro hk
    obtain ⟨w, hw⟩ := getE (l := s.r) (k := k) (by omega)
    rw [mixG_add g _ _ k w _ hw (fracs_get y (by omega)), ih (by omega), qOf_ofQ]
    simp only [sumN, rdG, hw]
 have := h s.r.length (Nat.le_refl _)
 rwa [List.take_length, List.take_of_length_le (by rw [fracs_len]; exact Nat.le_refl _)] at this
theorem mixv_fracs (s : SysD) (y : Nat → Rat) : mixV s.r (fracsOf s.r.length y) = sumN s.r.length fun i => y i * rdV s i := by
 have h : ∀ k, k ≤ s.r.length → mixV (s.r.take k) ((fracsOf s.r.length y).take k) = sumN k fun i => y i * rdV s i := by
  intro k
  induction k with
  | zero => intro _; rw [List.take_zero, mixV_nil]; rfl
  | succ k ih =>
    intro hk
    obtain ⟨w, hw⟩ := getE (l := s.r) (k := k) (by omega)
    rw [mixV_add _ _ k w _ hw (fracs_get y (by omega)), ih (by omega), qOf_ofQ]
    simp only [sumN, rdV, hw]
 have := h s.r.length (Nat.le_refl _)
 rwa [List.take_length, List.take_of_length_le (by rw [fracs_len]; exact Nat.le_refl _)] at this
def Signs (s : SysD) (y : Nat → Rat) : Prop := ∀ i w, s.r[i]? = some w → (w.k = 0 → 0 ≤ y i) ∧ (w.k = 1 → y i ≤ 0)
theorem signs_zero (s : SysD) : Signs s fun _ => 0 := fun _ _ _ => ⟨fun _ => by grind, fun _ => by grind⟩
theorem signs_charge {s : SysD} {goal : List TermD} {y : Nat → Rat} (h : Signs s y) {k : Nat} (hk : k < (openD s goal).1.m) {p : Rat} (hp : 0 ≤ p) : Signs s (chargeY (srcOf s goal) y k p) := by
 intro i w hw
 unfold chargeY
 by_cases e : i = (srcOf s goal k).1
 · rw [if_pos e]
   obtain ⟨w', hw', _, _, h1, h2⟩ := openD_row s goal k hk
   have hi : s.r[i]? = some w' := by rw [e]; exact hw'
   rw [hw] at hi
   cases hi
   have := h i w hw
   cases hb : (openD s goal).2 k with
   | mk a b =>
     rw [hb] at h1 h2
     cases b with
     | false =>
       simp only [srcOf, hb, Bool.false_eq_true, if_false]
       exact ⟨fun h0 => absurd h0 (h1 rfl), fun h0 => by have := this.2 h0; grind⟩
     | true =>
       simp only [srcOf, hb, if_true]
       exact ⟨fun h0 => by have := this.1 h0; grind, fun h0 => absurd h0 (h2 rfl)⟩
 · rw [if_neg e]; exact h i w hw
theorem signs_prices {s : SysD} {goal : List TermD} {d : Dic} (hP : d.Part) (hm : d.m = (openD s goal).1.m) (hg : ∀ j, j < d.n → d.g j ≤ 0) : ∀ j, j ≤ d.n → Signs s (pricesK d (srcOf s goal) j)
 | 0, _ => signs_zero s
 | j + 1, hj => by
   have ih := signs_prices hP hm hg j (by omega)
   have fl := hP.free_lt j (by omega)
   simp only [pricesK]
   split
   · exact signs_charge ih (by omega) (by have := hg j (by omega); grind)
   · exact ih
theorem signs_ref {s : SysD} {goal : List TermD} {d : Dic} (hP : d.Part) (hm : d.m = (openD s goal).1.m) {r : Nat} (hr : r < d.m) (hg : ∀ j, j < d.n → 0 ≤ d.a r j) : ∀ j, j ≤ d.n → Signs s (refK d (srcOf s goal) r j)
 | 0, _ => by
   have ol := hP.own_lt r hr
   simp only [refK]
   split
   · exact signs_charge (signs_zero s) (by omega) (by decide +kernel)
   · exact signs_zero s
 | j + 1, hj => by
   have ih := signs_ref hP hm hr hg j (by omega)
   have fl := hP.free_lt j (by omega)
   simp only [refK]
   split
   · exact signs_charge ih (by omega) (hg j (by omega))
   · exact ih
theorem signs_ok {s : SysD} (hr : rightS s = true) {y : Nat → Rat} (h : Signs s y) : signedD s (fracsOf s.r.length y) = true := by
 simp only [signedD, Bool.and_eq_true]
 refine ⟨mulOk_iff.2 ⟨hr, fracs_len _ _, fracs_ok _ _⟩, List.all_eq_true.2 fun p hp => ?_⟩
 obtain ⟨i, hi⟩ := List.getElem?_of_mem hp
 rw [List.getElem?_zip_eq_some] at hi
 obtain ⟨h1, h2⟩ := hi
 have hl := (List.getElem?_eq_some_iff.1 h1).1
 rw [fracs_get y hl] at h2
 cases p with
 | mk w f =>
   simp only [Option.some.injEq] at h1 h2
   subst h2
   have := h i w h1
   simp only [signOk, sgnD_ofQ, Bool.and_eq_true, Bool.not_eq_true', Bool.and_eq_false_iff, beq_eq_false_iff_ne, decide_eq_false_iff_not]
   refine ⟨?_, ?_⟩
   · by_cases e : w.k = 0
     · right; rw [sgQ_lt]; have := this.1 e; grind
     · exact .inl e
   · by_cases e : w.k = 1
     · right; rw [gt_iff_lt, sgQ_gt]; have := this.2 e; grind
     · exact .inl e
section
variable {D : Dic} (hF : D.First)
include hF
theorem first_val_free {κ : Rat} {c : Nat → Rat} {q : Nat} (hq : q < D.n) : D.val κ c q = c q := by
 have := Dic.val_free (k := κ) (c := c) hF.part hq
 rwa [hF.free q hq] at this
theorem first_val_own {κ : Rat} {c : Nat → Rat} {q : Nat} (h1 : D.n ≤ q) (h2 : q < D.n + D.m) : D.val κ c q = D.v (q - D.n) * κ - sumN D.n fun j => D.a (q - D.n) j * c j := by
 have := Dic.val_own (k := κ) (c := c) hF.part (i := q - D.n) (by omega)
 rwa [hF.own (q - D.n) (by omega), show D.n + (q - D.n) = q by omega] at this
theorem first_unit {v : Nat} (hv : v < D.n) {q : Nat} (hq : q < D.n + D.m) : D.val 0 (fun l => if l = v then 1 else 0) q = if q < D.n then (if q = v then 1 else 0) else -D.a (q - D.n) v := by
 by_cases e : q < D.n
 · rw [if_pos e, first_val_free hF e]
 · rw [if_neg e, first_val_own hF (by omega) hq, Dic.sumN_at _ hv]; grind
theorem first_const {q : Nat} (hq : q < D.n + D.m) : D.val 1 (fun _ => 0) q = if q < D.n then 0 else D.v (q - D.n) := by
 by_cases e : q < D.n
 · rw [if_pos e, first_val_free hF e]
 · rw [if_neg e, first_val_own hF (by omega) hq, show (fun j => D.a (q - D.n) j * (0 : Rat)) = fun _ => 0 by funext j; grind, sumN_zero]; grind
theorem prices_below {F : Dic} (hS : Dic.Same D F) (hP : F.Part) (hg : ∀ j, j < F.n → F.g j ≤ 0) {v : Nat} (hv : v < D.n) :
    (sumN F.n fun l => if F.n ≤ F.free l then F.g l * D.a (F.free l - F.n) v else 0) ≤ -D.g v := by
 have hn := hS.n
 have hm := hS.m
 have h1 := hS.obj 0 (D.val 0 fun l => if l = v then 1 else 0) (Dic.val_sol hF.part)
 rw [Dic.val_obj hF.part, Dic.sumN_at _ hv] at h1
 unfold Dic.obj at h1
 have e : (fun l => if F.n ≤ F.free l then F.g l * D.a (F.free l - F.n) v else 0) = fun l => (if F.n ≤ F.free l then F.g l * D.a (F.free l - F.n) v else 0) := rfl
 have h2 : (sumN F.n fun l => if F.n ≤ F.free l then F.g l * D.a (F.free l - F.n) v else 0) + (sumN F.n fun j => F.g j * D.val 0 (fun l => if l = v then 1 else 0) (F.free j)) ≤ 0 := by
  rw [← sumN_add]
  refine Dic.sumN_nonpos fun j hj => ?_
  have fl := hP.free_lt j hj
  rw [first_unit hF hv (by omega)]
  have := hg j hj
  by_cases e : F.n ≤ F.free j
  · rw [if_pos e, if_neg (by omega), hn]; grind
  · rw [if_neg e, if_pos (by omega)]
    split <;> grind
 grind
theorem prices_value {F : Dic} (hS : Dic.Same D F) (hP : F.Part) (hz : D.z = 0) : (sumN F.n fun l => if F.n ≤ F.free l then F.g l * D.v (F.free l - F.n) else 0) = -F.z := by
 have hn := hS.n
 have hm := hS.m
 have h1 := hS.obj 1 (D.val 1 fun _ => 0) (Dic.val_sol hF.part)
 rw [Dic.val_obj hF.part, show (fun j => D.g j * (0 : Rat)) = fun _ => 0 by funext j; grind, sumN_zero, hz] at h1
 unfold Dic.obj at h1
 have h2 : (sumN F.n fun l => if F.n ≤ F.free l then F.g l * D.v (F.free l - F.n) else 0) = sumN F.n fun j => F.g j * D.val 1 (fun _ => 0) (F.free j) := by
  refine sumN_congr _ fun j hj => ?_
  have fl := hP.free_lt j hj
  rw [first_const hF (by omega)]
  by_cases e : F.n ≤ F.free j
  · rw [if_pos e, if_neg (by omega), hn]
  · rw [if_neg e, if_pos (by omega)]; grind
 grind
theorem ref_below {F : Dic} (hS : Dic.Same D F) (hP : F.Part) {r : Nat} (hr : r < F.m) (ha : ∀ j, j < F.n → 0 ≤ F.a r j) {v : Nat} (hv : v < D.n) :
    (if F.n ≤ F.own r then -D.a (F.own r - F.n) v else 0) - (sumN F.n fun l => if F.n ≤ F.free l then F.a r l * D.a (F.free l - F.n) v else 0) ≤ 0 := by
 have hn := hS.n
 have hm := hS.m
 have h1 := (hS.sol 0 (D.val 0 fun l => if l = v then 1 else 0)).1 (Dic.val_sol hF.part) r hr
 unfold Dic.Row at h1
 have ol := hP.own_lt r hr
 rw [first_unit hF hv (by omega)] at h1
 have h2 : 0 ≤ (sumN F.n fun l => if F.n ≤ F.free l then F.a r l * D.a (F.free l - F.n) v else 0) + (sumN F.n fun j => F.a r j * D.val 0 (fun l => if l = v then 1 else 0) (F.free j)) := by
  rw [← sumN_add]
  refine sumN_nonneg fun j hj => ?_
  have fl := hP.free_lt j hj
  rw [first_unit hF hv (by omega)]
  have := ha j hj
  by_cases e : F.n ≤ F.free j
  · rw [if_pos e, if_neg (by omega), hn]; grind
  · rw [if_neg e, if_pos (by omega)]
    split <;> grind
 by_cases e : F.n ≤ F.own r
 · rw [if_pos e]
   rw [if_neg (by omega), ← hn] at h1
   grind
 · rw [if_neg e]
   rw [if_pos (by omega)] at h1
   split at h1 <;> grind
theorem ref_value {F : Dic} (hS : Dic.Same D F) (hP : F.Part) {r : Nat} (hr : r < F.m) :
    (if F.n ≤ F.own r then -D.v (F.own r - F.n) else 0) - (sumN F.n fun l => if F.n ≤ F.free l then F.a r l * D.v (F.free l - F.n) else 0) = -F.v r := by
 have hn := hS.n
 have hm := hS.m
 have h1 := (hS.sol 1 (D.val 1 fun _ => 0)).1 (Dic.val_sol hF.part) r hr
 unfold Dic.Row at h1
 have ol := hP.own_lt r hr
 rw [first_const hF (by omega)] at h1
 have h2 : (sumN F.n fun l => if F.n ≤ F.free l then F.a r l * D.v (F.free l - F.n) else 0) = sumN F.n fun j => F.a r j * D.val 1 (fun _ => 0) (F.free j) := by
  refine sumN_congr _ fun j hj => ?_
  have fl := hP.free_lt j hj
  rw [first_const hF (by omega)]
  by_cases e : F.n ≤ F.free j
  · rw [if_pos e, if_neg (by omega), hn]
  · rw [if_neg e, if_pos (by omega)]; grind
 by_cases e : F.n ≤ F.own r
 · rw [if_pos e]
   rw [if_neg (by omega), ← hn] at h1
   grind
 · rw [if_neg e]
   rw [if_pos (by omega)] at h1
   grind
end
theorem not_neg {q : Rat} (h : neg' q = false) : 0 ≤ q := by
 have := not_pos neg_iff h; grind
theorem not_pos' {q : Rat} (h : pos' q = false) : q ≤ 0 := by
 have := not_pos pos_iff h; grind
theorem best_of {d : Dic} (h : next d = .best) : (∀ i, i < d.m → 0 ≤ d.v i) ∧ ∀ j, j < d.n → d.g j ≤ 0 := by
 have hr : ∀ k, rowNext d k ≠ .best := fun k hk => by unfold rowNext at hk; split at hk <;> cases hk
 have hc : ∀ k, colNext d k ≠ .best := fun k hk => by unfold colNext at hk; split at hk <;> cases hk
 unfold next at h
 split at h
 · rename_i h1 h2
   exact ⟨fun i hi => not_neg (pick_none h1 i hi), fun j hj => not_pos' (pick_none h2 j hj)⟩
 · exact absurd h (hr _)
 · split at h
   · exact absurd h (hr _)
   · exact absurd h (hc _)
 · exact absurd h (hc _)
theorem row_of_next {d : Dic} {r : Nat} (h : next d = .row r) : r < d.m ∧ d.v r < 0 ∧ ∀ j, j < d.n → 0 ≤ d.a r j := by
 have hc : ∀ k, colNext d k ≠ .row r := fun k hk => by unfold colNext at hk; split at hk <;> cases hk
 have key : ∀ k, pick d.own (fun i => neg' (d.v i)) d.m = some k → rowNext d k = .row r → r < d.m ∧ d.v r < 0 ∧ ∀ j, j < d.n → 0 ≤ d.a r j := by
  intro k hk hr
  unfold rowNext at hr
  split at hr
  · rename_i hp
    cases hr
    obtain ⟨p1, p2, _⟩ := pick_some hk
    exact ⟨p1, (neg_iff _).1 p2, fun j hj => not_neg (pick_none hp j hj)⟩
  · cases hr
 unfold next at h
 split at h
 · cases h
 · rename_i hr _; exact key _ hr h
 · rename_i hr _
   split at h
   · exact key _ hr h
   · exact absurd h (hc _)
 · exact absurd h (hc _)
theorem col_of_next {d : Dic} {c : Nat} (h : next d = .col c) : c < d.n ∧ 0 < d.g c ∧ ∀ i, i < d.m → d.a i c ≤ 0 := by
 have hr : ∀ k, rowNext d k ≠ .col c := fun k hk => by unfold rowNext at hk; split at hk <;> cases hk
 have key : ∀ k, pick d.free (fun j => pos' (d.g j)) d.n = some k → colNext d k = .col c → c < d.n ∧ 0 < d.g c ∧ ∀ i, i < d.m → d.a i c ≤ 0 := by
  intro k hk hr
  unfold colNext at hr
  split at hr
  · rename_i hp
    cases hr
    obtain ⟨p1, p2, _⟩ := pick_some hk
    exact ⟨p1, (pos_iff _).1 p2, fun j hj => not_pos' (pick_none hp j hj)⟩
  · cases hr
 unfold next at h
 split at h
 · cases h
 · exact absurd h (hr _)
 · rename_i hs
   split at h
   · exact absurd h (hr _)
   · exact key _ hs h
 · rename_i hs; exact key _ hs h
theorem openK_z (g : Nat → Rat) (s : SysD) (k : Nat) : (openK g s k).1.z = 0 := openK_part2 (fun x => x.1.z = 0) g s rfl (fun _ _ _ _ h _ _ _ => h) k
theorem openD_g (s : SysD) (goal : List TermD) : (openD s goal).1.g = fun j => -coefT goal j := openK_gg _ _ _
section
variable {s : SysD} {goal : List TermD}
theorem fin_same (s : SysD) (goal : List TermD) : Dic.Same (openD s goal).1 (fin s goal) := final_same (openD_first s goal).part
theorem base_nonneg (h : ∀ i, i < (fin s goal).m → 0 ≤ (fin s goal).v i) : ∀ u, u < s.n.toNat + (openD s goal).1.m → 0 ≤ (fin s goal).base u := by
 intro u hu
 have hP := fin_part s goal
 rcases hP.all u (by rw [fin_n, fin_m]; exact hu) with ⟨i, hi, rfl⟩ | ⟨j, hj, rfl⟩
 · rw [Dic.base_own hP hi]; exact h i hi
 · rw [Dic.base_free hP hj]; grind
theorem point_holds (hr : rightS s = true) (h : ∀ i, i < (fin s goal).m → 0 ≤ (fin s goal).v i) : holdsS s (fracsOf s.n.toNat (pointK (fin s goal) (fin s goal).m)) = true := by
 have hP := fin_part s goal
 have e : fracsOf s.n.toNat (pointK (fin s goal) (fin s goal).m) = fracsOf s.n.toNat (fin s goal).base := fracs_congr fun u hu => point_base hP (by rw [fin_n]; exact hu)
 rw [e]
 exact sol_holds hr (((fin_same s goal).sol 1 _).2 (Dic.val_sol hP)) (base_nonneg h)
theorem dot_goal (hr : rightS s = true) (hg : rightT goal s.n = true) (x : Nat → Rat) : dotD goal (fracsOf s.n.toNat x) = -(sumN s.n.toNat fun j => (openD s goal).1.g j * x j) := by
 rw [dot_fracs (right_toNat hg), openD_g]
 have : (fun j => -coefT goal j * x j) = fun j => (-1) * (coefT goal j * x j) := by funext j; grind
 rw [this, sumN_mul]; grind
theorem obj_first (κ : Rat) (x : Nat → Rat) : (openD s goal).1.obj κ x = sumN s.n.toNat fun j => (openD s goal).1.g j * x j := by
 unfold Dic.obj
 rw [show (openD s goal).1.z = 0 from openK_z _ _ _, openD_n]
 rw [show (0 : Rat) * κ + sumN s.n.toNat (fun j => (openD s goal).1.g j * x ((openD s goal).1.free j)) = sumN s.n.toNat (fun j => (openD s goal).1.g j * x ((openD s goal).1.free j)) by grind]
 exact sumN_congr _ fun j hj => by rw [(openD_first s goal).free j (by rw [openD_n]; exact hj)]
theorem point_value (hr : rightS s = true) (hg : rightT goal s.n = true) : dotD goal (fracsOf s.n.toNat (pointK (fin s goal) (fin s goal).m)) = -(fin s goal).z := by
 have hP := fin_part s goal
 have e : fracsOf s.n.toNat (pointK (fin s goal) (fin s goal).m) = fracsOf s.n.toNat (fin s goal).base := fracs_congr fun u hu => point_base hP (by rw [fin_n]; exact hu)
 have hx : (openD s goal).1.Sol 1 (fin s goal).base := ((fin_same s goal).sol 1 _).2 (Dic.val_sol hP)
 rw [e, dot_goal hr hg, ← obj_first 1, (fin_same s goal).obj 1 _ hx, Dic.base_obj hP]
theorem src_lt (s : SysD) (goal : List TermD) : ∀ k, k < (fin s goal).m → (srcOf s goal k).1 < s.r.length := fun k hk => openD_src s goal k (by rw [← fin_m]; exact hk)
theorem rd_unit (s : SysD) (goal : List TermD) (v : Nat) : ∀ k, k < (fin s goal).m → (fun k => (openD s goal).1.a k v) k = sgQ' (srcOf s goal k).2 (rdG s (indI v) (srcOf s goal k).1) := by
 intro k hk
 obtain ⟨w, h1, _, h2, _⟩ := openD_row s goal k (by rw [← fin_m]; exact hk)
 simp only [rdG, srcOf, h1, h2]; rfl
theorem rd_val (s : SysD) (goal : List TermD) : ∀ k, k < (fin s goal).m → (openD s goal).1.v k = sgQ' (srcOf s goal k).2 (rdV s (srcOf s goal k).1) := by
 intro k hk
 obtain ⟨w, h1, h2, _⟩ := openD_row s goal k (by rw [← fin_m]; exact hk)
 simp only [rdV, srcOf, h1, h2]
theorem prices_lower (hr : rightS s = true) (hg : rightT goal s.n = true) (h : ∀ j, j < (fin s goal).n → (fin s goal).g j ≤ 0) :
    (lowerD s goal (fracsOf s.r.length (pricesK (fin s goal) (srcOf s goal) s.n.toNat))).2 = true ∧ mixV s.r (fracsOf s.r.length (pricesK (fin s goal) (srcOf s goal) s.n.toNat)) = -(fin s goal).z := by
 have hP := fin_part s goal
 have hn := fin_n s goal
 have hD := openD_first s goal
 rw [← hn]
 refine ⟨lowerD_iff.2 ⟨signs_ok hr (signs_prices hP (fin_m s goal) h _ (Nat.le_refl _)), hg, ?_⟩, ?_⟩
 · unfold belowN
   refine List.all_eq_true.2 fun v hv => decide_eq_true ?_
   have hv := List.mem_range.1 hv
   unfold mixT
   rw [termsOf_coef, if_pos hv, mix_fracs, prices_sum hP (src_lt s goal) (rd_unit s goal v) _ (Nat.le_refl _)]
   have := prices_below hD (fin_same s goal) hP h (v := v) (by rw [openD_n]; exact hv)
   rw [openD_g] at this
   grind
 · rw [mixv_fracs, prices_sum hP (src_lt s goal) (rd_val s goal) _ (Nat.le_refl _)]
   exact prices_value hD (fin_same s goal) hP (openK_z _ _ _)
theorem ref_refutes (hr : rightS s = true) {r : Nat} (h1 : r < (fin s goal).m) (h2 : (fin s goal).v r < 0) (h3 : ∀ j, j < (fin s goal).n → 0 ≤ (fin s goal).a r j) :
    refutesD s (fracsOf s.r.length (refK (fin s goal) (srcOf s goal) r s.n.toNat)) = true := by
 have hP := fin_part s goal
 have hn := fin_n s goal
 have hD := openD_first s goal
 have hn0 := (rightS_n hr).1
 rw [← hn]
 have hl : (lowerD s [] (fracsOf s.r.length (refK (fin s goal) (srcOf s goal) r (fin s goal).n))).2 = true := by
  refine lowerD_iff.2 ⟨signs_ok hr (signs_ref hP (fin_m s goal) h1 h3 _ (Nat.le_refl _)), ?_, ?_⟩
  · simp only [rightT, Bool.and_eq_true, decide_eq_true_eq]; exact ⟨hn0, rfl⟩
  · unfold belowN
    refine List.all_eq_true.2 fun v hv => decide_eq_true ?_
    have hv := List.mem_range.1 hv
    unfold mixT
    rw [termsOf_coef, if_pos hv, mix_fracs, ref_sum hP (src_lt s goal) (rd_unit s goal v) h1 _ (Nat.le_refl _)]
    exact ref_below hD (fin_same s goal) hP h1 h3 (by rw [openD_n]; exact hv)
 simp only [refutesD, Bool.and_eq_true, decide_eq_true_eq]
 refine ⟨hl, ?_⟩
 rw [lowerD_val hl, sgnD_ofQ, gt_iff_lt, sgQ_gt, mixv_fracs, ref_sum hP (src_lt s goal) (rd_val s goal) h1 _ (Nat.le_refl _), ref_value hD (fin_same s goal) hP h1]
 grind
theorem ray_ok (hr : rightS s = true) (hg : rightT goal s.n = true) {c : Nat} (h1 : c < (fin s goal).n) (h2 : 0 < (fin s goal).g c) (h3 : ∀ i, i < (fin s goal).m → (fin s goal).a i c ≤ 0) : rayD s goal (fracsOf s.n.toNat (rayK (fin s goal) c (fin s goal).m)) = true := by
 have hP := fin_part s goal
 have hn := fin_n s goal
 have hn0 := (rightS_n hr).1
 have e : fracsOf s.n.toNat (rayK (fin s goal) c (fin s goal).m) = fracsOf s.n.toNat ((fin s goal).dir c) := fracs_congr fun u hu => ray_dir hP h1 (by rw [fin_n]; exact hu)
 rw [e]
 have hx : (openD s goal).1.Sol 0 ((fin s goal).dir c) := ((fin_same s goal).sol 0 _).2 (Dic.val_sol hP)
 have h0 : ∀ u, u < s.n.toNat + (openD s goal).1.m → 0 ≤ (fin s goal).dir c u := by
  intro u hu
  rcases hP.all u (by rw [fin_n, fin_m]; exact hu) with ⟨i, hi, rfl⟩ | ⟨j, hj, rfl⟩
  · rw [Dic.dir_own hP hi h1]; have := h3 i hi; grind
  · rw [Dic.dir_free hP hj]; split <;> decide +kernel
 simp only [rayD, Bool.and_eq_true, decide_eq_true_eq]
 refine ⟨⟨⟨⟨⟨⟨hr, hg⟩, by rw [fracs_len]; omega⟩, fracs_ok _ _⟩, fracs_nonneg fun u hu => h0 u (by omega)⟩, List.all_eq_true.2 fun w hw => ?_⟩, ?_⟩
 · have := sol_fits hr hx h0 w hw
   rwa [show dotD w.t (fracsOf s.n.toNat ((fin s goal).dir c)) - 0 * qOf w.v = dotD w.t (fracsOf s.n.toNat ((fin s goal).dir c)) by grind] at this
 · rw [sgQ_lt, dot_goal hr hg, ← obj_first 0, (fin_same s goal).obj 0 _ hx, Dic.dir_obj hP h1]
   grind
theorem no_col (s : SysD) (c : Nat) : next (fin s []) ≠ .col c := by
 intro h
 obtain ⟨h1, h2, h3⟩ := col_of_next h
 have hP := fin_part s []
 have hx : (openD s []).1.Sol 0 ((fin s []).dir c) := ((fin_same s []).sol 0 _).2 (Dic.val_sol hP)
 have := (fin_same s []).obj 0 _ hx
 rw [Dic.dir_obj hP h1, obj_first, openD_g] at this
 have e : (fun j => -coefT [] j * (fin s []).dir c j) = fun _ => 0 := by funext j; simp only [coefT, dotS]; grind
 rw [e, sumN_zero] at this
 grind
theorem least_check (hr : rightS s = true) (hg : rightT goal s.n = true) : checkD s goal (leastE s goal) = true := by
 have hn0 := (rightS_n hr).1
 unfold checkD
 simp only [hr, hg, Bool.and_self, Bool.true_and]
 unfold leastE
 cases hn : next (fin s goal) with
 | ex r c => exact absurd hn (fin_ended s goal r c)
 | best =>
   obtain ⟨h1, h2⟩ := best_of hn
   obtain ⟨h3, h4⟩ := prices_lower hr hg h2
   have h5 := point_holds hr h1
   simp only [if_pos]
   rw [h3, h5, sameF_self, lowerD_val h3, h4]
   have hv : (valueD goal (fracsOf s.n.toNat (pointK (fin s goal) (fin s goal).m))).1 = ofQ (-(fin s goal).z) := by
    unfold valueD
    rw [fracs_len, show rightT goal (s.n.toNat : Nat) = true from right_toNat hg, fracs_ok]
    simp only [Bool.and_self, if_true]
    rw [point_value hr hg]
   rw [hv, sameF_self]; rfl
 | row r =>
   obtain ⟨h1, h2, h3⟩ := row_of_next hn
   have := ref_refutes hr h1 h2 h3
   simp only
   rw [if_neg (by decide), if_pos trivial, this, sameF_self]; rfl
 | col c =>
   obtain ⟨h1, h2, h3⟩ := col_of_next hn
   have hray := ray_ok hr hg h1 h2 h3
   simp only
   cases hnE : next (fin s []) with
   | ex r c => exact absurd hnE (fin_ended s [] r c)
   | col c2 => exact absurd hnE (no_col s c2)
   | best =>
     obtain ⟨b1, b2⟩ := best_of hnE
     have hp := point_holds hr b1
     simp only
     rw [if_neg (by decide), if_neg (by decide), if_pos trivial, hp, hray, sameF_self]; rfl
   | row r =>
     obtain ⟨h1, h2, h3⟩ := row_of_next hnE
     have := ref_refutes hr h1 h2 h3
     simp only
     rw [if_neg (by decide), if_pos trivial, this, sameF_self]; rfl
end
set_option maxHeartbeats 8000000
theorem dot_sz (g : Int → Rat) {B C : Nat} (hg : ∀ v, szQ (g v) ≤ B) : ∀ l : List TermD, (∀ t ∈ l, okF t.f = true ∧ szF t.f ≤ C) → szQ (dotS g l) ≤ 1 + l.length * (B + C + 1)
 | [], _ => by have := sz_0; simp only [dotS, List.length_nil]; omega
 | t :: l, h => by
   have ih := dot_sz g hg l fun u hu => h u (List.mem_cons_of_mem _ hu)
   obtain ⟨h1, h2⟩ := h t List.mem_cons_self
   simp only [dotS, List.length_cons]
   have a := szQ_mul (qOf t.f) (g t.v)
   rw [szF_ok h1] at a
   have b := szQ_add (qOf t.f * g t.v) (dotS g l)
   have c := hg t.v
   rw [Nat.add_mul, Nat.one_mul]
   omega
section
variable {s : SysD} {goal : List TermD} {B T : Nat}
theorem value_sz (h : Fit s goal B T) (hr : rightS s = true) (hg : rightT goal s.n = true) : szF (valueD goal (fracsOf s.n.toNat (pointK (fin s goal) (fin s goal).m))).1 ≤ 1 + goal.length * (Dic.grow B T + B + 1) := by
 unfold valueD
 split
 · have hb : ∀ v, szQ (atP (fracsOf s.n.toNat (pointK (fin s goal) (fin s goal).m)) v) ≤ Dic.grow B T := by
     intro v
     unfold atP
     cases hx : (fracsOf s.n.toNat (pointK (fin s goal) (fin s goal).m))[v.toNat]? with
     | none =>
       have h1 : szQ (qOf zF) ≤ 1 := by decide +kernel
       have h2 := h.b
       have h3 := grow_ge B T
       simp only [Option.getD_none]; omega
     | some f =>
       obtain ⟨u, _, rfl⟩ := fracs_mem (mem_at hx)
       simp only [Option.getD_some, qOf_ofQ]
       exact point_sz h hr hg _ (Nat.le_refl _) u
   have := dot_sz _ hb goal fun t ht => ⟨(rightT_mem hg ht).2.2.1, h.g.2 t ht⟩
   rw [← dotD_eq] at this
   simp only [szQ_ofQ]
   exact this
 · exact Nat.zero_le _
theorem fin_g (h : Fit s goal B T) (hr : rightS s = true) (hg : rightT goal s.n = true) : ∀ j, j < (fin s goal).n → szQ ((fin s goal).g j) ≤ Dic.grow B T := (fin_sized h hr hg).g
theorem least_tnB (h : Fit s goal B T) (hN : (s.n.toNat + 1) * (Dic.grow B T + B + 1) ≤ 262144) (hL : (goal.length + 1) * (Dic.grow B T + B + 1) ≤ 262144) (hr : rightS s = true) (hg : rightT goal s.n = true) : tnO (leastE s goal) := by
 have hn := h.n hr
 have hn0 := (rightS_n hr).1
 have hl := h.l
 have hG := h.gl
 have nil : tnFs [] := ⟨by decide, fun t ht => by cases ht⟩
 have z : tnF zF := by show (szF zF : Int) ≤ 262144; decide
 have hf0 := h.nil
 have hg0 : rightT [] s.n = true := by simp only [rightT, Bool.and_eq_true, decide_eq_true_eq]; exact ⟨hn0, rfl⟩
 unfold leastE
 have ref : ∀ g, Fit s g B T → rightT g s.n = true → ∀ r, r < (fin s g).m → tnFs (fracsOf s.r.length (refK (fin s g) (srcOf s g) r s.n.toNat)) := by
  intro g hg1 hg2 r hrm
  refine tn_fracs (by omega) fun u => ?_
  have := ref_sz (fin s g) (srcOf s g) r (B := Dic.grow B T) (by have := h.b; have := grow_ge B T; omega) (fun j hj => (fin_sized hg1 hr hg2).a r j hrm hj) s.n.toNat (by rw [fin_n]; exact Nat.le_refl _) u
  have hm := Nat.mul_le_mul_left (s.n.toNat + 1) (show Dic.grow B T + 1 + 1 ≤ Dic.grow B T + B + 1 by have := h.b; omega)
  rw [Nat.mul_succ] at hm
  omega
 cases hnx : next (fin s goal) with
 | ex r c => exact ⟨z, nil, nil, nil⟩
 | best =>
   have hv : (szF (valueD goal (fracsOf s.n.toNat (pointK (fin s goal) (fin s goal).m))).1 : Int) ≤ 262144 := by have := value_sz h hr hg; rw [Nat.add_mul] at hL; omega
   refine ⟨hv, tn_fracs (by omega) fun u => by have := point_sz h hr hg _ (Nat.le_refl _) u; omega, tn_fracs (by omega) fun u => ?_, nil⟩
   have := prices_sz (fin s goal) (srcOf s goal) (B := Dic.grow B T) (fin_g h hr hg) s.n.toNat (by rw [fin_n]; exact Nat.le_refl _) u
   have hm := Nat.mul_le_mul_left (s.n.toNat + 1) (show Dic.grow B T + 1 + 1 ≤ Dic.grow B T + B + 1 by have := h.b; omega)
   rw [Nat.mul_succ, Nat.add_mul, Nat.one_mul] at hm
   omega
 | row r => exact ⟨z, nil, ref goal h hg r (row_of_next hnx).1, nil⟩
 | col c =>
   have hc := (col_of_next hnx).1
   have hray : tnFs (fracsOf s.n.toNat (rayK (fin s goal) c (fin s goal).m)) := tn_fracs (by omega) fun u => by have := ray_sz h hr hg hc _ (Nat.le_refl _) u; omega
   have hpt : tnFs (fracsOf s.n.toNat (pointK (fin s []) (fin s []).m)) := tn_fracs (by omega) fun u => by have := point_sz hf0 hr hg0 _ (Nat.le_refl _) u; omega
   simp only
   cases hnE : next (fin s []) with
   | ex r c => exact ⟨z, hpt, nil, hray⟩
   | best => exact ⟨z, hpt, nil, hray⟩
   | col c => exact ⟨z, hpt, nil, hray⟩
   | row r => exact ⟨z, nil, ref [] hf0 hg0 r (row_of_next hnE).1, nil⟩
end
end Go.Proofs.YtpkdhmnlpnijhaaGreat
