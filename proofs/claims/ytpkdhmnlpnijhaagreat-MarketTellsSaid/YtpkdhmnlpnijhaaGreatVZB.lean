/-
  The reference's span: Opposite, Of, Bounds, Certain, Implied, Check.
-/
import Derived.Test.YtpkdhmnlpnijhaaGreatVZT
import Derived.Test.YtpkdhmnlpnijhaaGreatVSd
import Derived.Test.YtpkdhmnlpnijhaaGreatVSpA
import Derived.Test.YtpkdhmnlpnijhaaGreatVZL
import Derived.Test.YtpkdhmnlpnijhaaGreatVSimD
namespace Go.Proofs.YtpkdhmnlpnijhaaGreat
set_option linter.unusedVariables false
set_option linter.unusedSimpArgs false
set_option linter.unusedSectionVars false
open Go Go.RowKit
set_option maxRecDepth 100000
set_option maxHeartbeats 8000000
theorem rnegA_c (a : FracD) (za : (szF a : Int) ≤ 549755813888) : Contract Tryz.prog 93 [encF a] (encF (negD a)) := by
 cases ha : okF a
 · have k1 := (rrightF_c a za).toN rfl
   rw [ha] at k1
   rw [show negD a = zF by simp [negD, ha]]
   have hres := Tryz.results93
   refine inC Tryz.func93 rfl Tryz.ntmps93 ?_
   refine aGo hres ?_
   repeat with_reducible intro K hK
   rfl
 obtain ⟨r, rfl⟩ := okF_iff.1 ha
 rw [negD_ofQ]
 exact rnegF_c r za
theorem zrel_iters {d0 : Dic} (hF : d0.First) (hI : Dic.IntD d0) : ∀ k, ∃ Z, ZRel d0 (iters k d0) Z
 | 0 => ⟨_, zrel_first hF hI⟩
 | k + 1 => by
   obtain ⟨Z, hZ⟩ := zrel_iters hF hI k
   rw [iters_snoc]
   unfold iter
   split
   · rename_i r s hn
     have st := next_step (iters_part hF.part k) hn
     exact ⟨_, hZ.ex hI st.hr st.hs st.ne⟩
   · exact ⟨Z, hZ⟩
theorem zrel_fin (s : SysD) (goal : List TermD) : ∃ Z, ZRel (openD (mulS s) (mulG goal)).1 (fin (mulS s) (mulG goal)) Z := zrel_iters (openD_first _ _) (open_int s goal) _
theorem quotS {x : Rat} {z D : Int} {S : Nat} (hD : 0 < D) (h : x * (D : Rat) = z) (hz : szZ z ≤ S) (hd : szZ D ≤ S) (hS : 1 ≤ S) : szQ x ≤ 2 * S := by
 have h1 := szQ_whole hz hS
 have h2 := szQ_whole hd hS
 have h0 : (D : Rat) ≠ 0 := fun e => by
  have : D = 0 := Rat.intCast_inj.1 (by rw [e]; rfl)
  omega
 have e : x = (z : Rat) / (D : Rat) := by rw [← h, Rat.div_def, Rat.mul_assoc, Rat.mul_inv_cancel _ h0, Rat.mul_one]
 have h3 := szQ_div (a := (z : Rat)) (b := (D : Rat)) h0
 rw [← e] at h3
 omega
section
variable {s : SysD} {goal : List TermD} (h : RFit s goal 4 6) (hr : rightS s = true) (hg : rightT goal s.n = true)
include h
theorem RFit.big : RFit s goal 16 16 := ⟨h.hr, h.hn, fun w hw => by
 obtain ⟨a, b, c⟩ := h.hw w hw
 exact ⟨by omega, by omega, fun t ht => by have := c t ht; omega⟩, ⟨by have := h.hg.1; omega, fun t ht => by have := h.hg.2 t ht; omega⟩, by decide, by decide⟩
include hr hg
theorem RFit.sized2 {d : Dic} {Z : ZD} (hZ : ZRel (openD (mulS s) (mulG goal)).1 d Z) : ZSz Z 1500 := by
 have hm := openD_m2 (mulS s) (mulG goal)
 rw [mulS_len] at hm
 have h20 := h.hr
 have hM : (((bp (1 + 4 + 6 * 4 + 4)).toNat : Nat) : Int) < bp (1 + 4 + 6 * 4 + 4 + 1) := by decide +kernel
 have hz := hZ.sized (h.intB hr hg) hM (by omega)
 have hk : ((openD (mulS s) (mulG goal)).1.m + 1) * (1 + 4 + 6 * 4 + 4 + 1 + 1) + 1 ≤ 1500 := by omega
 exact ⟨fun i j hi hj => Nat.le_trans (hz.a i j hi hj) hk, fun i hi => Nat.le_trans (hz.v i hi) hk, fun j hj => Nat.le_trans (hz.g j hj) hk, Nat.le_trans hz.D hk⟩
theorem RFit.entries : (∀ i j, i < (fin (mulS s) (mulG goal)).m → j < (fin (mulS s) (mulG goal)).n → szQ ((fin (mulS s) (mulG goal)).a i j) ≤ 3000) ∧ (∀ i, i < (fin (mulS s) (mulG goal)).m → szQ ((fin (mulS s) (mulG goal)).v i) ≤ 3000) ∧ ∀ j, j < (fin (mulS s) (mulG goal)).n → szQ ((fin (mulS s) (mulG goal)).g j) ≤ 3000 := by
 obtain ⟨Z, hZ⟩ := zrel_fin s goal
 have sz := h.sized2 hr hg hZ
 exact ⟨fun i j hi hj => quotS hZ.pos (hZ.a i j hi hj) (sz.a i j (by rw [hZ.m]; exact hi) (by rw [hZ.n]; exact hj)) sz.D (by decide), fun i hi => quotS hZ.pos (hZ.v i hi) (sz.v i (by rw [hZ.m]; exact hi)) sz.D (by decide), fun j hj => quotS hZ.pos (hZ.g j hj) (sz.g j (by rw [hZ.n]; exact hj)) sz.D (by decide)⟩
end
theorem point_szS {d : Dic} {S : Nat} (hS : 1 ≤ S) (hv : ∀ i, i < d.m → szQ (d.v i) ≤ S) : ∀ i, i ≤ d.m → ∀ u, szQ (pointK d i u) ≤ S
 | 0, _, u => by have := sz_0; simp only [pointK]; omega
 | i + 1, hi, u => by
   simp only [pointK]
   split
   · exact hv i (by omega)
   · exact point_szS hS hv i (by omega) u
theorem ray_szS {d : Dic} {c S : Nat} (hS : 1 ≤ S) (hc : c < d.n) (ha : ∀ i j, i < d.m → j < d.n → szQ (d.a i j) ≤ S) : ∀ i, i ≤ d.m → ∀ u, szQ (rayK d c i u) ≤ S
 | 0, _, u => by
   have h0 := sz_0
   have h1 := sz_1
   simp only [rayK]
   split <;> omega
 | i + 1, hi, u => by
   simp only [rayK]
   split
   · rw [szQ_neg]; exact ha i c (by omega) hc
   · exact ray_szS hS hc ha i (by omega) u
theorem pricesR_sz {s : SysD} {goal : List TermD} (h : RFit s goal 4 6) (hr : rightS s = true) (hg : rightT goal s.n = true) (u : Nat) : szQ (pricesR s goal u) ≤ 262144 := by
 obtain ⟨_, _, eg⟩ := h.entries hr hg
 have hn := h.hn hr
 have fn := fin_n (mulS s) (mulG goal)
 rw [mulS_n] at fn
 have h1 := prices_sz (fin (mulS s) (mulG goal)) (srcOf (mulS s) (mulG goal)) eg s.n.toNat (by omega) u
 have h2 := scI_sz h.big hr u
 have h3 := inv_sz (n := goalM1 goal) (goalM_pos goal) (goalM_sz h.big hr hg)
 have h4 := szQ_mul (scI s u) (pricesK (fin (mulS s) (mulG goal)) (srcOf (mulS s) (mulG goal)) s.n.toNat u)
 have h5 := szQ_mul ((goalM1 goal : Rat)⁻¹) (scI s u * pricesK (fin (mulS s) (mulG goal)) (srcOf (mulS s) (mulG goal)) s.n.toNat u)
 have h6 : s.n.toNat * (3000 + 1) ≤ 16 * (3000 + 1) := Nat.mul_le_mul_right _ (by omega)
 unfold pricesR
 omega
theorem refR_sz {s : SysD} {goal : List TermD} (h : RFit s goal 4 6) (hr : rightS s = true) (hg : rightT goal s.n = true) {r : Nat} (hrm : r < (fin (mulS s) (mulG goal)).m) (u : Nat) : szQ (refR s goal r u) ≤ 262144 := by
 obtain ⟨ea, _, _⟩ := h.entries hr hg
 have hn := h.hn hr
 have fn := fin_n (mulS s) (mulG goal)
 rw [mulS_n] at fn
 have h1 := ref_sz (fin (mulS s) (mulG goal)) (srcOf (mulS s) (mulG goal)) r (by decide) (fun j hj => ea r j hrm hj) s.n.toNat (by omega) u
 have h2 := scI_sz h.big hr u
 have h4 := szQ_mul (scI s u) (refK (fin (mulS s) (mulG goal)) (srcOf (mulS s) (mulG goal)) r s.n.toNat u)
 have h6 : (s.n.toNat + 1) * (3000 + 1) ≤ 17 * (3000 + 1) := Nat.mul_le_mul_right _ (by omega)
 unfold refR
 omega
theorem leastR_tn {s : SysD} {goal : List TermD} (h : RFit s goal 4 6) (hr : rightS s = true) (hg : rightT goal s.n = true) (hv : tnF (leastR s goal).v) : tnO (leastR s goal) := by
 have hn := h.hn hr
 have hl := h.hr
 have zn : tnFs [] := ⟨by decide, fun f hf => by cases hf⟩
 have pt : ∀ g : List TermD, RFit s g 4 6 → rightT g s.n = true → tnFs (pointR s g) := fun g hf hg' => by
  obtain ⟨_, ev, _⟩ := hf.entries hr hg'
  exact tn_fracs (by omega) fun u => Nat.le_trans (point_szS (by decide) ev _ (Nat.le_refl _) u) (by decide)
 have ref : ∀ g : List TermD, RFit s g 4 6 → rightT g s.n = true → ∀ r, next (fin (mulS s) (mulG g)) = .row r → tnFs (fracsOf s.r.length (refR s g r)) := fun g hf hg' r hnx =>
  tn_fracs (by omega) fun u => refR_sz hf hr hg' (next_row_lt hnx).1 u
 refine ⟨hv, ?_⟩
 clear hv
 unfold leastR
 cases hnx : next (fin (mulS s) (mulG goal)) with
 | best => exact ⟨pt goal h hg, tn_fracs (by omega) (pricesR_sz h hr hg), zn⟩
 | row r => exact ⟨zn, ref goal h hg r hnx, zn⟩
 | ex _ _ => exact ⟨zn, zn, zn⟩
 | col c =>
   cases hnx2 : next (fin (mulS s) (mulG [])) with
   | row r => exact ⟨zn, ref [] h.nil (right_nilT hr) r hnx2, zn⟩
   | _ =>
     all_goals
      obtain ⟨ea, _, _⟩ := h.entries hr hg
      exact ⟨pt [] h.nil (right_nilT hr), zn, tn_fracs (by omega) fun u => Nat.le_trans (ray_szS (by decide) (next_col_lt hnx) ea _ (Nat.le_refl _) u) (by decide)⟩
end Go.Proofs.YtpkdhmnlpnijhaaGreat
