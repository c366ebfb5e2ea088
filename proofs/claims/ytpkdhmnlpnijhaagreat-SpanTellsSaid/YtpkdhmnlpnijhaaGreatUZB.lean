/-
  The reference's span: Opposite, Of, Bounds, Certain, Implied, Check.
-/
import Derived.Test.YtpkdhmnlpnijhaaGreatUZT
import Derived.Test.YtpkdhmnlpnijhaaGreatUSd
import Derived.Test.YtpkdhmnlpnijhaaGreatUSpA
import Derived.Test.YtpkdhmnlpnijhaaGreatUZL
import Derived.Test.YtpkdhmnlpnijhaaGreatUSimD
import Derived.Test.YtpkdhmnlpnijhaaGreatUSimI
import Derived.Test.YtpkdhmnlpnijhaaGreatUDualW
import Derived.Test.YtpkdhmnlpnijhaaGreatUShapeO
namespace Go.Proofs.YtpkdhmnlpnijhaaGreat
set_option linter.unusedVariables false
set_option linter.unusedSimpArgs false
set_option linter.unusedSectionVars false
open Go Go.RowKit
set_option maxRecDepth 100000
set_option maxHeartbeats 8000000
theorem RFit.opp {s : SysD} {goal : List TermD} {B L : Nat} (h : RFit s goal B L) : RFit s (oppT goal) B L := by
 obtain ⟨a, b⟩ := opp_sz goal h.hg.2
 exact ⟨h.hr, h.hn, h.hw, ⟨by have := h.hg.1; omega, b⟩, h.hB, h.hL⟩
noncomputable def rangeR (s : SysD) (goal : List TermD) : (OptD × OptD) × Int :=
 if rightS s && rightT goal s.n then (if (leastR s goal).k = 1 then ((zO, zO), 15) else ((leastR s goal, leastR s (oppT goal)), 0)) else ((zO, zO), 1)
theorem range_agrees (s : SysD) (goal : List TermD) : (rangeR s goal).2 = (rangeD s goal).2 ∧ boundsD (rangeR s goal).1.1 (rangeR s goal).1.2 = boundsD (rangeD s goal).1.1 (rangeD s goal).1.2 ∧ (rangeR s goal).1.1.k = (rangeD s goal).1.1.k ∧ (rangeR s goal).1.2.k = (rangeD s goal).1.2.k ∧ (rangeR s goal).1.1.v = (rangeD s goal).1.1.v ∧ (rangeR s goal).1.2.v = (rangeD s goal).1.2.v := by
 unfold rangeR rangeD
 cases hr : rightS s && rightT goal s.n
 · rw [if_neg Bool.false_ne_true, if_neg Bool.false_ne_true]
   exact ⟨rfl, rfl, rfl, rfl, rfl, rfl⟩
 · rw [if_pos rfl, if_pos rfl]
   simp only [Bool.and_eq_true] at hr
   obtain ⟨a1, a2⟩ := leastR_agrees hr.1 hr.2
   obtain ⟨b1, b2⟩ := leastR_agrees hr.1 (opp_right hr.2)
   generalize leastR s goal = R1 at *
   generalize leastR s (oppT goal) = R2 at *
   generalize leastE s goal = L1 at *
   generalize leastE s (oppT goal) = L2 at *
   rw [a1]
   by_cases hk : L1.k = 1
   · rw [if_pos hk, if_pos hk]
     exact ⟨rfl, rfl, rfl, rfl, rfl, rfl⟩
   · rw [if_neg hk, if_neg hk]
     exact ⟨rfl, by unfold boundsD; simp only [a1, a2, b1, b2], a1, b1, a2, b2⟩
theorem rnegA_c (a : FracD) (za : (szF a : Int) ≤ 549755813888) : Contract Tryz.prog 93 [encF a] (encF (negD a)) := by
 cases ha : okF a
 · have k1 := (rrightF_c a za).toN rfl
   rw [ha] at k1
   rw [show negD a = zF by simp [negD, ha]]
   have hres := Tryz.results93
   refine inC Tryz.func93 rfl Tryz.ntmps93 ?_
   refine aGo hres ?_
   repeat with_reducible intro K hK
   rfl
 obtain ⟨r, rfl⟩ := okF_iff.1 ha
 rw [negD_ofQ]
 exact rnegF_c r za
theorem ropp_c (goal : List TermD) (hs : smT goal) : Contract Tryz.prog 138 [encTs goal] (encTs (oppT goal)) := by
 have hres := Tryz.results138
 have k1 := rint_c (-1) (by decide) (by decide)
 have k2 := rtimesT_c goal (ofQ ((-1 : Int) : Rat)) hs (by have := one_neg.1; unfold smF; omega)
 refine inC Tryz.func138 rfl Tryz.ntmps138 ?_
 refine aGo hres ?_
 repeat with_reducible intro K hK
 rfl
theorem rbounds11_c (a b : OptD) (za : (szF a.v : Int) ≤ 549755813888) (zb : (szF b.v : Int) ≤ 549755813888) : Contract Tryz.prog 51 [encR a b] (encBd (boundsD a b)) := by
 have hres := Tryz.results51
 obtain ⟨ak, av, ax, ay, ad⟩ := a
 obtain ⟨bk, bv, bx, by', bd⟩ := b
 have k2 := rnegA_c bv zb
 by_cases h1 : ak = 0
 · have g1 : (ak == 0) = true := by simpa using h1
   by_cases h2 : bk = 0
   · have g2 : (bk == 0) = true := by simpa using h2
     simp only [boundsD, if_pos h1, if_pos h2, decide_eq_true h1, decide_eq_true h2]
     refine inC Tryz.func51 rfl Tryz.ntmps51 ?_
     exact aGo (cj3 hres g1 g2) trivial
   · have g2 : (bk == 0) = false := by simpa using h2
     simp only [boundsD, if_pos h1, if_neg h2, decide_eq_true h1, decide_eq_false h2]
     refine inC Tryz.func51 rfl Tryz.ntmps51 ?_
     refine aGo (cj3 hres g1 g2) ?_
     repeat with_reducible intro K hK
     rfl
 · have g1 : (ak == 0) = false := by simpa using h1
   by_cases h2 : bk = 0
   · have g2 : (bk == 0) = true := by simpa using h2
     simp only [boundsD, if_neg h1, if_pos h2, decide_eq_false h1, decide_eq_true h2]
     refine inC Tryz.func51 rfl Tryz.ntmps51 ?_
     refine aGo (cj3 hres g1 g2) ?_
     repeat with_reducible intro K hK
     rfl
   · have g2 : (bk == 0) = false := by simpa using h2
     simp only [boundsD, if_neg h1, if_neg h2, decide_eq_false h1, decide_eq_false h2]
     refine inC Tryz.func51 rfl Tryz.ntmps51 ?_
     refine aGo (cj3 hres g1 g2) ?_
     repeat with_reducible intro K hK
     rfl
theorem rof11_c (s : SysD) (goal : List TermD) (h : RFit s goal 16 16) : Contract Tryz.prog 42 [encS s, encTs goal] (.tup [encR (rangeR s goal).1.1 (rangeR s goal).1.2, dI (rangeR s goal).2]) := by
 have hres := Tryz.results42
 have kl := zleast_c s goal h
 have km := zleast_c s _ h.opp
 have ko := ropp_c goal h.gt.sm
 have q1 := rrightS_c s h.tn.sm
 have q2 := rrightT_c goal s.n h.gt.sm
 have b10 : ((1 : Int) != 0) = true := rfl
 have b00 : ((0 : Int) != 0) = false := rfl
 cases h1 : rightS s
 · have e1 : rangeR s goal = ((zO, zO), 1) := by unfold rangeR; rw [h1]; rfl
   rw [h1] at q1
   rw [e1]
   refine inC Tryz.func42 rfl Tryz.ntmps42 ?_
   refine aGo hres ?_
   repeat with_reducible intro K hK
   rfl
 cases h2 : rightT goal s.n
 · have e1 : rangeR s goal = ((zO, zO), 1) := by unfold rangeR; rw [h1, h2]; rfl
   rw [h1] at q1
   rw [h2] at q2
   rw [e1]
   refine inC Tryz.func42 rfl Tryz.ntmps42 ?_
   refine aGo hres ?_
   repeat with_reducible intro K hK
   rfl
 rw [show leastRD s goal = (leastR s goal, 0) by unfold leastRD; rw [h1, h2]; rfl] at kl
 rw [show leastRD s (oppT goal) = (leastR s (oppT goal), 0) by unfold leastRD; rw [h1, opp_right h2]; rfl] at km
 by_cases hk : (leastR s goal).k = 1
 · have e1 : rangeR s goal = ((zO, zO), 15) := by unfold rangeR; rw [h1, h2, if_pos (by rfl), if_pos hk]
   rw [e1]
   rw [h1] at q1
   rw [h2] at q2
   generalize leastR s goal = L at *
   obtain ⟨lk, lv, lx, ly, ld⟩ := L
   simp only at hk
   subst hk
   refine inC Tryz.func42 rfl Tryz.ntmps42 ?_
   refine aGo (cj3 hres b10 b00) ?_
   repeat with_reducible intro K hK
   rfl
 · have e1 : rangeR s goal = ((leastR s goal, leastR s (oppT goal)), 0) := by unfold rangeR; rw [h1, h2, if_pos (by rfl), if_neg hk]
   rw [e1]
   rw [h1] at q1
   rw [h2] at q2
   generalize leastR s goal = L at *
   generalize leastR s (oppT goal) = M at *
   generalize oppT goal = O at *
   obtain ⟨lk, lv, lx, ly, ld⟩ := L
   have e2 : (lk == 1) = false := by simpa using hk
   refine inC Tryz.func42 rfl Tryz.ntmps42 ?_
   refine aGo (cj3 hres e2 b00) ?_
   repeat with_reducible intro K hK
   rfl
theorem rcert11_c (s : SysD) (goal : List TermD) {B T : Nat} (h : Fit s goal B T) (h2 : RFit s goal 16 16) : Contract Tryz.prog 48 [encS s, encTs goal] (.tup [encF (certD s goal).1, dB (certD s goal).2]) := by
 have hres := Tryz.results48
 have ko := rof11_c s goal h2
 obtain ⟨r1, r2, _, _, r3, r4⟩ := range_agrees s goal
 obtain ⟨z1, z2⟩ := range_sz h
 obtain ⟨y1, y2⟩ := bds_sz h
 have kb := rbounds11_c (rangeR s goal).1.1 (rangeR s goal).1.2 (by rw [r3]; omega) (by rw [r4]; omega)
 rw [r2] at kb
 rw [r1] at ko
 clear r1 r2 r3 r4
 unfold certD
 unfold bdsD at *
 generalize rangeR s goal = RR at *
 obtain ⟨⟨a, b⟩, e0⟩ := RR
 generalize rangeD s goal = R at *
 obtain ⟨⟨a0, b0⟩, e⟩ := R
 simp only at kb ko y1 y2 ⊢
 generalize boundsD a0 b0 = G at *
 obtain ⟨l, hh, lo, hi⟩ := G
 simp only at y1 y2 ⊢
 have kc := (rcompareF_c l hh (by omega) (by omega)).toN rfl
 by_cases he : e = 0
 · subst he
   have b00 : ((0 : Int) != 0) = false := rfl
   cases lo
   · refine inC Tryz.func48 rfl Tryz.ntmps48 ?_
     refine aGo (cj2 hres b00) ?_
     repeat with_reducible intro K hK
     rfl
   cases hi
   · refine inC Tryz.func48 rfl Tryz.ntmps48 ?_
     refine aGo (cj2 hres b00) ?_
     repeat with_reducible intro K hK
     rfl
   by_cases hc : cmpD l hh = 0
   · rw [hc] at kc ⊢
     refine inC Tryz.func48 rfl Tryz.ntmps48 ?_
     exact aGo (cj2 hres b00) trivial
   · have b1 : (cmpD l hh != 0) = true := by simpa using hc
     have b2 : (cmpD l hh == 0) = false := by simpa using hc
     rw [b2]
     refine inC Tryz.func48 rfl Tryz.ntmps48 ?_
     refine aGo (cj3 hres b00 b1) ?_
     repeat with_reducible intro K hK
     rfl
 · have b1 : (e != 0) = true := by simpa using he
   have b2 : (e == 0) = false := by simpa using he
   rw [b2]
   refine inC Tryz.func48 rfl Tryz.ntmps48 ?_
   refine aGo (cj2 hres b1) ?_
   repeat with_reducible intro K hK
   rfl
theorem rimpl11_no (s : SysD) (w : RowD) (sm : smS s) (sw : smW w) (h : (rightS s && rightW s.n w) = false) : Contract Tryz.prog 46 [encS s, encW w] (.tup [dB false, dI 1]) := by
 have hres := Tryz.results46
 have q1 := rrightS_c s sm
 have q2 := rrightW_c w s.n sw
 cases h1 : rightS s
 · rw [h1] at q1
   refine inC Tryz.func46 rfl Tryz.ntmps46 ?_
   exact aGo hres trivial
 · rw [h1] at q1 h
   rw [show rightW s.n w = false from h] at q2
   refine inC Tryz.func46 rfl Tryz.ntmps46 ?_
   exact aGo hres trivial
theorem rimpl11_c (s : SysD) (w : RowD) {B T : Nat} (h : Fit s w.t B T) (h2 : RFit s w.t 16 16) (hw1 : szF w.v ≤ 262144) (hs : rightS s = true) (hw : rightW s.n w = true) : Contract Tryz.prog 46 [encS s, encW w] (.tup [dB (impB s w), dI 0]) := by
 have hres := Tryz.results46
 have k1 := rrightS_c s h.tn.sm
 rw [hs] at k1
 have k2 := rrightW_c w s.n ⟨h.gt.sm, by unfold smF; omega⟩
 rw [hw] at k2
 have ko := rof11_c s w.t h2
 obtain ⟨r1, r2, _, _, r3, r4⟩ := range_agrees s w.t
 obtain ⟨z1, z2⟩ := range_sz h
 obtain ⟨y1, y2⟩ := bds_sz h
 have kb := rbounds11_c (rangeR s w.t).1.1 (rangeR s w.t).1.2 (by rw [r3]; omega) (by rw [r4]; omega)
 rw [r2] at kb
 rw [r1] at ko
 clear r1 r2 r3 r4
 have hk : w.k = 0 ∨ w.k = 1 ∨ w.k = 2 := by
  simp only [rightW, Bool.and_eq_true, decide_eq_true_eq] at hw; omega
 have he0 : (rangeD s w.t).2 = 0 ∨ (rangeD s w.t).2 = 15 := by
  have hr : rightT w.t s.n = true := by simp only [rightW, Bool.and_eq_true] at hw; exact hw.1.1.1
  unfold rangeD
  rw [hs, hr, if_pos (by rfl)]
  split
  · exact .inr rfl
  · exact .inl rfl
 unfold impB
 unfold bdsD at *
 generalize rangeR s w.t = RR at *
 obtain ⟨⟨a, b⟩, e0⟩ := RR
 generalize rangeD s w.t = R at *
 obtain ⟨⟨a0, b0⟩, e⟩ := R
 simp only at kb ko y1 y2 he0 ⊢
 generalize boundsD a0 b0 = G at *
 obtain ⟨l, hh, lo, hi⟩ := G
 simp only at y1 y2 ⊢
 obtain ⟨wt, wk, wv⟩ := w
 simp only at *
 have c1 := (rcompareF_c l wv (by omega) (by omega)).toN rfl
 have c2 := (rcompareF_c hh wv (by omega) (by omega)).toN rfl
 have b0F : ((0 : Int) == 15) = false := rfl
 have bFF : ((15 : Int) == 15) = true := rfl
 have b01 : ((0 : Int) == 1) = false := rfl
 have b00 : ((0 : Int) == 0) = true := rfl
 have b11 : ((1 : Int) == 1) = true := rfl
 have b10 : ((1 : Int) == 0) = false := rfl
 have b21 : ((2 : Int) == 1) = false := rfl
 have b20 : ((2 : Int) == 0) = false := rfl
 rcases he0 with he | he
 rotate_left
 · subst he
   refine inC Tryz.func46 rfl Tryz.ntmps46 ?_
   exact aGo (cj2 hres bFF) trivial
 subst he
 generalize cmpD l wv = x at *
 generalize cmpD hh wv = y at *
 cases lo <;> cases hi <;> cases hP : decide (0 ≤ x) <;> cases hQ : decide (y ≤ 0) <;> rcases hk with rfl | rfl | rfl
 all_goals
  first | have h1 := of_decide_eq_true hP | have h1 := of_decide_eq_false hP
  first | have h2 := of_decide_eq_true hQ | have h2 := of_decide_eq_false hQ
  refine inC Tryz.func46 rfl Tryz.ntmps46 ?_
  first | exact aGo (cj4 hres b0F b01 (cj4 b00 b11 b10 (cj4 b21 b20 h1 h2))) trivial | (refine aGo (cj4 hres b0F b01 (cj4 b00 b11 b10 (cj4 b21 b20 h1 h2))) ?_; rfl)
theorem zrel_iters {d0 : Dic} (hF : d0.First) (hI : Dic.IntD d0) : ∀ k, ∃ Z, ZRel d0 (iters k d0) Z
 | 0 => ⟨_, zrel_first hF hI⟩
 | k + 1 => by
   obtain ⟨Z, hZ⟩ := zrel_iters hF hI k
   rw [iters_snoc]
   unfold iter
   split
   · rename_i r s hn
     have st := next_step (iters_part hF.part k) hn
     exact ⟨_, hZ.ex hI st.hr st.hs st.ne⟩
   · exact ⟨Z, hZ⟩
theorem zrel_fin (s : SysD) (goal : List TermD) : ∃ Z, ZRel (openD (mulS s) (mulG goal)).1 (fin (mulS s) (mulG goal)) Z := zrel_iters (openD_first _ _) (open_int s goal) _
theorem quotS {x : Rat} {z D : Int} {S : Nat} (hD : 0 < D) (h : x * (D : Rat) = z) (hz : szZ z ≤ S) (hd : szZ D ≤ S) (hS : 1 ≤ S) : szQ x ≤ 2 * S := by
 have h1 := szQ_whole hz hS
 have h2 := szQ_whole hd hS
 have h0 : (D : Rat) ≠ 0 := fun e => by
  have : D = 0 := Rat.intCast_inj.1 (by rw [e]; rfl)
  omega
 have e : x = (z : Rat) / (D : Rat) := by rw [← h, Rat.div_def, Rat.mul_assoc, Rat.mul_inv_cancel _ h0, Rat.mul_one]
 have h3 := szQ_div (a := (z : Rat)) (b := (D : Rat)) h0
 rw [← e] at h3
 omega
section
variable {s : SysD} {goal : List TermD} (h : RFit s goal 4 6) (hr : rightS s = true) (hg : rightT goal s.n = true)
include h
theorem RFit.big : RFit s goal 16 16 := ⟨h.hr, h.hn, fun w hw => by
 obtain ⟨a, b, c⟩ := h.hw w hw
 exact ⟨by omega, by omega, fun t ht => by have := c t ht; omega⟩, ⟨by have := h.hg.1; omega, fun t ht => by have := h.hg.2 t ht; omega⟩, by decide, by decide⟩
include hr hg
theorem RFit.sized2 {d : Dic} {Z : ZD} (hZ : ZRel (openD (mulS s) (mulG goal)).1 d Z) : ZSz Z 1500 := by
 have hm := openD_m2 (mulS s) (mulG goal)
 rw [mulS_len] at hm
 have h20 := h.hr
 have hM : (((bp (1 + 4 + 6 * 4 + 4)).toNat : Nat) : Int) < bp (1 + 4 + 6 * 4 + 4 + 1) := by decide +kernel
 have hz := hZ.sized (h.intB hr hg) hM (by omega)
 have hk : ((openD (mulS s) (mulG goal)).1.m + 1) * (1 + 4 + 6 * 4 + 4 + 1 + 1) + 1 ≤ 1500 := by omega
 exact ⟨fun i j hi hj => Nat.le_trans (hz.a i j hi hj) hk, fun i hi => Nat.le_trans (hz.v i hi) hk, fun j hj => Nat.le_trans (hz.g j hj) hk, Nat.le_trans hz.D hk⟩
theorem RFit.entries : (∀ i j, i < (fin (mulS s) (mulG goal)).m → j < (fin (mulS s) (mulG goal)).n → szQ ((fin (mulS s) (mulG goal)).a i j) ≤ 3000) ∧ (∀ i, i < (fin (mulS s) (mulG goal)).m → szQ ((fin (mulS s) (mulG goal)).v i) ≤ 3000) ∧ ∀ j, j < (fin (mulS s) (mulG goal)).n → szQ ((fin (mulS s) (mulG goal)).g j) ≤ 3000 := by
 obtain ⟨Z, hZ⟩ := zrel_fin s goal
 have sz := h.sized2 hr hg hZ
 exact ⟨fun i j hi hj => quotS hZ.pos (hZ.a i j hi hj) (sz.a i j (by rw [hZ.m]; exact hi) (by rw [hZ.n]; exact hj)) sz.D (by decide), fun i hi => quotS hZ.pos (hZ.v i hi) (sz.v i (by rw [hZ.m]; exact hi)) sz.D (by decide), fun j hj => quotS hZ.pos (hZ.g j hj) (sz.g j (by rw [hZ.n]; exact hj)) sz.D (by decide)⟩
end
theorem point_szS {d : Dic} {S : Nat} (hS : 1 ≤ S) (hv : ∀ i, i < d.m → szQ (d.v i) ≤ S) : ∀ i, i ≤ d.m → ∀ u, szQ (pointK d i u) ≤ S
 | 0, _, u => by have := sz_0; simp only [pointK]; omega
 | i + 1, hi, u => by
   simp only [pointK]
   split
   · exact hv i (by omega)
   · exact point_szS hS hv i (by omega) u
theorem ray_szS {d : Dic} {c S : Nat} (hS : 1 ≤ S) (hc : c < d.n) (ha : ∀ i j, i < d.m → j < d.n → szQ (d.a i j) ≤ S) : ∀ i, i ≤ d.m → ∀ u, szQ (rayK d c i u) ≤ S
 | 0, _, u => by
   have h0 := sz_0
   have h1 := sz_1
   simp only [rayK]
   split <;> omega
 | i + 1, hi, u => by
   simp only [rayK]
   split
   · rw [szQ_neg]; exact ha i c (by omega) hc
   · exact ray_szS hS hc ha i (by omega) u
theorem pricesR_sz {s : SysD} {goal : List TermD} (h : RFit s goal 4 6) (hr : rightS s = true) (hg : rightT goal s.n = true) (u : Nat) : szQ (pricesR s goal u) ≤ 262144 := by
 obtain ⟨_, _, eg⟩ := h.entries hr hg
 have hn := h.hn hr
 have fn := fin_n (mulS s) (mulG goal)
 rw [mulS_n] at fn
 have h1 := prices_sz (fin (mulS s) (mulG goal)) (srcOf (mulS s) (mulG goal)) eg s.n.toNat (by omega) u
 have h2 := scI_sz h.big hr u
 have h3 := inv_sz (n := goalM1 goal) (goalM_pos goal) (goalM_sz h.big hr hg)
 have h4 := szQ_mul (scI s u) (pricesK (fin (mulS s) (mulG goal)) (srcOf (mulS s) (mulG goal)) s.n.toNat u)
 have h5 := szQ_mul ((goalM1 goal : Rat)⁻¹) (scI s u * pricesK (fin (mulS s) (mulG goal)) (srcOf (mulS s) (mulG goal)) s.n.toNat u)
 have h6 : s.n.toNat * (3000 + 1) ≤ 16 * (3000 + 1) := Nat.mul_le_mul_right _ (by omega)
 unfold pricesR
 omega
theorem refR_sz {s : SysD} {goal : List TermD} (h : RFit s goal 4 6) (hr : rightS s = true) (hg : rightT goal s.n = true) {r : Nat} (hrm : r < (fin (mulS s) (mulG goal)).m) (u : Nat) : szQ (refR s goal r u) ≤ 262144 := by
 obtain ⟨ea, _, _⟩ := h.entries hr hg
 have hn := h.hn hr
 have fn := fin_n (mulS s) (mulG goal)
 rw [mulS_n] at fn
 have h1 := ref_sz (fin (mulS s) (mulG goal)) (srcOf (mulS s) (mulG goal)) r (by decide) (fun j hj => ea r j hrm hj) s.n.toNat (by omega) u
 have h2 := scI_sz h.big hr u
 have h4 := szQ_mul (scI s u) (refK (fin (mulS s) (mulG goal)) (srcOf (mulS s) (mulG goal)) r s.n.toNat u)
 have h6 : (s.n.toNat + 1) * (3000 + 1) ≤ 17 * (3000 + 1) := Nat.mul_le_mul_right _ (by omega)
 unfold refR
 omega
theorem leastR_tn {s : SysD} {goal : List TermD} (h : RFit s goal 4 6) (hr : rightS s = true) (hg : rightT goal s.n = true) (hv : tnF (leastR s goal).v) : tnO (leastR s goal) := by
 have hn := h.hn hr
 have hl := h.hr
 have zn : tnFs [] := ⟨by decide, fun f hf => by cases hf⟩
 have pt : ∀ g : List TermD, RFit s g 4 6 → rightT g s.n = true → tnFs (pointR s g) := fun g hf hg' => by
  obtain ⟨_, ev, _⟩ := hf.entries hr hg'
  exact tn_fracs (by omega) fun u => Nat.le_trans (point_szS (by decide) ev _ (Nat.le_refl _) u) (by decide)
 have ref : ∀ g : List TermD, RFit s g 4 6 → rightT g s.n = true → ∀ r, next (fin (mulS s) (mulG g)) = .row r → tnFs (fracsOf s.r.length (refR s g r)) := fun g hf hg' r hnx =>
  tn_fracs (by omega) fun u => refR_sz hf hr hg' (next_row_lt hnx).1 u
 refine ⟨hv, ?_⟩
 clear hv
 unfold leastR
 cases hnx : next (fin (mulS s) (mulG goal)) with
 | best => exact ⟨pt goal h hg, tn_fracs (by omega) (pricesR_sz h hr hg), zn⟩
 | row r => exact ⟨zn, ref goal h hg r hnx, zn⟩
 | ex _ _ => exact ⟨zn, zn, zn⟩
 | col c =>
   cases hnx2 : next (fin (mulS s) (mulG [])) with
   | row r => exact ⟨zn, ref [] h.nil (right_nilT hr) r hnx2, zn⟩
   | _ =>
     all_goals
      obtain ⟨ea, _, _⟩ := h.entries hr hg
      exact ⟨pt [] h.nil (right_nilT hr), zn, tn_fracs (by omega) fun u => Nat.le_trans (ray_szS (by decide) (next_col_lt hnx) ea _ (Nat.le_refl _) u) (by decide)⟩
noncomputable def chk11 (s : SysD) (goal : List TermD) (a b : OptD) : Bool := !(a.k == 1) && (!(b.k == 1) && (checkD s goal a && checkD s (oppT goal) b))
theorem opp_tn {goal : List TermD} (h : tnT goal) : tnT (oppT goal) := by
 obtain ⟨a, b⟩ := opp_sz (B := 262144) goal fun t ht => by have := h.2 t ht; unfold tnF at this; omega
 exact ⟨by have := h.1; omega, fun t ht => by have := b t ht; unfold tnF; omega⟩
theorem check11_c (s : SysD) (goal : List TermD) (a b : OptD) (hs : tnS s) (hg : tnT goal) (ha : tnO a) (hb : tnO b) : Contract Tryz.prog 52 [encS s, encTs goal, encR a b] (dB (chk11 s goal a b)) := by
 have hres := Tryz.results52
 have ko := opp_c goal hg.sm
 have k1 := dcheck_c s goal a hs hg.sm ha
 have k2 := dcheck_c s (oppT goal) b hs (opp_tn hg).sm hb
 unfold chk11
 generalize checkD s goal a = A at *
 generalize checkD s (oppT goal) b = B at *
 generalize oppT goal = O at *
 obtain ⟨ak, av, ax, ay, ad⟩ := a
 obtain ⟨bk, bv, bx, by', bd⟩ := b
 simp only
 cases h1 : ak == 1
 rotate_left
 · refine inC Tryz.func52 rfl Tryz.ntmps52 ?_
   exact aGo (cj2 hres h1) trivial
 cases h2 : bk == 1
 rotate_left
 · refine inC Tryz.func52 rfl Tryz.ntmps52 ?_
   exact aGo (cj3 hres h1 h2) trivial
 cases A
 · refine inC Tryz.func52 rfl Tryz.ntmps52 ?_
   exact aGo (cj3 hres h1 h2) trivial
 · refine inC Tryz.func52 rfl Tryz.ntmps52 ?_
   exact aGo (cj3 hres h1 h2) trivial
theorem rcheck11_c (s : SysD) (goal : List TermD) (a b : OptD) (hs : tnS s) (hg : tnT goal) (ha : tnO a) (hb : tnO b) : Contract Tryz.prog 43 [encS s, encTs goal, encR a b] (dB (chk11 s goal a b)) := by
 have hres := Tryz.results43
 have ko := ropp_c goal hg.sm
 have k1 := refcheck9_c s goal a hs hg ha
 have k2 := refcheck9_c s (oppT goal) b hs (opp_tn hg) hb
 unfold chk11
 generalize checkD s goal a = A at *
 generalize checkD s (oppT goal) b = B at *
 generalize oppT goal = O at *
 obtain ⟨ak, av, ax, ay, ad⟩ := a
 obtain ⟨bk, bv, bx, by', bd⟩ := b
 simp only
 cases h1 : ak == 1
 rotate_left
 · refine inC Tryz.func43 rfl Tryz.ntmps43 ?_
   exact aGo (cj2 hres h1) trivial
 cases h2 : bk == 1
 rotate_left
 · refine inC Tryz.func43 rfl Tryz.ntmps43 ?_
   exact aGo (cj3 hres h1 h2) trivial
 cases A
 · refine inC Tryz.func43 rfl Tryz.ntmps43 ?_
   exact aGo (cj3 hres h1 h2) trivial
 · refine inC Tryz.func43 rfl Tryz.ntmps43 ?_
   exact aGo (cj3 hres h1 h2) trivial
theorem samebd_c (a : BdD) (zl : (szF a.l : Int) ≤ 4456448) (zh : (szF a.h : Int) ≤ 4456448) : Contract Tryz.prog 49 [encBd a, encBd a] (dB true) := by
 have hres := Tryz.results49
 have s1 := (rsameF_c a.l a.l (by omega)).toN rfl
 have s2 := (rsameF_c a.h a.h (by omega)).toN rfl
 rw [sameF_self] at s1 s2
 obtain ⟨l, h, lo, hi⟩ := a
 simp only at s1 s2
 refine inC Tryz.func49 rfl Tryz.ntmps49 ?_
 exact aGo hres trivial
def fewO (o : OptD) : Bool := fewF 8 o.v && (fewP o.x 12 8 && (fewP o.y 12 8 && fewP o.d 12 8))
theorem fewO_c (o : OptD) : ContractN Tryz.prog 40 [encO o, dI 12, dI 8] (dB (fewO o)) := by
 refine Contract.toN ?_ rfl
 have hres := Tryz.results40
 have k1 := (rfew_c o.v 8).toN rfl
 rw [show (decide ((o.v.p.d.length : Int) ≤ 8) && decide ((o.v.q.d.length : Int) ≤ 8)) = fewF 8 o.v from rfl] at k1
 have k2 := fewP_c o.x 12 8 (by decide)
 have k3 := fewP_c o.y 12 8 (by decide)
 have k4 := fewP_c o.d 12 8 (by decide)
 unfold fewO
 obtain ⟨ok, ov, ox, oy, od⟩ := o
 simp only at *
 generalize fewF 8 ov = A at *
 generalize fewP ox 12 8 = B at *
 generalize fewP oy 12 8 = C at *
 generalize fewP od 12 8 = E at *
 cases A <;> cases B <;> cases C
 all_goals
  refine inC Tryz.func40 rfl Tryz.ntmps40 ?_
  exact aGo hres trivial
theorem few_tn {o : OptD} (h : fewO o = true) : tnO o := by
 simp only [fewO, Bool.and_eq_true] at h
 obtain ⟨h1, h2, h3, h4⟩ := h
 have p : ∀ l : List FracD, fewP l 12 8 = true → tnFs l := fun l hl => ⟨by have := (fewP_sz hl).1; omega, fun f hf => by have := (fewP_sz hl).2 f hf; unfold tnF; omega⟩
 exact ⟨by have := fewF_sz h1; unfold tnF; omega, p _ h2, p _ h3, p _ h4⟩
theorem empty11_c : Contract Tryz.prog 44 [encO zO] (dB true) := by
 have hres := Tryz.results44
 have k1 := (rsameF_c zF zF (by decide)).toN rfl
 rw [sameF_self] at k1
 have b00 : ((0 : Int) == 0) = true := rfl
 refine inC Tryz.func44 rfl Tryz.ntmps44 ?_
 exact aGo (cj2 hres b00) trivial
theorem impl11_no (s : SysD) (w : RowD) (sm : smS s) (sw : smW w) (h : (rightS s && rightW s.n w) = false) : Contract Tryz.prog 45 [encS s, encW w] (.tup [dB false, dI 1]) := by
 have hres := Tryz.results45
 have q1 := lrightS_c s sm
 cases h1 : rightS s
 · rw [h1] at q1
   refine inC Tryz.func45 rfl Tryz.ntmps45 ?_
   exact aGo hres trivial
 · rw [h1] at q1 h
   have q2 := lrightS_c ⟨s.n, [w]⟩ ⟨by simp, fun u hu => by rw [List.mem_singleton.1 hu]; exact sw⟩
   rw [show rightS ⟨s.n, [w]⟩ = false by
    have : rightW s.n w = false := h
    simp only [rightS, List.all_cons, this, Bool.false_and, Bool.and_false]] at q2
   refine inC Tryz.func45 rfl Tryz.ntmps45 ?_
   exact aGo hres trivial
theorem chk_zO (s : SysD) (goal : List TermD) : chk11 s goal zO zO = false := by
 have e : checkD s goal zO = false := by
  cases h : checkD s goal zO
  · rfl
  · rcases least_says h with ⟨_, q, x, hq, _⟩ | ⟨hk, _⟩ | ⟨hk, _⟩
    · have : okF zO.v = true := by rw [hq]; exact okF_ofQ q
      exact absurd this (by decide)
    · exact absurd hk (by decide)
    · exact absurd hk (by decide)
 unfold chk11
 rw [e]
 rfl
theorem chk_two {s : SysD} {goal : List TermD} {A B : OptD} (h1 : checkD s goal A = true) (h2 : checkD s (oppT goal) B = true) (hk : A.k ≠ 1) : chk11 s goal A B = true ∧ B.k ≠ 1 := by
 have hx : ∃ x, holdsS s x = true := by
  rcases least_says h1 with ⟨_, q, x, _, hx, _⟩ | ⟨h, _⟩ | ⟨_, h⟩
  · exact ⟨x, hx⟩
  · exact absurd h hk
  · obtain ⟨x, hx, _⟩ := h 0
    exact ⟨x, hx⟩
 have hk2 : B.k ≠ 1 := by
  rcases least_says h2 with ⟨h, _⟩ | ⟨_, h⟩ | ⟨h, _⟩
  · omega
  · obtain ⟨x, hx⟩ := hx
    rw [h x] at hx
    cases hx
  · omega
 refine ⟨?_, hk2⟩
 unfold chk11
 rw [h1, h2, show (A.k == 1) = false by simpa using hk, show (B.k == 1) = false by simpa using hk2]
 rfl
theorem range_cases (s : SysD) (goal : List TermD) : (∃ g1 g2 w1 w2 : OptD, rangeD s goal = ((g1, g2), 0) ∧ rangeR s goal = ((w1, w2), 0) ∧ chk11 s goal g1 g2 = true ∧ chk11 s goal w1 w2 = true ∧ rightS s = true ∧ rightT goal s.n = true ∧ g1 = leastE s goal ∧ g2 = leastE s (oppT goal) ∧ w1 = leastR s goal ∧ w2 = leastR s (oppT goal) ∧ w1.v = g1.v ∧ w2.v = g2.v ∧ boundsD w1 w2 = boundsD g1 g2)
    ∨ ∃ e : Int, rangeD s goal = ((zO, zO), e) ∧ rangeR s goal = ((zO, zO), e) ∧ e ≠ 0 := by
 obtain ⟨_, r2, _⟩ := range_agrees s goal
 revert r2
 unfold rangeD rangeR
 cases hr : rightS s && rightT goal s.n
 · rw [if_neg Bool.false_ne_true, if_neg Bool.false_ne_true]
   exact fun _ => .inr ⟨1, rfl, rfl, by decide⟩
 · rw [if_pos rfl, if_pos rfl]
   simp only [Bool.and_eq_true] at hr
   obtain ⟨a1, a2⟩ := leastR_agrees hr.1 hr.2
   obtain ⟨b1, b2⟩ := leastR_agrees hr.1 (opp_right hr.2)
   have c1 := least_check hr.1 hr.2
   have c2 := least_check hr.1 (opp_right hr.2)
   have d1 := leastR_check hr.1 hr.2
   have d2 := leastR_check hr.1 (opp_right hr.2)
   rw [a1]
   by_cases hk : (leastE s goal).k = 1
   · rw [if_pos hk, if_pos hk]
     exact fun _ => .inr ⟨15, rfl, rfl, by decide⟩
   · rw [if_neg hk, if_neg hk]
     exact fun r2 => .inl ⟨_, _, _, _, rfl, rfl, (chk_two c1 c2 hk).1, (chk_two d1 d2 (by rw [a1]; exact hk)).1, hr.1, hr.2, rfl, rfl, rfl, rfl, a2, b2, r2⟩
theorem rfit11 {s : SysD} {goal : List TermD} (h : fewS s 6 6 2 = true) (hg : fewT goal 6 2 = true) : RFit s goal 4 6 := by
 obtain ⟨h1, h2, h3⟩ := few_rows h
 have h4 := fewT_sz hg
 exact ⟨by omega, fun _ => by omega, fun w hw => ⟨(h3 w hw).1, by have := (h3 w hw).2.1; omega, fun t ht => by have := (h3 w hw).2.2 t ht; omega⟩, ⟨by omega, fun t ht => by have := fewT_nat 2 (by decide) hg t ht; omega⟩, by decide, by decide⟩
theorem bd_sz {a b : OptD} (ha : (szF a.v : Int) ≤ 4456448) (hb : (szF b.v : Int) ≤ 4456448) : (szF (boundsD a b).l : Int) ≤ 4456448 ∧ (szF (boundsD a b).h : Int) ≤ 4456448 := by
 have z : (szF zF : Int) ≤ 4456448 := by decide
 have := szF_neg b.v
 unfold boundsD
 refine ⟨?_, ?_⟩
 · dsimp only; split
   · exact ha
   · exact z
 · dsimp only; split
   · omega
   · exact z
theorem cert_sz {s : SysD} {goal : List TermD} {B T : Nat} (h : Fit s goal B T) : (szF (certD s goal).1 : Int) ≤ 4456448 := by
 have z : (szF zF : Int) ≤ 4456448 := by decide
 have := (bds_sz h).1
 unfold certD
 split
 · exact this
 · exact z
theorem tells11_c (k0 : Contract Tryz.prog 36 [] (dB true)) (s : SysD) (goal : List TermD) (w : RowD) (a b : OptD) : Contract Tryz.prog 6 [encS s, encTs goal, encW w, encR a b] (dB true) := by
 have hres := Tryz.results6
 have q1 := few11_c s goal
 have q2 := fewT_c w.t 6 2 (by decide)
 have q3 := (rfew_c w.v 2).toN rfl
 rw [show (decide ((w.v.p.d.length : Int) ≤ 2) && decide ((w.v.q.d.length : Int) ≤ 2)) = fewF 2 w.v from rfl] at q3
 have q4 := fewO_c a
 have q5 := fewO_c b
 cases h1 : few11 s goal
 · rw [h1] at q1
   refine inC Tryz.func6 rfl Tryz.ntmps6 ?_
   exact aGo hres trivial
 rw [h1] at q1
 cases h2 : fewT w.t 6 2
 · rw [h2] at q2
   refine inC Tryz.func6 rfl Tryz.ntmps6 ?_
   exact aGo hres trivial
 rw [h2] at q2
 cases h3 : fewF 2 w.v
 · rw [h3] at q3
   refine inC Tryz.func6 rfl Tryz.ntmps6 ?_
   exact aGo hres trivial
 rw [h3] at q3
 cases h4 : fewO a
 · rw [h4] at q4
   refine inC Tryz.func6 rfl Tryz.ntmps6 ?_
   exact aGo hres trivial
 rw [h4] at q4
 cases h5 : fewO b
 · rw [h5] at q5
   refine inC Tryz.func6 rfl Tryz.ntmps6 ?_
   exact aGo hres trivial
 rw [h5] at q5
 simp only [few11, Bool.and_eq_true] at h1
 have F := fit11_of h1.1 h1.2
 have Fw := fit11_of h1.1 h2
 have R := rfit11 h1.1 h1.2
 have Rw := rfit11 h1.1 h2
 have ta := few_tn h4
 have tb := few_tn h5
 have za : (szF a.v : Int) ≤ 262144 := ta.1
 have zb : (szF b.v : Int) ≤ 262144 := tb.1
 have zw := fewF_sz h3
 have m1 := of11_c s goal F
 have m2 := rof11_c s goal R.big
 have m3 := empty11_c
 have m4 := cert11_c s goal F
 have m5 := rcert11_c s goal F R.big
 have m6 := (rsameF_c (certD s goal).1 (certD s goal).1 (by have := cert_sz F; omega)).toN rfl
 rw [sameF_self] at m6
 have m7 := check11_c s goal a b F.tn F.gt ta tb
 have m8 := rcheck11_c s goal a b F.tn F.gt ta tb
 have m9 := bounds11_c a b (by omega) (by omega)
 have n1 := rbounds11_c a b (by omega) (by omega)
 have n2 := samebd_c (boundsD a b) (bd_sz (by omega) (by omega)).1 (bd_sz (by omega) (by omega)).2
 obtain ⟨I, E2, i1, i2⟩ : ∃ (I : Bool) (E2 : Int), Contract Tryz.prog 45 [encS s, encW w] (.tup [dB I, dI E2]) ∧ Contract Tryz.prog 46 [encS s, encW w] (.tup [dB I, dI E2]) := by
  have sw : smW w := ⟨Fw.gt.sm, by unfold smF; omega⟩
  cases hi : rightS s && rightW s.n w
  · exact ⟨_, _, impl11_no s w F.tn.sm sw hi, rimpl11_no s w F.tn.sm sw hi⟩
  · simp only [Bool.and_eq_true] at hi
    exact ⟨_, _, impl11_c s w Fw (by omega) hi.1 hi.2, rimpl11_c s w Fw Rw.big (by omega) hi.1 hi.2⟩
 have e1 : (I == I) = true := by simp
 have e2 : (E2 == E2) = true := by simp
 have e3 : ((certD s goal).2 == (certD s goal).2) = true := by simp
 have e4 : (chk11 s goal a b == chk11 s goal a b) = true := by simp
 generalize certD s goal = C at *
 generalize chk11 s goal a b = V at *
 generalize boundsD a b = G at *
 rcases range_cases s goal with ⟨g1, g2, w1, w2, p1, p2, p3, p4, hs, hg, rfl, rfl, rfl, rfl, v1, v2, hb⟩ | ⟨e, p1, p2, p3⟩
 · rw [p1] at m1
   rw [p2] at m2
   have l1 := least_tn F hs hg
   have l2 := least_tn F.opp hs (opp_right hg)
   have l3 := leastR_tn R hs hg (by rw [v1]; exact l1.1)
   have l4 := leastR_tn R.opp hs (opp_right hg) (by rw [v2]; exact l2.1)
   have y1 : (szF (leastE s goal).v : Int) ≤ 262144 := l1.1
   have y2 : (szF (leastE s (oppT goal)).v : Int) ≤ 262144 := l2.1
   have n3 := rcheck11_c s goal _ _ F.tn F.gt l1 l2
   rw [p3] at n3
   have n4 := check11_c s goal _ _ F.tn F.gt l3 l4
   rw [p4] at n4
   have n5 := bounds11_c (leastE s goal) (leastE s (oppT goal)) (by omega) (by omega)
   have n6 := rbounds11_c (leastR s goal) (leastR s (oppT goal)) (by rw [v1]; omega) (by rw [v2]; omega)
   rw [hb] at n6
   have n7 := samebd_c (boundsD (leastE s goal) (leastE s (oppT goal))) (bd_sz (by omega) (by omega)).1 (bd_sz (by omega) (by omega)).2
   clear p1 p2 p3 p4 v1 v2 hb l1 l2 l3 l4 y1 y2
   generalize boundsD (leastE s goal) (leastE s (oppT goal)) = H at *
   generalize leastE s goal = g1 at *
   generalize leastE s (oppT goal) = g2 at *
   generalize leastR s goal = w1 at *
   generalize leastR s (oppT goal) = w2 at *
   have b00 : ((0 : Int) == 0) = true := rfl
   have b01 : ((0 : Int) != 0) = false := rfl
   refine inC Tryz.func6 rfl Tryz.ntmps6 ?_
   exact aGo (cj4 hres e1 e2 (cj4 e3 e4 b00 b01)) trivial
 · rw [p1] at m1
   rw [p2] at m2
   have tz : tnO zO := ⟨by unfold tnF; decide, ⟨by decide, fun f hf => by cases hf⟩, ⟨by decide, fun f hf => by cases hf⟩, ⟨by decide, fun f hf => by cases hf⟩⟩
   have n4 := check11_c s goal zO zO F.tn F.gt tz tz
   rw [chk_zO] at n4
   have n5 := bounds11_c zO zO (by decide) (by decide)
   have n6 := rbounds11_c zO zO (by decide) (by decide)
   have n7 := samebd_c (boundsD zO zO) (bd_sz (by decide) (by decide)).1 (bd_sz (by decide) (by decide)).2
   have b00 : (e == 0) = false := by simpa using p3
   have b01 : (e != 0) = true := by simpa using p3
   have b02 : (e != e) = false := by simp
   generalize boundsD zO zO = H at *
   refine inC Tryz.func6 rfl Tryz.ntmps6 ?_
   exact aGo (cj4 hres e1 e2 (cj4 e3 e4 b00 (cj2 b01 b02))) trivial
set_option linter.constructorNameAsVariable false
theorem range_of {n : Nat} {x : List D} (h : Shown Tryz.prog (n + 7) 63 x) : ∃ o : OptD × OptD, x = cO o.1 ++ cO o.2 := by
 unfold Shown at h
 simp only [Tryz.underlying63, List.foldr] at h
 obtain ⟨_, _, rfl, h1, _, _, rfl, h2, rfl⟩ := h
 obtain ⟨a, rfl⟩ := opt_of h1
 obtain ⟨b, rfl⟩ := opt_of h2
 exact ⟨(a, b), by simp⟩
theorem tells11p_c (k0 : Contract Tryz.prog 36 [] (dB true)) (s : SysD) (goal : List TermD) (w : RowD) (r : OptD × OptD) : Contract Tryz.prog 6 [encS s, encTs goal, encW w, .agg (cO r.1 ++ cO r.2)] (dB true) := tells11_c k0 s goal w r.1 r.2
end Go.Proofs.YtpkdhmnlpnijhaaGreat
