/-
  The reference's Least: sizes (plain).
-/
import Derived.Test.YtpkdhmnlpnijhaaGreatVZF
namespace Go.Proofs.YtpkdhmnlpnijhaaGreat
set_option linter.unusedVariables false
set_option linter.unusedSimpArgs false
set_option linter.unusedSectionVars false
open Go Go.RowKit
set_option maxRecDepth 100000
theorem zs_of {s : SysD} {goal : List TermD} (fit : RFit s goal 16 16) (hr : rightS s = true) (hg : rightT goal s.n = true) {d : Dic} {Z : ZD} (h : ZRel (openD (mulS s) (mulG goal)).1 d Z) : ZS Z := by
 have := fit.sized hr hg h
 exact ⟨fun i j hi hj => Nat.le_trans (this.a i j hi hj) (by decide), fun i hi => Nat.le_trans (this.v i hi) (by decide), fun j hj => Nat.le_trans (this.g j hj) (by decide), Nat.le_trans this.D (by decide)⟩
theorem szQ_quot {x : Rat} {z D : Int} (hD : 0 < D) (h : x * (D : Rat) = z) (hz : szZ z ≤ 20000) (hd : szZ D ≤ 20000) : szQ x ≤ 50000 := by
 have h1 := szQ_whole hz (by decide)
 have h2 := szQ_whole hd (by decide)
 have h0 : (D : Rat) ≠ 0 := fun e => by
  have : D = 0 := Rat.intCast_inj.1 (by rw [e]; rfl)
  omega
 have e : x = (z : Rat) / (D : Rat) := by rw [← h, Rat.div_def, Rat.mul_assoc, Rat.mul_inv_cancel _ h0, Rat.mul_one]
 have h3 := szQ_div (a := (z : Rat)) (b := (D : Rat)) h0
 rw [← e] at h3
 omega
section
variable {d0 d : Dic} {Z : ZD} (h : ZRel d0 d Z) (sz : ZS Z)
include h sz
theorem ZRel.szg {j : Nat} (hj : j < d.n) : szQ (d.g j) ≤ 50000 := szQ_quot h.pos (h.g j hj) (sz.g j (by rw [h.n]; exact hj)) sz.D
theorem ZRel.szv {i : Nat} (hi : i < d.m) : szQ (d.v i) ≤ 50000 := szQ_quot h.pos (h.v i hi) (sz.v i (by rw [h.m]; exact hi)) sz.D
theorem ZRel.sza {i j : Nat} (hi : i < d.m) (hj : j < d.n) : szQ (d.a i j) ≤ 50000 := szQ_quot h.pos (h.a i j hi hj) (sz.a i j (by rw [h.m]; exact hi) (by rw [h.n]; exact hj)) sz.D
theorem ZRel.szpt : ∀ i, i ≤ d.m → ∀ u, szQ (pointK d i u) ≤ 50000
 | 0, _, u => by have := sz_0; simp only [pointK]; omega
 | i + 1, hi, u => by
   simp only [pointK]
   split
   · exact h.szv sz (by omega)
   · exact ZRel.szpt i (by omega) u
end
theorem scW_sz {s : SysD} {goal : List TermD} (fit : RFit s goal 16 16) (hr : rightS s = true) {w : RowD} (hw : w ∈ s.r) : (digs (scW w)).length ≤ 273 := length_digs_le (fit.sc hr hw)
theorem goalM_sz {s : SysD} {goal : List TermD} (fit : RFit s goal 16 16) (hr : rightS s = true) (hg : rightT goal s.n = true) : (digs (goalM1 goal)).length ≤ 273 := length_digs_le (fit.gl hr hg)
theorem szQ_nat {n K : Nat} (h : (digs n).length ≤ K) (hK : 1 ≤ K) : szQ ((n : Nat) : Rat) ≤ K := by
 rw [← Rat.intCast_natCast]
 exact szQ_whole (z := (n : Int)) h hK
theorem scI_sz {s : SysD} {goal : List TermD} (fit : RFit s goal 16 16) (hr : rightS s = true) (u : Nat) : szQ (scI s u) ≤ 300 := by
 unfold scI
 split
 · rename_i w hw
   exact Nat.le_trans (szQ_nat (scW_sz fit hr (List.mem_of_getElem? hw)) (by decide)) (by decide)
 · exact Nat.le_trans sz_1 (by decide)
theorem inv_sz {n : Nat} (h0 : 0 < n) (h : (digs n).length ≤ 273) : szQ ((n : Rat)⁻¹) ≤ 300 := by
 have hp := nat_pos h0
 have h1 := szQ_div (a := 1) (b := (n : Rat)) (by grind)
 rw [Rat.div_def, Rat.one_mul] at h1
 have h2 := szQ_nat h (by decide)
 have := sz_1
 omega
theorem openD_src2 (s : SysD) (goal : List TermD) : (openD (mulS s) (mulG goal)).2 = (openK (fun _ => 0) (mulS s) s.r.length).2 := by
 have e := openD_eq (mulS s) (mulG goal)
 rw [mulS_len] at e
 rw [e]; rfl
theorem openD_m3 (s : SysD) (goal : List TermD) : (openD (mulS s) (mulG goal)).1.m = (openK (fun _ => 0) (mulS s) s.r.length).1.m := by
 have := openD_m (mulS s) (mulG goal); rw [mulS_len] at this; exact this
theorem zk_of {s : SysD} {goal : List TermD} (fit : RFit s goal 16 16) (hr : rightS s = true) : KOf (zkOf s goal) (srcOf (mulS s) (mulG goal)) (openD (mulS s) (mulG goal)).1.m (scI s) := by
 have key := zk_row s s.r.length
 unfold srcOf
 rw [openD_src2, openD_m3]
 refine ⟨fun k hk => (key k hk).1, fun k hk => (key k hk).2.1, fun k hk => (key k hk).2.2.1, fun k hk => ?_, scI_sz fit hr⟩
 obtain ⟨w, hw, e⟩ := (key k hk).2.2.2.2
 show (digs ((openZ s s.r.length).scl k)).length ≤ 300
 rw [e]
 exact Nat.le_trans (scW_sz fit hr hw) (by decide)
theorem pricesR_eq (s : SysD) (goal : List TermD) : (fun u => (goalM1 goal : Rat)⁻¹ * scI s u * pricesK (fin (mulS s) (mulG goal)) (srcOf (mulS s) (mulG goal)) s.n.toNat u) = pricesR s goal := by
 funext u; unfold pricesR; grind
theorem refR_eq (s : SysD) (goal : List TermD) (r : Nat) : (fun u => 1 * scI s u * refK (fin (mulS s) (mulG goal)) (srcOf (mulS s) (mulG goal)) r s.n.toNat u) = refR s goal r := by
 funext u; unfold refR; grind
theorem RFit.tn {s : SysD} {goal : List TermD} (h : RFit s goal 16 16) : tnS s := ⟨by have := h.hr; omega, fun w hw => ⟨⟨by have := (h.hw w hw).1; omega, fun t ht => by have := (h.hw w hw).2.2 t ht; unfold tnF; omega⟩, by have := (h.hw w hw).2.1; unfold tnF; omega⟩⟩
theorem RFit.gt {s : SysD} {goal : List TermD} (h : RFit s goal 16 16) : tnT goal := ⟨by have := h.hg.1; omega, fun t ht => by have := h.hg.2 t ht; unfold tnF; omega⟩
set_option maxHeartbeats 32000000
theorem zleast_c (s : SysD) (goal : List TermD) (h : RFit s goal 16 16) : Contract Tryz.prog 10 [encS s, encTs goal] (.tup [encO (leastRD s goal).1, dI (leastRD s goal).2]) := by
 refine Contract.ofA ?_
 have hres := Tryz.results10
 refine inA Tryz.func10 rfl Tryz.ntmps10 ?_
 have k1 := rrightS_c s h.tn.sm
 have k2 := rrightT_c goal s.n h.gt.sm
 cases hr : rightS s with
 | false =>
   have e1 : leastRD s goal = (⟨0, zF, [], [], []⟩, 1) := by unfold leastRD; rw [hr]; rfl
   rw [hr] at k1
   rw [e1]
   refine aGoM (cj2 hres ty_zp) ?_
   repeat with_reducible intro K' hK
   rfl
 | true =>
   cases hg : rightT goal s.n with
   | false =>
     have e1 : leastRD s goal = (⟨0, zF, [], [], []⟩, 1) := by unfold leastRD; rw [hr, hg]; rfl
     rw [hr] at k1
     rw [hg] at k2
     rw [e1]
     refine aGoM (cj2 hres ty_zp) ?_
     repeat with_reducible intro K' hK
     rfl
   | true =>
     have e1 : leastRD s goal = (leastR s goal, 0) := by unfold leastRD; rw [hr, hg]; rfl
     rw [hr] at k1
     rw [hg] at k2
     rw [e1]
     refine aGoM (cj2 hres ty_zp) ?_
     repeat with_reducible intro K' hK
     have hl1 := h.hr
     have hn1 := h.hn hr
     have hn0 := (rightS_n hr).1
     refine callT_eff (zopen_a s goal _ _ hr hg h) ?_
     rintro _ m1 nx1 ⟨I, rfl, hnx1, hD1, ap1, hlo1, hfr1⟩
     refine aGoM (cj2 hres ty_zp) ?_
     repeat (first | (guard_target =~ ∀ _ : St → Prop, _; intro KJ hJ) | (guard_target =~ ∀ _ : List Ev → St → Prop, _; intro K' hK))
     have dm := openD_m2 (mulS s) (mulG goal)
     have dn := openD_n (mulS s) (mulG goal)
     rw [mulS_len] at dm
     rw [mulS_n] at dn
     have hI := open_int s goal
     have hF := openD_first (mulS s) (mulG goal)
     refine callT_eff (zsearch_a hD1 ap1 hF hI (zrel_first hF hI) (by omega) (by omega) (fun d Z hz => zs_of h hr hg hz)) ?_
     rintro _ m2 nx2 ⟨rfl, hnx2, ⟨Z, hZ, hD3⟩, hfr2⟩
     have zZ : ZS Z := zs_of h hr hg hZ
     have henZ := fin_ended (mulS s) (mulG goal)
     rw [show final (openD (mulS s) (mulG goal)).1 = fin (mulS s) (mulG goal) from rfl] at hZ ⊢
     have hmZ : Z.m = (openD (mulS s) (mulG goal)).1.m := by rw [hZ.m, fin_m]
     have hfmZ : (fin (mulS s) (mulG goal)).m = (openD (mulS s) (mulG goal)).1.m := fin_m _ _
     have hfnZ : (fin (mulS s) (mulG goal)).n = s.n.toNat := by rw [fin_n, mulS_n]
     have hkZ : KOf (zkOf s goal) (srcOf (mulS s) (mulG goal)) (fin (mulS s) (mulG goal)).m (scI s) := by rw [fin_m]; exact zk_of h hr
     have hPZ := fin_part (mulS s) (mulG goal)
     have hsZ : ∀ i, i < (fin (mulS s) (mulG goal)).m → (srcOf (mulS s) (mulG goal) i).1 < s.r.length := fun i hi => by have := openD_src (mulS s) (mulG goal) i (by rw [← fin_m]; exact hi); rwa [mulS_len] at this
     have hM2 : ∀ id b, m0B s id = some b → m2 id = some b ∧ id < 2 ∧ ¬ inZ I Z.m id := by
      intro id b hb
      have hid : id < 2 := by rcases m0_some hb with ⟨rfl, _⟩ | ⟨rfl, _⟩ <;> decide
      have hnin : ¬ inZ I (openD (mulS s) (mulG goal)).1.m id := fun h => by have := hlo1 id h; omega
      refine ⟨?_, hid, by rw [hmZ]; exact hnin⟩
      rw [hfr2 id (by omega) hnin, hfr1 id hid]; exact hb
     cases hn : next (fin (mulS s) (mulG goal)) with
     | ex r c => exact absurd hn (henZ r c)
     | best =>
       simp only [encOut]
       simp only [go_sem, ↓reduceIte, hres]
       refine hJ _ ?_
       refine aLe (zle_freeze hD3 6 rfl [(1, encTs goal), (2, .lp 0 0 0 0), (4, .lp 1 0 0 0), (5, dI 0), (7, dI (-1)), (8, dI (-1))] (m0B s) 2 hM2 (m0_ok s) (by simp [go_sem, okD]) rfl) ?_
       have eN : ((s.n.toNat : Nat) : Int) = s.n := by omega
       have kp := zpoint_c hZ (zkOf s goal) zZ (by rw [hfmZ]; omega) (by rw [hfnZ]; omega)
       rw [hfnZ, fracs_enc, eN] at kp
       have sX : smFs (pointR s goal) := by
        refine (tn_fracs (by omega) fun u => ?_).sm
        have := hZ.szpt zZ _ (Nat.le_refl _) u
        omega
       have kv := rValue_c goal _ h.gt.sm sX
       have kq := zprices_c hZ hkZ zZ s.r.length hPZ (by rw [hfmZ]; omega) (by rw [hfnZ]; omega) (by omega) hsZ (fun j hj => hZ.szg zZ hj) (goalM_pos goal) (by have := goalM_sz h hr hg; show (digs (goalM1 goal)).length ≤ 300; omega) (inv_sz (goalM_pos goal) (goalM_sz h hr hg))
       rw [hfnZ, show (zkOf s goal).gol = goalM1 goal from rfl, pricesR_eq, fracs_enc, eN] at kq
       have eL : leastR s goal = ⟨0, (valueD goal (pointR s goal)).1, pointR s goal, fracsOf s.r.length (pricesR s goal), []⟩ := by
        unfold leastR; rw [hn]
       rw [eL]
       rw [show fracsOf s.n.toNat (pointK (fin (mulS s) (mulG goal)) (fin (mulS s) (mulG goal)).m) = pointR s goal from rfl] at kp
       clear eL e1 hn henZ hD3 hfr2 hM2 hJ hK
       generalize pointR s goal = X at *
       generalize fracsOf s.r.length (pricesR s goal) = Y at *
       have tI0 : (0 : Int) ≤ s.r.length := by omega
       refine aGo (cj3 hres ty_zp tI0) ?_
       rfl
     | row r =>
       obtain ⟨hrm, hrow⟩ := next_row_lt hn
       simp only [encOut]
       simp only [go_sem, ↓reduceIte, hres]
       refine hJ _ ?_
       refine aLe (zle_freeze hD3 6 rfl [(1, encTs goal), (2, .lp 0 0 0 0), (4, .lp 1 0 0 0), (5, dI 0), (7, dI r), (8, dI (-1))] (m0B s) 2 hM2 (m0_ok s) (by simp [go_sem, okD]) rfl) ?_
       have eN : ((s.n.toNat : Nat) : Int) = s.n := by omega
       have kq := zref_c hZ hkZ zZ s.r.length r hrm hPZ (by rw [hfmZ]; omega) (by rw [hfnZ]; omega) (by omega) hsZ (fun j hj => hZ.sza zZ hrm hj)
       rw [hfnZ, refR_eq, fracs_enc, eN] at kq
       have eL : leastR s goal = ⟨1, zF, [], fracsOf s.r.length (refR s goal r), []⟩ := by
        unfold leastR; rw [hn]
       rw [eL]
       clear eL e1 hn henZ hD3 hfr2 hM2 hJ hK
       generalize fracsOf s.r.length (refR s goal r) = Y at *
       have r0 : (r : Int) ≥ 0 := by omega
       have tI0 : (0 : Int) ≤ s.r.length := by omega
       refine aGo (cj4 hres ty_zp tI0 r0) ?_
       rfl
     | col c =>
       have hcn := next_col_lt hn
       simp only [encOut]
       simp only [go_sem, ↓reduceIte, hres]
       refine hJ _ ?_
       refine aLe (zle_freeze hD3 6 rfl [(2, .lp 0 0 0 0), (4, .lp 1 0 0 0), (5, dI 0), (7, dI (-1)), (8, dI c)] (m0B s) 2 hM2 (m0_ok s) (by simp [go_sem, okD]) rfl) ?_
       have c0 : ¬ (c : Int) < 0 := by omega
       have z9 : ¬ (-1 : Int) ≥ 0 := by decide
       clear hD3 hfr2 hM2 hJ hK hD1 ap1 hlo1 hfr1
       refine aGoM (cj4 hres ty_zp c0 z9) ?_
       repeat with_reducible intro K' hK
       have hf0 := h.nil
       have hg0 : rightT [] s.n = true := by simp only [rightT, Bool.and_eq_true, decide_eq_true_eq]; exact ⟨hn0, rfl⟩
       refine callT_eff (CallA.nil2 (zopen_a s [] _ _ hr hg0 hf0)) ?_
       rintro _ m1 nx1 ⟨I, rfl, hnx1, hD1, ap1, hlo1, hfr1⟩
       refine aGoM (cj2 hres ty_zp) ?_
       repeat (first | (guard_target =~ ∀ _ : St → Prop, _; intro KJ hJ) | (guard_target =~ ∀ _ : List Ev → St → Prop, _; intro K' hK))
       have dm := openD_m2 (mulS s) (mulG [])
       have dn := openD_n (mulS s) (mulG [])
       rw [mulS_len] at dm
       rw [mulS_n] at dn
       have hI := open_int s []
       have hF := openD_first (mulS s) (mulG [])
       refine callT_eff (zsearch_a hD1 ap1 hF hI (zrel_first hF hI) (by omega) (by omega) (fun d Z hz => zs_of hf0 hr hg0 hz)) ?_
       rintro _ m2 nx2 ⟨rfl, hnx2, ⟨W, hW, hD3⟩, hfr2⟩
       have zW : ZS W := zs_of hf0 hr hg0 hW
       have henW := fin_ended (mulS s) (mulG [])
       rw [show final (openD (mulS s) (mulG [])).1 = fin (mulS s) (mulG []) from rfl] at hW ⊢
       have hmW : W.m = (openD (mulS s) (mulG [])).1.m := by rw [hW.m, fin_m]
       have hfmW : (fin (mulS s) (mulG [])).m = (openD (mulS s) (mulG [])).1.m := fin_m _ _
       have hfnW : (fin (mulS s) (mulG [])).n = s.n.toNat := by rw [fin_n, mulS_n]
       have hkW : KOf (zkOf s []) (srcOf (mulS s) (mulG [])) (fin (mulS s) (mulG [])).m (scI s) := by rw [fin_m]; exact zk_of hf0 hr
       have hPW := fin_part (mulS s) (mulG [])
       have hsW : ∀ i, i < (fin (mulS s) (mulG [])).m → (srcOf (mulS s) (mulG []) i).1 < s.r.length := fun i hi => by have := openD_src (mulS s) (mulG []) i (by rw [← fin_m]; exact hi); rwa [mulS_len] at this
       have hM2 : ∀ id b, m0B s id = some b → m2 id = some b ∧ id < 2 ∧ ¬ inZ I W.m id := by
        intro id b hb
        have hid : id < 2 := by rcases m0_some hb with ⟨rfl, _⟩ | ⟨rfl, _⟩ <;> decide
        have hnin : ¬ inZ I (openD (mulS s) (mulG [])).1.m id := fun h => by have := hlo1 id h; omega
        refine ⟨?_, hid, by rw [hmW]; exact hnin⟩
        rw [hfr2 id (by omega) hnin, hfr1 id hid]; exact hb
       cases hnE : next (fin (mulS s) (mulG [])) with
       | ex r c => exact absurd hnE (henW r c)
       | best =>
         simp only [encOut]
         simp only [go_sem, ↓reduceIte, hres]
         refine hJ _ ?_
         refine aLe (zle_freeze hD3 12 rfl [(2, .lp 0 0 0 0), (4, .lp 1 0 0 0), (5, dI 0), (6, encZD (zkOf s goal) Z), (8, dI c), (7, dI (-1))] (m0B s) 2 hM2 (m0_ok s) (by simp [go_sem, okD]) rfl) ?_
         have eN : ((s.n.toNat : Nat) : Int) = s.n := by omega
         have kp := zpoint_c hW (zkOf s []) zW (by rw [hfmW]; omega) (by rw [hfnW]; omega)
         rw [hfnW, fracs_enc, eN] at kp
         have kr := zray_c hZ (zkOf s goal) zZ hcn (by rw [hfmZ]; omega) (by rw [hfnZ]; omega)
         rw [hfnZ, fracs_enc, eN] at kr
         have eL : leastR s goal = ⟨2, zF, pointR s [], [], fracsOf s.n.toNat (rayK (fin (mulS s) (mulG goal)) c (fin (mulS s) (mulG goal)).m)⟩ := by
          unfold leastR; rw [hn]; simp only [hnE]
         rw [eL]
         rw [show fracsOf s.n.toNat (pointK (fin (mulS s) (mulG [])) (fin (mulS s) (mulG [])).m) = pointR s [] from rfl] at kp
         clear eL e1 hn hnE henZ henW hD3 hfr2 hM2 hJ hK
         generalize pointR s [] = X at *
         generalize fracsOf s.n.toNat (rayK (fin (mulS s) (mulG goal)) c (fin (mulS s) (mulG goal)).m) = R at *
         have z9 : ¬ (-1 : Int) ≥ 0 := by decide
         refine aGo (cj4 hres ty_zp z9 trivial) ?_
         rfl
       | col c2 =>
         simp only [encOut]
         simp only [go_sem, ↓reduceIte, hres]
         refine hJ _ ?_
         refine aLe (zle_freeze hD3 12 rfl [(2, .lp 0 0 0 0), (4, .lp 1 0 0 0), (5, dI 0), (6, encZD (zkOf s goal) Z), (8, dI c), (7, dI (-1))] (m0B s) 2 hM2 (m0_ok s) (by simp [go_sem, okD]) rfl) ?_
         have eN : ((s.n.toNat : Nat) : Int) = s.n := by omega
         have kp := zpoint_c hW (zkOf s []) zW (by rw [hfmW]; omega) (by rw [hfnW]; omega)
         rw [hfnW, fracs_enc, eN] at kp
         have kr := zray_c hZ (zkOf s goal) zZ hcn (by rw [hfmZ]; omega) (by rw [hfnZ]; omega)
         rw [hfnZ, fracs_enc, eN] at kr
         have eL : leastR s goal = ⟨2, zF, pointR s [], [], fracsOf s.n.toNat (rayK (fin (mulS s) (mulG goal)) c (fin (mulS s) (mulG goal)).m)⟩ := by
          unfold leastR; rw [hn]; simp only [hnE]
         rw [eL]
         rw [show fracsOf s.n.toNat (pointK (fin (mulS s) (mulG [])) (fin (mulS s) (mulG [])).m) = pointR s [] from rfl] at kp
         clear eL e1 hn hnE henZ henW hD3 hfr2 hM2 hJ hK
         generalize pointR s [] = X at *
         generalize fracsOf s.n.toNat (rayK (fin (mulS s) (mulG goal)) c (fin (mulS s) (mulG goal)).m) = R at *
         have z9 : ¬ (-1 : Int) ≥ 0 := by decide
         refine aGo (cj4 hres ty_zp z9 trivial) ?_
         rfl
       | row r =>
         obtain ⟨hrm, hrow⟩ := next_row_lt hnE
         simp only [encOut]
         simp only [go_sem, ↓reduceIte, hres]
         refine hJ _ ?_
         refine aLe (zle_freeze hD3 12 rfl [(2, .lp 0 0 0 0), (4, .lp 1 0 0 0), (5, dI 0), (6, encZD (zkOf s goal) Z), (8, dI c), (7, dI r)] (m0B s) 2 hM2 (m0_ok s) (by simp [go_sem, okD]) rfl) ?_
         have eN : ((s.n.toNat : Nat) : Int) = s.n := by omega
         have kq := zref_c hW hkW zW s.r.length r hrm hPW (by rw [hfmW]; omega) (by rw [hfnW]; omega) (by omega) hsW (fun j hj => hW.sza zW hrm hj)
         rw [hfnW, refR_eq, fracs_enc, eN] at kq
         have eL : leastR s goal = ⟨1, zF, [], fracsOf s.r.length (refR s [] r), []⟩ := by
          unfold leastR; rw [hn]; simp only [hnE]
         rw [eL]
         clear eL e1 hn hnE henZ henW hD3 hfr2 hM2 hJ hK
         generalize fracsOf s.r.length (refR s [] r) = Y at *
         have r0 : (r : Int) ≥ 0 := by omega
         have tI0 : (0 : Int) ≤ s.r.length := by omega
         refine aGo (cj4 hres ty_zp tI0 r0) ?_
         rfl
end Go.Proofs.YtpkdhmnlpnijhaaGreat
