/-
  The walk that stops before a region; the last operation of a drawn region by a law.
-/
import Derived.Test.YtpkdhmnlpnijhaaGreatVSimB
import Derived.Test.YtpkdhmnlpnijhaaGreatVZN
import Derived.Test.YtpkdhmnlpnijhaaGreatVZP
import Derived.Test.YtpkdhmnlpnijhaaGreatVSimD
namespace Go.Proofs.YtpkdhmnlpnijhaaGreat
set_option linter.unusedVariables false
set_option linter.unusedSimpArgs false
set_option linter.unusedSectionVars false
open Go Go.RowKit
set_option maxRecDepth 100000
set_option maxHeartbeats 16000000
structure StopAt (id : Nat) : Prop where
 t : True
abbrev DS := Dic × (Nat → Nat × Bool)
def putKZ (x : DS) (K : ZK) (row : Nat) (w : RowD) : ZK :=
 let y := if w.k = 0 then K else addK K x.1.m row false (scW w)
 let m1 := if w.k = 0 then x.1.m else x.1.m + 1
 if w.k = 1 then y else addK y m1 row true (scW w)
def openZ (s : SysD) : Nat → ZK
 | 0 => ⟨fun _ => 0, fun _ => false, fun _ => 0, 1⟩
 | k + 1 => match s.r[k]? with
   | some w => putKZ (openK (fun _ => 0) (mulS s) k) (openZ s k) k w
   | none => openZ s k
def zkOf (s : SysD) (goal : List TermD) : ZK := { openZ s s.r.length with gol := goalM1 goal }
abbrev opZ (nx : Nat) (R : Nat → Nat) (vV vA vO vFr vF vS vSc : Nat) : ZI := ⟨nx + 2, nx + 3, nx + 4, nx + 1, nx + 5, nx + 6, nx + 7, nx + 8, nx + 9, R, vV, vA, vO, vFr, vF, vS, vSc⟩
def ZOp (nx v : Nat) (fr : List (List D)) (b : Nat) (m : Mem) (K : ZK) (Z : ZD) : Prop :=
 ∃ R vV vA vO vF vS vSc, ZFr fr m (opZ nx R vV vA vO v vF vS vSc) K Z ∧ ZAp (opZ nx R vV vA vO v vF vS vSc) Z.m ∧ nx + 9 < b ∧ ∀ k, k < Z.m → nx + 9 < R k ∧ R k < b
theorem opZ_in {nx : Nat} {R : Nat → Nat} {vV vA vO vFr vF vS vSc b M : Nat} (hb : nx + 9 < b) (h : ∀ k, k < M → nx + 9 < R k ∧ R k < b) : ∀ id, inZ (opZ nx R vV vA vO vFr vF vS vSc) M id → nx < id ∧ id < b := by
 refine inZ_cases (P := fun id => nx < id ∧ id < b) ?_ ?_ ?_ ?_ ?_ ?_ ?_ ?_ ?_ fun k hk => ?_
 · show nx < nx + 2 ∧ nx + 2 < b; omega
 · show nx < nx + 3 ∧ nx + 3 < b; omega
 · show nx < nx + 4 ∧ nx + 4 < b; omega
 · show nx < nx + 1 ∧ nx + 1 < b; omega
 · show nx < nx + 5 ∧ nx + 5 < b; omega
 · show nx < nx + 6 ∧ nx + 6 < b; omega
 · show nx < nx + 7 ∧ nx + 7 < b; omega
 · show nx < nx + 8 ∧ nx + 8 < b; omega
 · show nx < nx + 9 ∧ nx + 9 < b; omega
 · have := h k hk; show nx < R k ∧ R k < b; omega
theorem ZOp.keep {nx v : Nat} {fr : List (List D)} {b b' : Nat} {m m' : Mem} {K : ZK} {Z : ZD} (h : ZOp nx v fr b m K Z) (hb : b ≤ b') (hk : ∀ id, nx < id → id < b → m' id = m id) : ZOp nx v fr b' m' K Z := by
 obtain ⟨R, vV, vA, vO, vF, vS, vSc, h1, h2, h3, h4⟩ := h
 exact ⟨R, vV, vA, vO, vF, vS, vSc, h1.keep fun id hi => by have := opZ_in h3 h4 id hi; exact hk id this.1 this.2, h2, by omega, fun k hk => by have := h4 k hk; omega⟩
theorem opZ_nd (nx : Nat) (R : Nat → Nat) (vV vA vO vFr vF vS vSc : Nat) : (nineZ (opZ nx R vV vA vO vFr vF vS vSc)).Nodup := by
 simp only [nineZ, List.nodup_cons, List.mem_cons, List.not_mem_nil, not_or, or_false, List.nodup_nil, not_false_eq_true, and_true]
 omega
theorem opZ_notin {nx x : Nat} (R : Nat → Nat) (vV vA vO vFr vF vS vSc : Nat) (h : nx + 9 < x) : x ∉ nineZ (opZ nx R vV vA vO vFr vF vS vSc) := by
 simp only [nineZ, List.mem_cons, List.not_mem_nil, not_or, or_false]
 omega
theorem zput_o [Ifl] {nx v : Nat} {b : Nat} {m : Mem} {K : ZK} {x : DS} (h : ZOp nx v [] b m K (zfirst x.1)) {nc : Nat} (hb : b ≤ nc) (row : Nat) (w : RowD) (turned : Bool) (hm : (x.1.m : Int) ≤ 4000) (hn : (x.1.n : Int) ≤ 4000) (hrow : (row : Int) ≤ 4096)
    (hr : rightT w.t x.1.n = true) (hv : okF w.v = true) (hl : w.t.length ≤ 16) (szt : ∀ t ∈ w.t, szF t.f ≤ 16) (szv : szF w.v ≤ 16) :
    CallA Tryz.prog 159 [.lp (nx + 2) 0 0 0, dI x.1.n, dI row, encW w, dI (sgI turned)] m nc fun d' m' nx' => d' = oneD [] ∧ nc ≤ nx' ∧ ZOp nx v [] nx' m' (addK K x.1.m row turned (scW w)) (zfirst (addP (mulW w) row turned x).1) ∧ ∀ id, id < nc → (id ≤ nx ∨ b ≤ id) → m' id = m id := by
 obtain ⟨R, vV, vA, vO, vF, vS, vSc, h1, h2, h3, h4⟩ := h
 refine (zput_a (nx := nc) h1 h2 row w turned hm hn hrow hr hv hl szt szv).mono ?_
 rintro d' m' nx' ⟨rfl, g1, g2, g3⟩
 refine ⟨rfl, by omega, ⟨_, _, _, _, _, _, _, g2, ?_, by omega, fun k hk => ?_⟩, fun id i1 i2 => g3 id i1 fun hi => ?_⟩
 · refine h2.add (opZ_notin _ _ _ _ _ _ _ _ (by omega)) fun k hk => ?_
   have := h4 k hk; show nc + 2 ≠ R k; omega
 · show nx + 9 < (if k = x.1.m then nc + 2 else R k) ∧ (if k = x.1.m then nc + 2 else R k) < nx'
   by_cases e : k = x.1.m
   · rw [if_pos e]; omega
   · rw [if_neg e]
     have hk2 : k < x.1.m + 1 := hk
     have := h4 k (by show k < x.1.m; omega)
     omega
 · have := opZ_in h3 h4 id hi
   omega
def zgC (l : List TermD) (u : Nat) : Int := (-(coefT l u)).num
theorem zgC_zero (l : List TermD) : zgC (l.take 0) = fun _ => 0 := by
 funext u
 unfold zgC
 simp only [List.take_zero, coefT, dotS]
 decide +kernel
theorem zgoal_set {l : List TermD} {n : Nat} {N : Int} (h : rightT l N = true) {i : Nat} {t : TermD} (ht : l[i]? = some t) (h0 : 0 ≤ t.v) {z : Int} (hz : qOf t.f = z) :
    (zL n (zgC (l.take i))).set t.v.toNat [dI (-z).sign, encInts (digs (-z).natAbs)] = zL n (zgC (l.take (i + 1))) := by
 refine zl_set' _ _ fun u _ => ?_
 unfold zgC
 rw [coef_succ ht h0]
 by_cases e : u = t.v.toNat
 · subst e
   rw [if_pos rfl, if_pos rfl, coef_before h ht h0, hz, show -((0 : Rat) + (z : Rat)) = -(z : Rat) by grind, ← Rat.intCast_neg, Rat.num_intCast]
 · rw [if_neg e, if_neg e]
   congr 1; grind
theorem zfirst_g (d : Dic) (g : Nat → Rat) : zfirst { d with g := g } = { zfirst d with g := fun j => (g j).num } := rfl
theorem zopen_eq (s : SysD) (goal : List TermD) : zfirst (openD (mulS s) (mulG goal)).1 = { zfirst (openK (fun _ => 0) (mulS s) s.r.length).1 with g := zgC ((mulG goal).take goal.length) } := by
 have e := openD_eq (mulS s) (mulG goal)
 rw [mulS_len] at e
 rw [e]
 have e2 : (mulG goal).take goal.length = mulG goal := List.take_of_length_le (by simp [mulG, mulTs])
 have e3 : (mulG goal).take (mulG goal).length = mulG goal := List.take_of_length_le (Nat.le_refl _)
 unfold setG
 simp only
 have e4 : (fun j => (goalK (mulG goal) (mulG goal).length j).num) = zgC (mulG goal) := by
  funext j
  unfold goalK zgC
  rw [e3]
 rw [zfirst_g, e2, e4]
set_option maxHeartbeats 32000000
theorem zopen_a [Ifl] (s : SysD) (goal : List TermD) (m : Mem) (nx : Nat) (hr : rightS s = true) (hg : rightT goal s.n = true) (fit : RFit s goal 16 16) :
    CallA Tryz.prog 71 [encS s, encTs goal] m nx fun d' m' nx' => ∃ I : ZI, d' = .lp I.p 0 0 0 ∧ nx ≤ nx' ∧ ZAt m' I (zkOf s goal) (zfirst (openD (mulS s) (mulG goal)).1) ∧ ZAp I (openD (mulS s) (mulG goal)).1.m ∧ (∀ id, inZ I (openD (mulS s) (mulG goal)).1.m id → nx ≤ id) ∧ ∀ id, id < nx → m' id = m id := by
 obtain ⟨sn, sr⟩ := s
 obtain ⟨n, rfl⟩ : ∃ n : Nat, sn = n := ⟨sn.toNat, by simp only [rightS, Bool.and_eq_true, decide_eq_true_eq] at hr; have := hr.1.1.1; omega⟩
 have hl : sr.length ≤ 20 := fit.hr
 have hn : (n : Int) ≤ 16 := fit.hn hr
 refine CallA.cl ⟨_, _, Tryz.func71, rfl, by kernel_rfl⟩ fun hcl => ?_
 have hres := Tryz.results71
 refine inA Tryz.func71 rfl Tryz.ntmps71 ?_
 have k1 : ContractN Tryz.prog 158 [dI 1] (eN 1) := pOf_c 1 (by decide) (by decide)
 have o1 : nx ≠ nx + 1 := by omega
 have o2 : nx ≠ nx + 2 := by omega
 refine aGoS (cj4 hres ty_zp o1 (cj2 o2 Nat.zero_le)) ?_
 repeat (first | (guard_target =~ ∀ _ : St → Prop, _; intro KJ hJ) | (guard_target =~ ∀ _ : List Ev → St → Prop, _; intro K' hK))
 with_reducible apply useE
 with_reducible assumption
 exact race_list [nx, nx + 1, nx + 2] (by simp) [([], []), ([], []), ([], []), ([0], []), ([1, 1], [1]), ([], []), ([2, 2], [2]), ([], [])] rfl rfl (by kernel_rfl)
 exact intsOk_no rfl
 refine hJ _ ?_
 refine aLe (le_cellsZ (nx + 1) ((upd_ne _ _ (by omega)).trans (upd_same _ _ _)) (zero_cells _ _ _)) ?_
 refine aLe (le_rowIn (nx + 2) 0 0 30 2 ((upd_ne _ _ (by omega)).trans (upd_same _ _ _)) rfl rfl) ?_
 refine aLe (le_rowIn (nx + 2) 0 1 161 1 (upd_same _ _ _) rfl rfl) ?_
 refine aLe (le_rowIn (nx + 2) 0 5 3 1 (upd_same _ _ _) rfl rfl) ?_
 refine aLe (le_rowIn (nx + 2) 0 6 3 1 (upd_same _ _ _) rfl rfl) ?_
 refine aLe (le_rowIn (nx + 2) 0 7 3 1 (upd_same _ _ _) rfl rfl) ?_
 refine aLe (le_rowIn (nx + 2) 0 8 3 1 (upd_same _ _ _) rfl rfl) ?_
 refine aLe (le_rowIn (nx + 2) 0 9 30 2 (upd_same _ _ _) rfl rfl) ?_
 refine aGoM (cj2 hres ty_zp) ?_
 repeat with_reducible intro K' hK
 refine aLoopM (fun (i : Nat) => [(1, encTs goal), (2, .lp nx 0 0 0), (5, .lp (nx + 2) 0 0 0), (6, dI i)]) nx
  (fun i m1 nx1 => i ≤ sr.length ∧ m1 nx = some ⟨24, 0, 2, [cS ⟨n, sr⟩], 0, false⟩ ∧ (∀ id, id < nx → m1 id = m id) ∧ ZOp nx 0 [] nx1 m1 (openZ ⟨n, sr⟩ i) (zfirst (openK (fun _ => 0) (mulS ⟨n, sr⟩) i).1)) (fun i => sr.length - i) 0 ?_ ?_ ?_ ?_
 · refine ⟨Nat.zero_le _, ?_, fun id h1 => ?_, ⟨fun _ => 0, 0, 0, 0, 0, 0, 0, ⟨?_, ?_, ?_, ?_, ?_, ?_, ?_, ?_, ?_, fun k hk => absurd hk (Nat.not_lt_zero _)⟩, ⟨opZ_nd _ _ _ _ _ _ _ _ _, fun k hk => absurd hk (Nat.not_lt_zero _), fun k l hk => absurd hk (Nat.not_lt_zero _)⟩, ?_, fun k hk => absurd hk (Nat.not_lt_zero _)⟩⟩
   · dsimp only
     simp only [upd_get]
     repeat (first | rw [if_pos trivial] | rw [if_neg (by omega)])
   · dsimp only
     simp only [upd_get]
     repeat (rw [if_neg (by omega)])
   · simp only [upd_get]; rfl
   · simp [upd_get, openK, dicZ, zfirst, tabL]
   · simp [upd_get, openK, dicZ, zfirst, tabL]
   · have e0 : (fun _ : Nat => (0 : Rat).num) = fun _ => (0 : Int) := by funext _; rfl
     simp [upd_get, openK, dicZ, zfirst, mulS]
   · simp [upd_get, openK, dicZ, zfirst, tabL]
   · simp [upd_get, openK, dicZ, zfirst, tabL]
   · simp [upd_get, openK, dicZ, zfirst, tabL]
   · simp [upd_get, openK, dicZ, zfirst, tabL]
   · simp [upd_get, openK, dicZ, zfirst, tabL]
   · show nx + 9 < nx + 10; omega
 · rfl
 · simp [go_sem]
 · skip
   rintro i m1 nx1 ⟨hi, eS, hfr, hO⟩
   obtain ⟨hw, i0⟩ := wrap2 i
   by_cases h1 : (i : Int) < sr.length
   · obtain ⟨w, hwi⟩ := getE (l := sr) (k := i) (by omega)
     have hwm : (mulS ⟨n, sr⟩).r[i]? = some (mulW w) := mulS_get hwi
     have hK1 : openK (fun _ => 0) (mulS ⟨n, sr⟩) (i + 1) = putP (openK (fun _ => 0) (mulS ⟨n, sr⟩) i) i (mulW w) := by simp only [openK, hwm]
     have hZ1 : openZ ⟨n, sr⟩ (i + 1) = putKZ (openK (fun _ => 0) (mulS ⟨n, sr⟩) i) (openZ ⟨n, sr⟩ i) i w := by simp only [openZ, hwi]
     have hx1 : (openK (fun _ => 0) (mulS ⟨n, sr⟩) i).1.n = n := openK_n (fun _ => 0) (mulS ⟨n, sr⟩) i
     have hx2 := openK_m (fun _ => 0) (mulS ⟨n, sr⟩) i
     have hrw := rightS_row hr (mem_at hwi)
     obtain ⟨f1, f2, f3⟩ := fit.hw w (mem_at hwi)
     generalize hX : openK (fun _ => 0) (mulS ⟨n, sr⟩) i = X at *
     have hrt : rightT w.t (X.1.n : Nat) = true := by rw [hx1]; exact hrw.1
     have x0 : nx < nx1 := by obtain ⟨_, _, _, _, _, _, _, _, _, h, _⟩ := hO; omega
     have P1 := fun {b : Nat} {mm : Mem} {KK : ZK} {Y : DS} (h : ZOp nx 0 [] b mm KK (zfirst Y.1)) (hb : b ≤ b) (tn : Bool) (hm : (Y.1.m : Int) ≤ 4000) (hn : Y.1.n = n) => zput_o h hb i w tn hm (by omega) (by omega) (by rw [hn]; exact hrw.1) hrw.2.2.2 f1 f3 f2
     by_cases k0 : w.k = 0
     · have t1 : (w.k != 0) = false := by simp [k0]
       have t2 : (w.k != 1) = true := by simp [k0]
       have g0 := P1 hO (Nat.le_refl _) true (by omega) hx1
       rw [hx1] at g0
       refine aGoM (cj4 hres eS hwi (cj4 h1 hw i0 t1)) ?_
       repeat with_reducible intro K' hK
       refine aCondT rfl ?_ ?_
       simp only [go_sem, ↓reduceIte, t2]
       refine aRunLast (k := 9) (by rfl) (by rfl) _ (by rfl) mixed (by kernel_rfl) (by kernel_rfl) (by kernel_rfl) (by kernel_rfl) fun KL hL => ?_
       simp only [List.take_succ_cons, List.take_zero, List.map_cons, List.map_nil, strip] at hL ⊢
       refine aGoM (cj4 hres eS hwi i0) ?_
       repeat with_reducible intro K' hK
       refine callT_eff g0 ?_
       rintro _ m2 nx2 ⟨rfl, g1, g2, g3⟩
       refine aGoM (cj3 hres hw i0) ?_
       repeat with_reducible intro K' hK
       refine loop_endM (i + 1) ⟨by omega, (g3 nx x0 (.inl (Nat.le_refl _))).trans eS, fun id h => (g3 id (by omega) (.inl (by omega))).trans (hfr id h), ?_⟩ (by omega) rfl (by simp [go_sem])
       rw [hK1, hZ1]; unfold putP putKZ; simp only [k0, mulW]; exact g2
     · have t1 : (w.k != 0) = true := by simp [k0]
       have g0 := P1 hO (Nat.le_refl _) false (by omega) hx1
       rw [hx1] at g0
       by_cases k1 : w.k = 1
       · have t2 : (w.k != 1) = false := by simp [k1]
         refine aGoM (cj4 hres eS hwi (cj4 h1 hw i0 trivial)) ?_
         repeat with_reducible intro K' hK
         refine aCondT rfl ?_ ?_
         simp only [go_sem, ↓reduceIte, t1]
         refine aRunLast (k := 9) (by rfl) (by rfl) _ (by rfl) mixed (by kernel_rfl) (by kernel_rfl) (by kernel_rfl) (by kernel_rfl) fun KL hL => ?_
         simp only [List.take_succ_cons, List.take_zero, List.map_cons, List.map_nil, strip] at hL ⊢
         refine aGoM (cj4 hres eS hwi i0) ?_
         repeat with_reducible intro K' hK
         refine callT_eff g0 ?_
         rintro _ m2 nx2 ⟨rfl, g1, g2, g3⟩
         have eS2 := (g3 nx x0 (.inl (Nat.le_refl _))).trans eS
         refine aGoM (cj4 hres hw i0 (cj3 eS2 hwi t2)) ?_
         repeat with_reducible intro K' hK
         refine loop_endM (i + 1) ⟨by omega, eS2, fun id h => (g3 id (by omega) (.inl (by omega))).trans (hfr id h), ?_⟩ (by omega) rfl (by simp [go_sem])
         rw [hK1, hZ1]; unfold putP putKZ; simp only [k1, mulW]; rw [if_pos trivial, if_neg (by decide), if_pos trivial, if_neg (by decide)]; exact g2
       · have t2 : (w.k != 1) = true := by simp [k1]
         refine aGoM (cj4 hres eS hwi (cj4 h1 hw i0 trivial)) ?_
         repeat with_reducible intro K' hK
         refine aCondT rfl ?_ ?_
         simp only [go_sem, ↓reduceIte, t1]
         refine aRunLast (k := 9) (by rfl) (by rfl) _ (by rfl) mixed (by kernel_rfl) (by kernel_rfl) (by kernel_rfl) (by kernel_rfl) fun KL hL => ?_
         simp only [List.take_succ_cons, List.take_zero, List.map_cons, List.map_nil, strip] at hL ⊢
         refine aGoM (cj4 hres eS hwi i0) ?_
         repeat with_reducible intro K' hK
         refine callT_eff g0 ?_
         rintro _ m2 nx2 ⟨rfl, g1, g2, g3⟩
         have eS2 := (g3 nx x0 (.inl (Nat.le_refl _))).trans eS
         have g4 := P1 g2 (Nat.le_refl _) true (by show ((X.1.m + 1 : Nat) : Int) ≤ 4000; omega) hx1
         rw [show (addP (mulW w) i false X).1.n = n from hx1] at g4
         refine aGoM (cj4 hres hw i0 (cj2 eS2 hwi)) ?_
         repeat with_reducible intro K' hK
         refine aCondT rfl ?_ ?_
         simp only [go_sem, ↓reduceIte, t2]
         refine aRunLast (k := 9) (by rfl) (by rfl) _ (by rfl) mixed (by kernel_rfl) (by kernel_rfl) (by kernel_rfl) (by kernel_rfl) fun KL hL => ?_
         simp only [List.take_succ_cons, List.take_zero, List.map_cons, List.map_nil, strip] at hL ⊢
         refine aGoM (cj4 hres eS2 hwi i0) ?_
         repeat with_reducible intro K' hK
         refine callT_eff g4 ?_
         rintro _ m3 nx3 ⟨rfl, j1, j2, j3⟩
         refine aGoM (cj3 hres hw i0) ?_
         repeat with_reducible intro K' hK
         refine loop_endM (i + 1) ⟨by omega, (j3 nx (by omega) (.inl (Nat.le_refl _))).trans eS2, fun id h => (j3 id (by omega) (.inl (by omega))).trans ((g3 id (by omega) (.inl (by omega))).trans (hfr id h)), ?_⟩ (by omega) rfl (by simp [go_sem])
         have e1 : putP X i (mulW w) = addP (mulW w) i true (addP (mulW w) i false X) := by
          unfold putP
          have e : (mulW w).k = w.k := rfl
          simp only [e, if_neg k0, if_neg k1]
         have e2 : putKZ X (openZ ⟨n, sr⟩ i) i w = addK (addK (openZ ⟨n, sr⟩ i) X.1.m i false (scW w)) (X.1.m + 1) i true (scW w) := by unfold putKZ; simp only [if_neg k0, if_neg k1]
         rw [hK1, hZ1, e1, e2]; exact j2
   · obtain rfl : i = sr.length := by omega
     have hzo := zopen_eq ⟨n, sr⟩ goal
     simp only at hzo
     have hx1 : (openK (fun _ => 0) (mulS ⟨n, sr⟩) sr.length).1.n = n := openK_n (fun _ => 0) (mulS ⟨n, sr⟩) sr.length
     have hfree := openK_free (fun _ => 0) (mulS ⟨n, sr⟩) sr.length
     have hgg := openK_gg (fun _ => 0) (mulS ⟨n, sr⟩) sr.length
     have hmm : (openD (mulS ⟨n, sr⟩) (mulG goal)).1.m = (openK (fun _ => 0) (mulS ⟨n, sr⟩) sr.length).1.m := by have := openD_m (mulS ⟨n, sr⟩) (mulG goal); rw [mulS_len] at this; exact this
     have hgol : (openZ ⟨n, sr⟩ sr.length).gol = 1 := by
      have key : ∀ k, (openZ ⟨n, sr⟩ k).gol = 1 := by
       intro k
       induction k with
       | zero => rfl
       | succ k ih =>
         simp only [openZ]
         split
         · unfold putKZ; simp only; split <;> split <;> exact ih
         · exact ih
      exact key _
     have hzk : zkOf ⟨n, sr⟩ goal = { openZ ⟨n, sr⟩ sr.length with gol := goalM1 goal } := rfl
     generalize hD0 : (openK (fun _ => 0) (mulS ⟨n, sr⟩) sr.length).1 = D0 at *
     generalize hK0 : openZ ⟨n, sr⟩ sr.length = K0 at *
     have zt : ∀ t ∈ goal, szQ (qOf t.f) ≤ 16 := fun t ht => szF_any (right_sg hg t ht) (fit.hg.2 t ht)
     have lg : goal.length ≤ 16 := fit.hg.1
     have e1 : ((1 : Nat) : Int) < bp 1 := by decide +kernel
     have hO1 : ZOp nx 0 [] nx1 m1 { K0 with gol := scT 1 (goal.take 0) } (zfirst D0) := by
      have e : { K0 with gol := scT 1 (goal.take 0) } = K0 := by
       show { K0 with gol := 1 } = K0
       rw [← hgol]
      rw [e]; exact hO
     refine aGoM (cj4 hres eS h1 trivial) ?_
     repeat with_reducible intro K' hK
     refine aLoopM (fun (i : Nat) => [(1, encTs goal), (2, .lp nx 0 0 0), (5, .lp (nx + 2) 0 0 0), (7, dI i)]) nx
      (fun i m1 nx1 => i ≤ goal.length ∧ m1 nx = some ⟨24, 0, 2, [cS ⟨n, sr⟩], 0, false⟩ ∧ (∀ id, id < nx → m1 id = m id) ∧ ZOp nx 0 [] nx1 m1 { K0 with gol := scT 1 (goal.take i) } (zfirst D0)) (fun i => goal.length - i) 0 ?_ ?_ ?_ ?_
     · exact ⟨Nat.zero_le _, eS, hfr, hO1⟩
     · rfl
     · simp [go_sem]
     · clear hO1 hO eS hfr hi hw i0 h1
       rintro i m2 nx2 ⟨hi, eS, hfr, R, vV, vA, vO, vF, vS, vSc, h1, h2, h3, h4⟩
       obtain ⟨hw, i0⟩ := wrap2 i
       have hp : m2 (nx + 2) = some (zpB (opZ nx R vV vA vO 0 vF vS vSc) (scT 1 (goal.take i)) 1) := h1.hp
       by_cases g1 : (i : Int) < goal.length
       · obtain ⟨⟨tv, tf⟩, ht⟩ : ∃ e, goal[i]? = some e := ⟨_, List.getElem?_eq_getElem (by omega)⟩
         obtain ⟨t0, t1, t2, t3⟩ := rightT_mem hg (mem_at ht)
         obtain ⟨r, rfl⟩ : ∃ r, tf = ofQ r := ⟨qOf tf, okF_eq t2⟩
         have zr : szQ r ≤ 16 := by have := zt _ (mem_at ht); rwa [qOf_ofQ] at this
         have hs : scT 1 (goal.take (i + 1)) = lcQ (scT 1 (goal.take i)) r := by rw [scT_succ ht, qOf_ofQ]
         have hsl := szT_len (l := goal.take i) e1 (by simp; omega) (fun t ht => zt t (List.mem_of_mem_take ht))
         have k3 := common_c (scT 1 (goal.take i)) r (scT_pos _ (by decide)) (by omega) (by omega)
         rw [← hs] at k3
         refine aGoM (cj4 hres ty_zp hp (cj4 g1 hw i0 (cj2 ht Nat.zero_le))) ?_
         repeat with_reducible intro K' hK
         refine loop_endM (i + 1) ⟨by omega, (upd_ne _ _ o2).trans eS, fun id h => (upd_ne _ _ (by omega)).trans (hfr id h), R, vV, vA, vO, vF, vS, vSc, ?_, h2, h3, h4⟩ (by omega) rfl (by simp [go_sem])
         have ne := h2.ne
         refine ⟨upd_same _ _ _, ?_, ?_, ?_, ?_, ?_, ?_, ?_, ?_, fun k hk => ?_⟩
         · exact (upd_ne _ _ ne.pV.symm).trans h1.hV
         · exact (upd_ne _ _ ne.pA.symm).trans h1.hA
         · exact (upd_ne _ _ ne.pC.symm).trans h1.hC
         · exact (upd_ne _ _ ne.pO.symm).trans h1.hO
         · exact (upd_ne _ _ ne.pFr.symm).trans h1.hFr
         · exact (upd_ne _ _ ne.pF.symm).trans h1.hF
         · exact (upd_ne _ _ ne.pS.symm).trans h1.hS
         · exact (upd_ne _ _ ne.pSc.symm).trans h1.hSc
         · exact (upd_ne _ _ (h2.rne hk).p).trans (h1.hR k hk)
       · obtain rfl : i = goal.length := by omega
         have hgm : scT 1 (goal.take goal.length) = goalM1 goal := by rw [List.take_length]; rfl
         rw [hgm] at h1 hp
         rw [← hzk] at h1
         have hdv : ∀ t ∈ goal, (qOf t.f).den ∣ goalM1 goal := fun t ht => scT_den goal 1 t ht
         have hgl := szT_len (l := goal) e1 lg zt
         have hgl' : (digs (goalM1 goal)).length ≤ 257 := hgl
         have hg0 : zfirst D0 = { zfirst D0 with g := zgC ((mulG goal).take 0) } := by
          rw [zgC_zero]
          show zfirst D0 = { zfirst D0 with g := fun _ => 0 }
          have : (zfirst D0).g = fun _ => 0 := by
           show (fun j => (D0.g j).num) = _
           rw [hgg]; funext j; rfl
          rw [← this]
         rw [hg0] at h1
         refine aGoM (cj4 hres eS g1 trivial) ?_
         repeat with_reducible intro K' hK
         refine aLoopM (fun (i : Nat) => [(1, encTs goal), (2, .lp nx 0 0 0), (5, .lp (nx + 2) 0 0 0), (8, dI i)]) nx
          (fun i m1 nx1 => i ≤ goal.length ∧ m1 nx = some ⟨24, 0, 2, [cS ⟨n, sr⟩], 0, false⟩ ∧ (∀ id, id < nx → m1 id = m id) ∧ ZOp nx 0 [] nx1 m1 (zkOf ⟨n, sr⟩ goal) { zfirst D0 with g := zgC ((mulG goal).take i) }) (fun i => goal.length - i) 0 ?_ ?_ ?_ ?_
         · exact ⟨Nat.zero_le _, eS, hfr, R, vV, vA, vO, vF, vS, vSc, h1, h2, h3, h4⟩
         · rfl
         · simp [go_sem]
         · clear h1 h2 h3 h4 hp eS hfr hi hw i0 g1
           rintro i m2 nx2 ⟨hi, eS, hfr, R, vV, vA, vO, vF, vS, vSc, h1, h2, h3, h4⟩
           obtain ⟨hw, i0⟩ := wrap2 i
           have hp : m2 (nx + 2) = some (zpB (opZ nx R vV vA vO 0 vF vS vSc) (goalM1 goal) 1) := h1.hp
           have hC : m2 (nx + 1) = some (bB 1 n (zgC ((mulG goal).take i))) := by
            have := h1.hC
            rw [show ({ zfirst D0 with g := zgC ((mulG goal).take i) } : ZD).n = n from hx1] at this
            exact this
           by_cases g1 : (i : Int) < goal.length
           · obtain ⟨⟨tv, tf⟩, ht⟩ : ∃ e, goal[i]? = some e := ⟨_, List.getElem?_eq_getElem (by omega)⟩
             obtain ⟨t0, t1, t2, t3⟩ := rightT_mem hg (mem_at ht)
             obtain ⟨r, rfl⟩ : ∃ r, tf = ofQ r := ⟨qOf tf, okF_eq t2⟩
             simp only at t0 t1
             have zr : szQ r ≤ 16 := by have := zt _ (mem_at ht); rwa [qOf_ofQ] at this
             have hdr : r.den ∣ goalM1 goal := by have := hdv _ (mem_at ht); rwa [qOf_ofQ] at this
             have k4 := times_c (goalM1 goal) r hdr (by omega) (by omega)
             have hsz : szZ (zmul (goalM1 goal) r) ≤ 257 + 16 := zmul_sz (a := 257) (B := 16) (Int.lt_of_lt_of_le (lt_length_digs _) (bp_le hgl')) zr
             have k5 := pNeg_c (zmul (goalM1 goal) r) (by omega)
             have htm : (mulG goal)[i]? = some ⟨tv, ofQ ((goalM1 goal : Rat) * r)⟩ := by
              unfold mulG mulTs; rw [List.getElem?_map, ht]; show some (TermD.mk tv (ofQ ((goalM1 goal : Rat) * qOf (ofQ r)))) = _; rw [qOf_ofQ]
             have hrm : rightT (mulG goal) n = true := mulG_right hg
             have hzq : qOf (ofQ ((goalM1 goal : Rat) * r)) = (zmul (goalM1 goal) r : Int) := by rw [qOf_ofQ]; exact zmul_eq hdr
             have es := zgoal_set (n := n) hrm htm t0 hzq
             simp only at es
             have le := zl_len n (zgC ((mulG goal).take i))
             have gi := zl_get (n := n) (k := tv.toNat) (zgC ((mulG goal).take i)) (by omega)
             refine aGoM (cj4 hres ty_zp hp (cj4 hC g1 hw (cj4 i0 ht t0 (cj4 t1 es le (cj2 gi Nat.zero_le))))) ?_
             repeat with_reducible intro K' hK
             refine loop_endM (i + 1) ⟨by omega, (upd_ne _ _ o1).trans eS, fun id h => (upd_ne _ _ (by omega)).trans (hfr id h), R, vV, vA, vO, vF, vS, vSc, ?_, h2, h3, h4⟩ (by omega) rfl (by simp [go_sem])
             have e : bB 1 n (zgC ((mulG goal).take (i + 1))) = bB 1 (zfirst D0).n (zgC ((mulG goal).take (i + 1))) := by rw [show (zfirst D0).n = n from hx1]
             show ZFr [] (upd m2 (nx + 1) (some (bB 1 n (zgC ((mulG goal).take (i + 1)))))) _ _ _
             rw [e]
             exact h1.setC h2 (zgC ((mulG goal).take (i + 1)))
           · obtain rfl : i = goal.length := by omega
             rw [← hzo] at h1 h2 h4
             generalize hZ : zfirst (openD (mulS ⟨n, sr⟩) (mulG goal)).1 = Z at *
             have hZn : Z.n = n := by rw [hzo]; exact hx1
             have hZf : Z.free = fun j => j := by rw [hzo]; exact hfree
             have hZm : Z.m = (openD (mulS ⟨n, sr⟩) (mulG goal)).1.m := by rw [← hZ]; rfl
             refine aGoM (cj4 hres eS g1 trivial) ?_
             repeat with_reducible intro K' hK
             refine aLoopM (fun (i : Nat) => [(2, .lp nx 0 0 0), (5, .lp (nx + 2) 0 0 0), (9, dI i)]) nx
              (fun i m1 nx1 => i ≤ n ∧ m1 nx = some ⟨24, 0, 2, [cS ⟨n, sr⟩], 0, false⟩ ∧ (∀ id, id < nx → m1 id = m id) ∧ ZOp nx i (tabL i fun j => [dI (j : Nat)]) nx1 m1 (zkOf ⟨n, sr⟩ goal) Z) (fun i => n - i) 0 ?_ ?_ ?_ ?_
             · exact ⟨Nat.zero_le _, eS, hfr, R, vV, vA, vO, vF, vS, vSc, h1, h2, h3, h4⟩
             · rfl
             · simp [go_sem]
             · clear h1 h2 h3 h4 hp eS hfr hi hw i0 g1 hC
               rintro i m3 nx3 ⟨hi, eS, hfr, R, vV, vA, vO, vF, vS, vSc, h1, h2, h3, h4⟩
               obtain ⟨hw, i0⟩ := wrap2 i
               have hp : m3 (nx + 2) = some (zpB (opZ nx R vV vA vO i vF vS vSc) (zkOf ⟨n, sr⟩ goal).gol Z.D) := h1.hp
               have hF : m3 (nx + 6) = some ⟨3, i, 1, tabL i fun j => [dI (j : Nat)], 0, false⟩ := h1.hFr
               by_cases g1 : (i : Int) < n
               · have fs := free_snoc i
                 have o4 : nx ≠ nx + 4 := by omega
                 have x1 : nx + 6 ≠ nx3 := by omega
                 have x2 : nx + 2 ≠ nx3 := by omega
                 have x3 : nx ≠ nx3 := by omega
                 have lf := tab_len i fun j => [dI (j : Int)]
                 refine aGoM (cj4 hres ty_zp hp (cj4 hF g1 hw (cj4 i0 fs lf (cj4 x1 x2 x3 (cj4 eS o2 o4 Nat.zero_le))))) ?_
                 repeat with_reducible intro K' hK
                 have ne := h2.ne
                 have hb : ∀ id, inZ (opZ nx R vV vA vO i vF vS vSc) Z.m id → id ≠ nx3 := fun id hi => by have := opZ_in h3 h4 id hi; omega
                 refine loop_endM (i + 1) ⟨by omega, ?_, fun id h => ?_, R, vV, vA, vO, vF, vS, vSc, ⟨upd_same _ _ _, ?_, ?_, ?_, ?_, ?_, ?_, ?_, ?_, fun k hk => ?_⟩, ⟨opZ_nd _ _ _ _ _ _ _ _ _, h2.rx, h2.rr⟩, Nat.lt_succ_of_lt h3, fun k hk => ⟨(h4 k hk).1, Nat.lt_succ_of_lt (h4 k hk).2⟩⟩ (by omega) rfl (by simp [go_sem])
                 · exact (upd_ne _ _ (by omega)).trans ((upd_ne _ _ (by omega)).trans ((upd_ne _ _ (by omega)).trans eS))
                 · exact (upd_ne _ _ (by omega)).trans ((upd_ne _ _ (by omega)).trans ((upd_ne _ _ (by omega)).trans (hfr id h)))
                 · exact (upd_ne _ _ ne.pV.symm).trans ((upd_ne _ _ ne.VFr).trans ((upd_ne _ _ (hb _ inZ_V)).trans h1.hV))
                 · exact (upd_ne _ _ ne.pA.symm).trans ((upd_ne _ _ ne.AFr).trans ((upd_ne _ _ (hb _ inZ_A)).trans h1.hA))
                 · exact (upd_ne _ _ ne.pC.symm).trans ((upd_ne _ _ ne.CFr).trans ((upd_ne _ _ (hb _ inZ_C)).trans h1.hC))
                 · exact (upd_ne _ _ ne.pO.symm).trans ((upd_ne _ _ ne.OFr).trans ((upd_ne _ _ (hb _ inZ_O)).trans h1.hO))
                 · exact (upd_ne _ _ ne.pFr.symm).trans (upd_same _ _ _)
                 · exact (upd_ne _ _ ne.pF.symm).trans ((upd_ne _ _ ne.FrF.symm).trans ((upd_ne _ _ (hb _ inZ_F)).trans h1.hF))
                 · exact (upd_ne _ _ ne.pS.symm).trans ((upd_ne _ _ ne.FrS.symm).trans ((upd_ne _ _ (hb _ inZ_S)).trans h1.hS))
                 · exact (upd_ne _ _ ne.pSc.symm).trans ((upd_ne _ _ ne.FrSc.symm).trans ((upd_ne _ _ (hb _ inZ_Sc)).trans h1.hSc))
                 · exact (upd_ne _ _ (h2.rne hk).p).trans ((upd_ne _ _ (h2.rne hk).Fr).trans ((upd_ne _ _ (hb _ (inZR hk))).trans (h1.hR k hk)))
               · obtain rfl : i = n := by omega
                 refine aGoM (cj4 hres ty_zp hp (cj4 hF g1 eS o2)) ?_
                 refine ⟨opZ nx R vV vA vO i vF vS vSc, rfl, by omega, ?_, by rw [← hZm]; exact h2, fun id hi => Nat.le_of_lt (opZ_in h3 h4 id (by rw [hZm]; exact hi)).1, hfr⟩
                 have e : (tabL Z.n fun j => [dI (Z.free j : Int)]) = tabL i fun j => [dI (j : Int)] := by rw [hZn, hZf]
                 show ZFr (tabL Z.n fun j => [dI (Z.free j : Int)]) m3 _ _ Z
                 rw [e]; exact h1
end Go.Proofs.YtpkdhmnlpnijhaaGreat
