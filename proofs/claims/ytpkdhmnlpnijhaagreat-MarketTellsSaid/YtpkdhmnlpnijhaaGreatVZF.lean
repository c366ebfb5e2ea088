/-
  The walk over data: the reference's dictionary as data.
-/
import Derived.Test.YtpkdhmnlpnijhaaGreatVZO
namespace Go.Proofs.YtpkdhmnlpnijhaaGreat
set_option linter.unusedVariables false
set_option linter.unusedSimpArgs false
set_option linter.unusedSectionVars false
open Go Go.RowKit
set_option maxRecDepth 100000
set_option maxHeartbeats 16000000
abbrev zRows (Z : ZD) : List (List D) := tabL Z.m fun k => [.sl (zL Z.n (Z.a k))]
abbrev encZD (K : ZK) (Z : ZD) : D :=
 .ep [[.sl (zL Z.m Z.v), .sl (zRows Z), .sl (zL Z.n Z.g), dI Z.D.sign, encInts (digs Z.D.natAbs), .sl (tabL Z.m fun i => [dI (Z.own i)]), .sl (tabL Z.n fun j => [dI (Z.free j)]), .sl (tabL Z.m fun i => [dI (K.frm i)]), .sl (tabL Z.m fun i => [dI (sgI (K.neg i))]), .sl (zL Z.m fun i => (K.scl i : Int)), dI (nsg K.gol), encInts (digs K.gol)]] 0 0
def idsZ (I : ZI) (m : Nat) : List Nat := nineZ I ++ (List.range m).map I.R
theorem mem_idsZ {I : ZI} {m id : Nat} : id ∈ idsZ I m ↔ inZ I m id := by
 unfold idsZ inZ
 simp only [List.mem_append, List.mem_map, List.mem_range]
 constructor
 · rintro (h | ⟨k, hk, rfl⟩)
   · exact .inl h
   · exact .inr ⟨k, hk, rfl⟩
 · rintro (h | ⟨k, hk, rfl⟩)
   · exact .inl h
   · exact .inr ⟨k, hk, rfl⟩
theorem fz_zd {m M : Mem} {I : ZI} {K : ZK} {Z : ZD} (h : ZAt m I K Z) (hd : ∀ id, inZ I Z.m id → ∀ b, m id = some b → M id = some { b with dead := true }) : fzT false M 7 (.lp I.p 0 0 0) = encZD K Z := by
 have hp := hd _ inZ_p _ h.hp
 have hV := hd _ inZ_V _ h.hV
 have hA := hd _ inZ_A _ h.hA
 have hC := hd _ inZ_C _ h.hC
 have hO := hd _ inZ_O _ h.hO
 have hFr := hd _ inZ_Fr _ h.hFr
 have hF := hd _ inZ_F _ h.hF
 have hS := hd _ inZ_S _ h.hS
 have hSc := hd _ inZ_Sc _ h.hSc
 have hR := fun k hk => hd _ (inZR hk) _ (h.hR k hk)
 have er : (tabL Z.m fun k => [D.ls (I.R k) 1]).map (List.map (fzT false M 5)) = zRows Z := by
  unfold zRows tabL
  rw [List.map_map]
  refine List.map_congr_left fun k hk => ?_
  have hk := List.mem_range.1 hk
  simp only [Function.comp, List.map_cons, List.map_nil, fzT, blkAt, hR k hk, if_pos, Bool.false_or, fz_zl]
 have eo : ∀ (k : Nat) (f : Nat → Int), (tabL k fun i => [dI (f i)]).map (List.map (fzT false M 5)) = tabL k fun i => [dI (f i)] := fun k f => by
  unfold tabL; rw [List.map_map]; exact List.map_congr_left fun u _ => rfl
 have e1 := eo Z.m fun i => (Z.own i : Int)
 have e2 := eo Z.n fun i => (Z.free i : Int)
 have e3 := eo Z.m fun i => (K.frm i : Int)
 have e4 := eo Z.m fun i => sgI (K.neg i)
 simp only [fzT, blkAt, hp, hV, hA, hC, hO, hFr, hF, hS, hSc, if_pos, Bool.false_or, List.map_cons, List.map_nil, fz_zl, er, e1, e2, e3, e4]
theorem zle_freeze [Ifl] {s : St} {I : ZI} {K : ZK} {Z : ZD} (h : ZAt s.m I K Z) (k : Nat) (hk : s.t k = .lp I.p 0 0 0) (l : List (Nat × D)) (M : Mem) (n' : Nat) (hM : ∀ id b, M id = some b → s.m id = some b ∧ id < n' ∧ ¬ inZ I Z.m id)
    (hc : ∀ id b, M id = some b → okBlk (fun i => (M i).isSome) b) (ht : ∀ p ∈ l, p.1 ≠ k ∧ s.t p.1 = p.2 ∧ okD (fun i => (M i).isSome) p.2 = true) (hlo : s.lo = 0) : StLe s ⟨tabT ((k, encZD K Z) :: l), M, n', 0⟩ := by
 refine (le_killL (idsZ I Z.m)).trans ?_
 refine (le_temp k 7).trans ?_
 have e : fzT false (ov s.m (killW (idsZ I Z.m) s.m)) 7 (s.t k) = encZD K Z := by
  rw [hk]
  exact fz_zd h fun id hi b hb => by rw [kill_get _ _ _ _ hb, if_pos (mem_idsZ.2 hi)]
 rw [← hlo]
 refine le_sub _ M n' ⟨fun id b hb => ?_, hc⟩ (fun p hp => ?_) (fun p hp => ?_) (fun id hi => ?_)
 · obtain ⟨h1, h2, h3⟩ := hM id b hb
   refine ⟨?_, h2⟩
   show ov s.m (killW (idsZ I Z.m) s.m) id = some b
   rw [kill_get _ _ _ _ h1, if_neg fun h4 => h3 (mem_idsZ.1 h4)]
 · rcases List.mem_cons.1 hp with rfl | hp
   · exact (upd_same _ _ _).trans e
   · exact (upd_ne _ _ (ht p hp).1).trans (ht p hp).2.1
 · rcases List.mem_cons.1 hp with rfl | hp
   · rfl
   · exact (ht p hp).2.2
 · have : id < 0 := hlo ▸ hi
   omega
theorem zk_row (s : SysD) : ∀ k, ∀ i, i < (openK (fun _ => 0) (mulS s) k).1.m → (openZ s k).frm i = ((openK (fun _ => 0) (mulS s) k).2 i).1 ∧ (openZ s k).neg i = ((openK (fun _ => 0) (mulS s) k).2 i).2 ∧ (((openZ s k).scl i : Nat) : Rat) = scI s ((openK (fun _ => 0) (mulS s) k).2 i).1 ∧ (openZ s k).scl i ≠ 0 ∧ ∃ w ∈ s.r, (openZ s k).scl i = scW w
 | 0, i, h => absurd h (Nat.not_lt_zero _)
 | k + 1, i, h => by
   have ih := zk_row s k
   simp only [openK, openZ] at h ⊢
   cases hw : s.r[k]? with
   | none =>
     have hm : (mulS s).r[k]? = none := by simp [mulS, hw]
     simp only [hm] at h ⊢
     exact ih i h
   | some w =>
     simp only [mulS_get hw] at h ⊢
     have hsc : ((scW w : Nat) : Rat) = scI s k := by unfold scI; rw [hw]
     have h0 : scW w ≠ 0 := by have := scW_pos w; omega
     have hwm := List.mem_of_getElem? hw
     generalize openK (fun _ => 0) (mulS s) k = X at *
     generalize openZ s k = K at *
     have add : ∀ (Y : DS) (L : ZK) (b : Bool), (∀ i, i < Y.1.m → L.frm i = (Y.2 i).1 ∧ L.neg i = (Y.2 i).2 ∧ ((L.scl i : Nat) : Rat) = scI s (Y.2 i).1 ∧ L.scl i ≠ 0 ∧ ∃ w ∈ s.r, L.scl i = scW w) →
         ∀ i, i < (addP (mulW w) k b Y).1.m → (addK L Y.1.m k b (scW w)).frm i = ((addP (mulW w) k b Y).2 i).1 ∧ (addK L Y.1.m k b (scW w)).neg i = ((addP (mulW w) k b Y).2 i).2 ∧ (((addK L Y.1.m k b (scW w)).scl i : Nat) : Rat) = scI s ((addP (mulW w) k b Y).2 i).1 ∧ (addK L Y.1.m k b (scW w)).scl i ≠ 0 ∧ ∃ w' ∈ s.r, (addK L Y.1.m k b (scW w)).scl i = scW w' := by
      intro Y L b hY i hi
      have hi' : i < Y.1.m + 1 := hi
      simp only [addP, addK]
      by_cases e : i = Y.1.m
      · simp only [e, if_true]
        exact ⟨trivial, trivial, hsc, h0, w, hwm, rfl⟩
      · simp only [if_neg e]
        exact hY i (by omega)
     have hkw : (mulW w).k = w.k := rfl
     unfold putP at h ⊢
     unfold putKZ
     simp only [hkw] at h ⊢
     by_cases k0 : w.k = 0
     · have k1 : w.k ≠ 1 := by omega
       simp only [if_pos k0, if_neg k1] at h ⊢
       exact add X K true ih i h
     · by_cases k1 : w.k = 1
       · simp only [if_neg k0, if_pos k1] at h ⊢
         exact add X K false ih i h
       · simp only [if_neg k0, if_neg k1] at h ⊢
         exact add (addP (mulW w) k false X) (addK K X.1.m k false (scW w)) true (add X K false ih) i h
theorem divInt_of {x : Rat} {z D : Int} (hD : 0 < D) (h : x * (D : Rat) = z) : Rat.divInt z D = x := by
 have h0 : (D : Rat) ≠ 0 := fun e => by
  have : D = 0 := Rat.intCast_inj.1 (by rw [e]; rfl)
  omega
 rw [Rat.divInt_eq_div, Rat.div_def, ← h, Rat.mul_assoc, Rat.mul_inv_cancel _ h0, Rat.mul_one]
theorem zwz_c : ContractN Tryz.prog 170 [dI 0] (encF (ofQ 0)) := zwhole_c 0 (by decide) (by decide)
theorem zwo_c : ContractN Tryz.prog 170 [dI 1] (encF (ofQ 1)) := zwhole_c 1 (by decide) (by decide)
theorem rzeros_a [Ifl] (n : Nat) (m : Mem) (nx : Nat) (hn : (n : Int) ≤ 4096) : CallA Tryz.prog 168 [dI n] m nx fun d m' nx' => d = .ls nx 1 ∧ nx < nx' ∧ m' nx = some (fB n fun _ => 0) ∧ ∀ id, id < nx → m' id = m id := by
 have hres := Tryz.results168
 refine inA Tryz.func168 rfl Tryz.ntmps168 ?_
 have n0 : (0 : Int) ≤ n := by omega
 have hrep : List.replicate n zc = fillL n 0 := (fill_zero n).symm
 have hl := fill_len n 0
 have n3 : (n : Int) ≤ n := by omega
 refine aGoM (cj4 hres n0 hrep (cj3 hl n3 trivial)) ?_
 repeat with_reducible intro K' hK
 refine aLoopM (fun (i : Nat) => [(0, dI n), (3, .ls nx 1), (4, dI i)]) nx (fun i m1 nx1 => i ≤ n ∧ nx < nx1 ∧ m1 nx = some ⟨32, 1, 4, fillL n i, 0, false⟩ ∧ ∀ id, id < nx → m1 id = m id) (fun i => n - i) 0 ?_ ?_ ?_ ?_
 · simp only [upd_get, ↓reduceIte]
   exact ⟨Nat.zero_le _, Nat.lt_succ_self _, trivial, fun id h1 => by rw [if_neg (by omega)]⟩
 · rfl
 · simp [go_sem]
 · rintro i m1 nx1 ⟨hi, hnx, eN, hfr⟩
   obtain ⟨hw, i0⟩ := wrap2 i
   have hl1 := fill_len n i
   have k0 := zwz_c
   by_cases h1 : (i : Int) < n
   · have hg : (fillL n i)[i]? = some zc := by unfold fillL; rw [tab_get _ (by omega), if_neg (by omega)]
     have hset := fill_set n i
     refine aGoM (cj4 hres eN i0 (cj4 h1 hw hl1 (cj3 hg hset Nat.zero_le))) ?_
     repeat with_reducible intro K' hK
     refine loop_endM (i + 1) ?_ (by omega) rfl (by simp [go_sem])
     simp only [upd_get, ↓reduceIte]
     exact ⟨by omega, hnx, trivial, fun id h3 => by rw [if_neg (by omega)]; exact hfr id h3⟩
   · obtain rfl : i = n := by omega
     rw [fill_all] at eN
     refine aGoM (cj4 hres eN h1 hw) ?_
     exact hfr
section
variable {d0 d : Dic} {Z : ZD} (h : ZRel d0 d Z) (K : ZK)
include h
theorem ZRel.qv {i : Nat} (hi : i < d.m) : Rat.divInt (Z.v i) Z.D = d.v i := divInt_of h.pos (h.v i hi)
theorem ZRel.qa {i j : Nat} (hi : i < d.m) (hj : j < d.n) : Rat.divInt (Z.a i j) Z.D = d.a i j := divInt_of h.pos (h.a i j hi hj)
theorem zpoint_c (sz : ZS Z) (hm : (d.m : Int) ≤ 4096) (hn : (d.n : Int) ≤ 4096) : ContractN Tryz.prog 74 [encZD K Z, dI d.n] (.sl (ratL d.n (pointK d d.m))) := by
 refine ContractN.ofA (fun I => ?_)
 have hres := Tryz.results74
 refine inA Tryz.func74 rfl Tryz.ntmps74 ?_
 have n0 : (0 : Int) ≤ d.n := by omega
 have hrep : List.replicate d.n zc = fillL d.n 0 := (fill_zero d.n).symm
 have hl := fill_len d.n 0
 have n3 : (d.n : Int) ≤ d.n := by omega
 have lo := tab_len Z.m fun i => [dI (Z.own i)]
 have em := h.m
 have eo := h.own
 refine aGoM (cj4 hres n0 hrep (cj3 hl n3 ty_zp)) ?_
 repeat with_reducible intro K' hK
 refine aLoopM (fun (i : Nat) => [(0, encZD K Z), (1, dI d.n), (5, .ls 0 1), (6, dI i)]) 0 (fun i m1 nx1 => i ≤ d.n ∧ 0 < nx1 ∧ m1 0 = some ⟨32, 1, 4, fillL d.n i, 0, false⟩) (fun i => d.n - i) 0 ?_ ?_ ?_ ?_
 · exact ⟨Nat.zero_le _, Nat.zero_lt_one, by dsimp only; rw [upd_same]; try rfl⟩
 · rfl
 · simp [go_sem]
 · rintro i m1 nx1 ⟨hi, hnx, eX⟩
   obtain ⟨hw, i0⟩ := wrap2 i
   have hl1 := fill_len d.n i
   have k0 := zwz_c
   by_cases h1 : (i : Int) < d.n
   · have hg : (fillL d.n i)[i]? = some zc := by unfold fillL; rw [tab_get _ (by omega), if_neg (by omega)]
     have hset := fill_set d.n i
     refine aGoM (cj4 hres eX i0 (cj4 h1 hw hl1 (cj3 hg hset Nat.zero_le))) ?_
     repeat with_reducible intro K' hK
     exact loop_endM (i + 1) ⟨by omega, by show 0 < nx1; omega, by dsimp only; rw [upd_same]⟩ (by omega) rfl (by simp [go_sem])
   · obtain rfl : i = d.n := by omega
     rw [fill_all] at eX
     refine aGoM (cj4 hres eX h1 hw) ?_
     repeat with_reducible intro K' hK
     refine aLoopM (fun (i : Nat) => [(0, encZD K Z), (1, dI d.n), (5, .ls 0 1), (7, dI i)]) 0 (fun i m1 nx1 => i ≤ d.m ∧ 0 < nx1 ∧ m1 0 = some (fB d.n (pointK d i))) (fun i => d.m - i) 0 ?_ ?_ ?_ ?_
     · exact ⟨Nat.zero_le _, hnx, eX⟩
     · rfl
     · simp [go_sem]
     · clear eX hi hw i0 hl1 h1
       rintro i m1 nx1 ⟨hi, hnx, eX⟩
       obtain ⟨hw, i0⟩ := wrap2 i
       by_cases h1 : (i : Int) < Z.m
       · have him : i < d.m := by omega
         have go := tab_get (fun i => [dI (Z.own i)]) (show i < Z.m by omega)
         have gv := zl_get Z.v (show i < Z.m by omega)
         have ei : Z.own i = d.own i := congrFun eo i
         by_cases h2 : (Z.own i : Int) < d.n
         · have es := point_set d (i := i) (by omega)
           rw [← ei] at es
           have o0 : (0 : Int) ≤ Z.own i := by omega
           have lx := rat_len d.n (pointK d i)
           have gx := rat_get (pointK d i) (n := d.n) (k := Z.own i) (by omega)
           have zv := sz.v i (by omega)
           have zD := sz.D
           have k2 := zratio_c (Z.v i) Z.D (by have := h.pos; omega) (by omega) (by omega)
           rw [h.qv him] at k2
           refine aGoM (cj4 hres ty_zp eX (cj4 h1 hw i0 (cj4 go gv h2 (cj4 es o0 lx (cj3 gx lo Nat.zero_le))))) ?_
           repeat with_reducible intro K' hK
           exact loop_endM (i + 1) ⟨by omega, by show 0 < nx1; omega, by dsimp only; rw [upd_same]⟩ (by omega) rfl (by simp [go_sem])
         · refine aGoM (cj4 hres ty_zp eX (cj4 h1 hw i0 (cj3 go h2 lo))) ?_
           repeat with_reducible intro K' hK
           refine loop_endM (i + 1) ⟨by omega, by show 0 < nx1; omega, ?_⟩ (by omega) rfl (by simp [go_sem])
           rw [point_skip d (by omega)]; exact eX
       · obtain rfl : i = d.m := by omega
         have h1' : ¬ (d.m : Int) < Z.m := by omega
         refine aGoM (cj4 hres ty_zp eX (cj2 h1' lo)) ?_
         repeat with_reducible intro K' hK
         simp only [fzT, blkAt, eX, if_pos, Bool.true_or, fz_rat]
theorem zray_c (sz : ZS Z) {s : Nat} (hs : s < d.n) (hm : (d.m : Int) ≤ 4096) (hn : (d.n : Int) ≤ 4096) : ContractN Tryz.prog 77 [encZD K Z, dI d.n, dI s] (.sl (ratL d.n (rayK d s d.m))) := by
 refine ContractN.ofA (fun I => ?_)
 have hres := Tryz.results77
 refine inA Tryz.func77 rfl Tryz.ntmps77 ?_
 have n0 : (0 : Int) ≤ d.n := by omega
 have s0 : (0 : Int) ≤ s := by omega
 have hrep : List.replicate d.n zc = fillL d.n 0 := (fill_zero d.n).symm
 have hl := fill_len d.n 0
 have n3 : (d.n : Int) ≤ d.n := by omega
 have lo := tab_len Z.m fun i => [dI (Z.own i)]
 have em := h.m
 have en := h.n
 have eo := h.own
 have ef : Z.free s = d.free s := congrFun h.free s
 have gf := tab_get (fun j => [dI (Z.free j)]) (show s < Z.n by omega)
 refine aGoM (cj4 hres n0 hrep (cj3 hl n3 ty_zp)) ?_
 repeat with_reducible intro K' hK
 refine aLoopM (fun (i : Nat) => [(0, encZD K Z), (1, dI d.n), (2, dI s), (7, .ls 0 1), (8, dI i)]) 0 (fun i m1 nx1 => i ≤ d.n ∧ 0 < nx1 ∧ m1 0 = some ⟨32, 1, 4, fillL d.n i, 0, false⟩) (fun i => d.n - i) 0 ?_ ?_ ?_ ?_
 · exact ⟨Nat.zero_le _, Nat.zero_lt_one, by dsimp only; rw [upd_same]; try rfl⟩
 · rfl
 · simp [go_sem]
 · rintro i m1 nx1 ⟨hi, hnx, eX⟩
   obtain ⟨hw, i0⟩ := wrap2 i
   have hl1 := fill_len d.n i
   have k0 := zwz_c
   by_cases h1 : (i : Int) < d.n
   · have hg : (fillL d.n i)[i]? = some zc := by unfold fillL; rw [tab_get _ (by omega), if_neg (by omega)]
     have hset := fill_set d.n i
     refine aGoM (cj4 hres eX i0 (cj4 h1 hw hl1 (cj3 hg hset Nat.zero_le))) ?_
     repeat with_reducible intro K' hK
     exact loop_endM (i + 1) ⟨by omega, by show 0 < nx1; omega, by dsimp only; rw [upd_same]⟩ (by omega) rfl (by simp [go_sem])
   · obtain rfl : i = d.n := by omega
     rw [fill_all] at eX
     by_cases h0 : (Z.free s : Int) < d.n
     · have e1 := ray_one d (s := s) (by omega)
       rw [← ef] at e1
       have f0 : (0 : Int) ≤ Z.free s := by omega
       have lz := rat_len d.n fun _ => 0
       have gz := rat_get (fun _ => 0) (n := d.n) (k := Z.free s) (by omega)
       have k1 := zwo_c
       refine aGoM (cj4 hres ty_zp eX (cj4 gf s0 h0 (cj4 e1 f0 lz (cj4 gz h1 hw Nat.zero_le)))) ?_
       repeat with_reducible intro K' hK
       refine aLoopM (fun (i : Nat) => [(0, encZD K Z), (1, dI d.n), (2, dI s), (7, .ls 0 1), (9, dI i)]) 0 (fun i m1 nx1 => i ≤ d.m ∧ 0 < nx1 ∧ m1 0 = some (fB d.n (rayK d s i))) (fun i => d.m - i) 0 ?_ ?_ ?_ ?_
       · exact ⟨Nat.zero_le _, by show 0 < nx1; omega, by dsimp only; rw [upd_same]; try rfl⟩
       · rfl
       · simp [go_sem]
       · clear eX hi hw i0 hl1 h1
         rintro i m1 nx1 ⟨hi, hnx, eX⟩
         obtain ⟨hw, i0⟩ := wrap2 i
         by_cases h1 : (i : Int) < Z.m
         · have him : i < d.m := by omega
           have go := tab_get (fun i => [dI (Z.own i)]) (show i < Z.m by omega)
           have gr := tab_get (fun k => [D.sl (zL Z.n (Z.a k))]) (show i < Z.m by omega)
           have gv := zl_get (Z.a i) (show s < Z.n by omega)
           have ei : Z.own i = d.own i := congrFun eo i
           by_cases h2 : (Z.own i : Int) < d.n
           · have es := ray_set d s (i := i) (by omega)
             rw [← ei] at es
             have o0 : (0 : Int) ≤ Z.own i := by omega
             have lx := rat_len d.n (rayK d s i)
             have gx := rat_get (rayK d s i) (n := d.n) (k := Z.own i) (by omega)
             have zv := sz.a i s (by omega) (by omega)
             have zD := sz.D
             have k3 := pNeg_c (Z.a i s) (by omega)
             have k2 := zratio_c (-(Z.a i s)) Z.D (by have := h.pos; omega) (by rw [szZ_neg]; omega) (by omega)
             have hq : Rat.divInt (-(Z.a i s)) Z.D = -(d.a i s) := divInt_of h.pos (by rw [Rat.intCast_neg, ← h.a i s him hs]; grind)
             rw [hq] at k2
             refine aGoM (cj4 hres ty_zp eX (cj4 h1 hw i0 (cj4 go gv h2 (cj4 es o0 lx (cj4 gx lo gr (cj2 s0 Nat.zero_le)))))) ?_
             repeat with_reducible intro K' hK
             exact loop_endM (i + 1) ⟨by omega, by show 0 < nx1; omega, by dsimp only; rw [upd_same]⟩ (by omega) rfl (by simp [go_sem])
           · refine aGoM (cj4 hres ty_zp eX (cj4 h1 hw i0 (cj3 go h2 lo))) ?_
             repeat with_reducible intro K' hK
             refine loop_endM (i + 1) ⟨by omega, by show 0 < nx1; omega, ?_⟩ (by omega) rfl (by simp [go_sem])
             rw [ray_skip d s (by omega)]; exact eX
         · obtain rfl : i = d.m := by omega
           have h1' : ¬ (d.m : Int) < Z.m := by omega
           refine aGoM (cj4 hres ty_zp eX (cj2 h1' lo)) ?_
           repeat with_reducible intro K' hK
           simp only [fzT, blkAt, eX, if_pos, Bool.true_or, fz_rat]
     · have e1 := ray_none d (s := s) (by omega)
       rw [e1] at eX
       refine aGoM (cj4 hres ty_zp eX (cj4 gf s0 h0 (cj3 h1 hw Nat.zero_le))) ?_
       repeat with_reducible intro K' hK
       refine aLoopM (fun (i : Nat) => [(0, encZD K Z), (1, dI d.n), (2, dI s), (7, .ls 0 1), (9, dI i)]) 0 (fun i m1 nx1 => i ≤ d.m ∧ 0 < nx1 ∧ m1 0 = some (fB d.n (rayK d s i))) (fun i => d.m - i) 0 ?_ ?_ ?_ ?_
       · exact ⟨Nat.zero_le _, hnx, eX⟩
       · rfl
       · simp [go_sem]
       · clear eX hi hw i0 hl1 h1
         rintro i m1 nx1 ⟨hi, hnx, eX⟩
         obtain ⟨hw, i0⟩ := wrap2 i
         by_cases h1 : (i : Int) < Z.m
         · have him : i < d.m := by omega
           have go := tab_get (fun i => [dI (Z.own i)]) (show i < Z.m by omega)
           have gr := tab_get (fun k => [D.sl (zL Z.n (Z.a k))]) (show i < Z.m by omega)
           have gv := zl_get (Z.a i) (show s < Z.n by omega)
           have ei : Z.own i = d.own i := congrFun eo i
           by_cases h2 : (Z.own i : Int) < d.n
           · have es := ray_set d s (i := i) (by omega)
             rw [← ei] at es
             have o0 : (0 : Int) ≤ Z.own i := by omega
             have lx := rat_len d.n (rayK d s i)
             have gx := rat_get (rayK d s i) (n := d.n) (k := Z.own i) (by omega)
             have zv := sz.a i s (by omega) (by omega)
             have zD := sz.D
             have k3 := pNeg_c (Z.a i s) (by omega)
             have k2 := zratio_c (-(Z.a i s)) Z.D (by have := h.pos; omega) (by rw [szZ_neg]; omega) (by omega)
             have hq : Rat.divInt (-(Z.a i s)) Z.D = -(d.a i s) := divInt_of h.pos (by rw [Rat.intCast_neg, ← h.a i s him hs]; grind)
             rw [hq] at k2
             refine aGoM (cj4 hres ty_zp eX (cj4 h1 hw i0 (cj4 go gv h2 (cj4 es o0 lx (cj4 gx lo gr (cj2 s0 Nat.zero_le)))))) ?_
             repeat with_reducible intro K' hK
             exact loop_endM (i + 1) ⟨by omega, by show 0 < nx1; omega, by dsimp only; rw [upd_same]⟩ (by omega) rfl (by simp [go_sem])
           · refine aGoM (cj4 hres ty_zp eX (cj4 h1 hw i0 (cj3 go h2 lo))) ?_
             repeat with_reducible intro K' hK
             refine loop_endM (i + 1) ⟨by omega, by show 0 < nx1; omega, ?_⟩ (by omega) rfl (by simp [go_sem])
             rw [ray_skip d s (by omega)]; exact eX
         · obtain rfl : i = d.m := by omega
           have h1' : ¬ (d.m : Int) < Z.m := by omega
           refine aGoM (cj4 hres ty_zp eX (cj2 h1' lo)) ?_
           repeat with_reducible intro K' hK
           simp only [fzT, blkAt, eX, if_pos, Bool.true_or, fz_rat]
end
def chgW (K : ZK) (W : Nat → Rat) (k : Nat) (f : Rat) : Nat → Rat := fun u => if u = K.frm k then W u + (if K.neg k then f else -f) else W u
theorem chgW_set (K : ZK) (W : Nat → Rat) (k : Nat) (f : Rat) (M : Nat) {q : Rat} (hq : q = W (K.frm k) + if K.neg k then f else -f) : (ratL M W).set (K.frm k) (cF (ofQ q)) = ratL M (chgW K W k f) := by
 subst hq
 rw [rat_set]
 refine rat_congr fun u _ => ?_
 unfold chgW
 by_cases e : u = K.frm k
 · rw [if_pos e, if_pos e, e]
 · rw [if_neg e, if_neg e]
theorem zcharge_a [Ifl] (K : ZK) (Z : ZD) (M Y k : Nat) (W : Nat → Rat) (p q : Int) (f : Rat) (m : Mem) (nx : Nat) (hk : k < Z.m) (hM : K.frm k < M) (hY : m Y = some (fB M W)) (hq : q ≠ 0) (hf : Rat.divInt (p * K.scl k) q = f)
    (zW : (szQ (W (K.frm k)) : Int) ≤ 4294967296) (zf : (szQ f : Int) ≤ 4294967296) (zp : (szZ p : Int) ≤ 4294967296) (zs : ((digs (K.scl k)).length : Int) ≤ 4294967296) (zq : (szZ q : Int) ≤ 4294967296) :
    CallA Tryz.prog 169 [encZD K Z, .ls Y 1, dI k, encZ p, encZ q] m nx fun d' m' nx' => d' = oneD [] ∧ nx ≤ nx' ∧ m' Y = some (fB M (chgW K W k f)) ∧ ∀ id, id < nx → id ≠ Y → m' id = m id := by
 refine CallA.cl ⟨_, _, Tryz.func169, rfl, by kernel_rfl⟩ fun hcl => ?_
 have hres := Tryz.results169
 have lY := (hcl Y _ hY).1
 refine inA Tryz.func169 rfl Tryz.ntmps169 ?_
 have gF := tab_get (fun i => [dI (K.frm i)]) hk
 have gS := tab_get (fun i => [dI (sgI (K.neg i))]) hk
 have gSc : (zL Z.m fun i => (K.scl i : Int))[k]? = some [dI (nsg (K.scl k)), encInts (digs (K.scl k))] := zl_get (fun i => (K.scl i : Int)) hk
 have k0 : (0 : Int) ≤ k := by omega
 have s0 : (0 : Int) ≤ K.frm k := by omega
 have gy := rat_get W hM
 have ly := rat_len M W
 have n1 : Y ≠ nx := by omega
 have n2 : Y ≠ nx + 1 := by omega
 have n3 : Y ≠ nx + 2 := by omega
 have n4 : Y ≠ nx + 3 := by omega
 have o1 : nx ≠ nx + 1 := by omega
 have o2 : nx ≠ nx + 2 := by omega
 have o3 : nx ≠ nx + 3 := by omega
 have hm := szZ_mul p (K.scl k)
 have hsn := szZ_nat (K.scl k)
 have c1 : ContractN Tryz.prog 173 [encZ p, eN (K.scl k)] (encZ (p * K.scl k)) := zmul_c p (K.scl k) (by omega) (by omega)
 have c2 := zratio_c (p * K.scl k) q hq (by omega) (by omega)
 rw [hf] at c2
 refine aGoS (cj4 hres ty_zp hY (cj4 gF gS gSc (cj4 k0 s0 o1 (cj4 o2 o3 n1 (cj3 n2 n3 Nat.zero_le))))) ?_
 repeat with_reducible intro K' hK
 with_reducible apply useE
 with_reducible assumption
 exact race_list [nx, nx + 1, nx + 2] (by simp) [([0], []), ([], []), ([], []), ([], []), ([], []), ([], []), ([], []), ([], []), ([], []), ([1], []), ([], []), ([2, 2], [2]), ([2, 2], [2])] rfl rfl (by kernel_rfl)
 exact intsOk_no rfl
 cases ht : K.neg k with
 | true =>
   have hc := raddF_c (ofQ (W (K.frm k))) (ofQ f) (by have e : szF (ofQ (W (K.frm k))) = szQ (W (K.frm k)) := rfl; omega) (by have e : szF (ofQ f) = szQ f := rfl; omega)
   rw [addD_ofQ] at hc
   have es := chgW_set K W k f M (q := W (K.frm k) + f) (by rw [ht]; simp only [if_true])
   rw [ht] at gS
   have hsg : ¬ ((if true = true then (-1 : Int) else 1) > 0) := by decide
   refine aGoS (cj4 hres ty_zp hY (cj4 gF gS k0 (cj4 s0 gy ly (cj4 o1 o2 o3 (cj4 n1 n2 n3 (cj3 n4 hsg Nat.zero_le)))))) ?_
   repeat with_reducible intro K' hK
   with_reducible apply useE
   with_reducible assumption
   exact race_list [nx + 2, Y, nx + 3] (by simp only [List.nodup_cons, List.mem_cons, List.not_mem_nil, not_or, or_false, List.nodup_nil, not_false_eq_true, and_true]; omega) [([], []), ([], []), ([], []), ([], []), ([], []), ([], []), ([], []), ([], []), ([1], []), ([1], []), ([0], []), ([], []), ([], []), ([], []), ([], []), ([2, 2], [2]), ([2, 2], [2]), ([], [])] rfl rfl (by kernel_rfl)
   exact intsOk_no rfl
   refine aGoS (cj4 hres ty_zp hY (cj4 gF es k0 (cj4 s0 gy ly (cj4 o1 o2 o3 (cj4 n1 n2 n3 (cj3 n4 hsg Nat.zero_le)))))) ?_
   repeat with_reducible intro K' hK
   with_reducible apply useE
   with_reducible assumption
   exact race_list [Y, nx + 3] (by simp only [List.nodup_cons, List.mem_cons, List.not_mem_nil, not_or, or_false, List.nodup_nil, not_false_eq_true, and_true]; omega) [([], []), ([], []), ([], []), ([], []), ([], []), ([], []), ([], []), ([], []), ([1], []), ([0], []), ([0, 0], [0])] rfl rfl (by kernel_rfl)
   exact intsOk_no rfl
   refine aGoM (cj4 hres n1 n2 (cj2 n3 n4)) ?_
   exact fun id g1 g2 => by repeat (rw [if_neg (by omega)])
 | false =>
   have hc := rsubF_c (ofQ (W (K.frm k))) (ofQ f) (by have e : szF (ofQ (W (K.frm k))) = szQ (W (K.frm k)) := rfl; omega) (by have e : szF (ofQ f) = szQ f := rfl; omega)
   rw [subD_ofQ] at hc
   have es := chgW_set K W k f M (q := W (K.frm k) - f) (by rw [ht]; simp only [Bool.false_eq_true, if_false]; grind)
   rw [ht] at gS
   have hsg : ((if false = true then (-1 : Int) else 1) > 0) := by decide
   refine aGoS (cj4 hres ty_zp hY (cj4 gF gS k0 (cj4 s0 gy ly (cj4 o1 o2 o3 (cj4 n1 n2 n3 (cj3 n4 hsg Nat.zero_le)))))) ?_
   repeat with_reducible intro K' hK
   with_reducible apply useE
   with_reducible assumption
   exact race_list [nx + 2, Y, nx + 3] (by simp only [List.nodup_cons, List.mem_cons, List.not_mem_nil, not_or, or_false, List.nodup_nil, not_false_eq_true, and_true]; omega) [([], []), ([], []), ([], []), ([], []), ([], []), ([], []), ([], []), ([], []), ([1], []), ([1], []), ([0], []), ([], []), ([], []), ([], []), ([], []), ([2, 2], [2]), ([2, 2], [2]), ([], [])] rfl rfl (by kernel_rfl)
   exact intsOk_no rfl
   refine aGoS (cj4 hres ty_zp hY (cj4 gF es k0 (cj4 s0 gy ly (cj4 o1 o2 o3 (cj4 n1 n2 n3 (cj3 n4 hsg Nat.zero_le)))))) ?_
   repeat with_reducible intro K' hK
   with_reducible apply useE
   with_reducible assumption
   exact race_list [Y, nx + 3] (by simp only [List.nodup_cons, List.mem_cons, List.not_mem_nil, not_or, or_false, List.nodup_nil, not_false_eq_true, and_true]; omega) [([], []), ([], []), ([], []), ([], []), ([], []), ([], []), ([], []), ([], []), ([1], []), ([0], []), ([0, 0], [0])] rfl rfl (by kernel_rfl)
   exact intsOk_no rfl
   refine aGoM (cj4 hres n1 n2 (cj2 n3 n4)) ?_
   exact fun id g1 g2 => by repeat (rw [if_neg (by omega)])
theorem zcharge_e [Ifl] (K : ZK) (Z : ZD) (M Y k : Nat) (W : Nat → Rat) (p q : Int) (f : Rat) (m : Mem) (nx : Nat) (hk : k < Z.m) (hM : K.frm k < M) (hY : m Y = some (fB M W)) (hl : Y < nx) (hq : q ≠ 0) (hf : Rat.divInt (p * K.scl k) q = f)
    (zW : (szQ (W (K.frm k)) : Int) ≤ 4294967296) (zf : (szQ f : Int) ≤ 4294967296) (zp : (szZ p : Int) ≤ 4294967296) (zs : ((digs (K.scl k)).length : Int) ≤ 4294967296) (zq : (szZ q : Int) ≤ 4294967296) :
    EffC Tryz.prog 169 [encZD K Z, .ls Y 1, dI k, encZ p, encZ q] m nx ⟨oneD [], [Y], [(Y, fB M (chgW K W k f))], false⟩ nx :=
 EffC.of ⟨_, _, Tryz.func169, rfl, by kernel_rfl⟩ (fun q hq => by simp only [List.mem_singleton] at hq; subst hq; exact ⟨by simp, hl⟩) fun m1 NX hN ht =>
  CallA.kept ((ht Y (by simp)).trans hY) rfl (ok_fB M _) (zcharge_a K Z M Y k W p q f m1 NX hk hM ((ht Y (by simp)).trans hY) hq hf zW zf zp zs zq)
structure KOf (K : ZK) (src : Nat → Nat × Bool) (m : Nat) (S : Nat → Rat) : Prop where
 frm : ∀ k, k < m → K.frm k = (src k).1
 neg : ∀ k, k < m → K.neg k = (src k).2
 scl : ∀ k, k < m → (K.scl k : Rat) = S (src k).1
 sz : ∀ k, k < m → (digs (K.scl k)).length ≤ 300
 szS : ∀ u, szQ (S u) ≤ 300
theorem KOf.chg {K : ZK} {src : Nat → Nat × Bool} {m : Nat} {S : Nat → Rat} (h : KOf K src m S) (c : Rat) (y : Nat → Rat) {k : Nat} (hk : k < m) (p : Rat) : chgW K (fun u => c * S u * y u) k (c * S (src k).1 * p) = fun u => c * S u * chargeY src y k p u := by
 funext u
 unfold chgW chargeY
 rw [h.frm k hk, h.neg k hk]
 by_cases e : u = (src k).1
 · rw [if_pos e, if_pos e, e]
   split <;> grind
 · rw [if_neg e, if_neg e]
section
variable {d0 d : Dic} {Z : ZD} (h : ZRel d0 d Z) {K : ZK} {src : Nat → Nat × Bool} {S : Nat → Rat} (hKf : KOf K src d.m S)
include h hKf
theorem zprices_c (sz : ZS Z) (M : Nat) (hP : d.Part) (hm : (d.m : Int) ≤ 4096) (hn : d.n ≤ 16) (hMl : (M : Int) ≤ 4096) (hsrc : ∀ i, i < d.m → (src i).1 < M) (zg : ∀ j, j < d.n → szQ (d.g j) ≤ 50000) (hgol : 0 < K.gol) (zgol : (digs K.gol).length ≤ 300) (zc : szQ ((K.gol : Rat)⁻¹) ≤ 300) :
    ContractN Tryz.prog 76 [encZD K Z, dI d.n, dI M] (.sl (ratL M fun u => (K.gol : Rat)⁻¹ * S u * pricesK d src d.n u)) := by
 refine ContractN.ofA (fun I => ?_)
 have hres := Tryz.results76
 refine inA Tryz.func76 rfl Tryz.ntmps76 ?_
 refine aGoM (cj2 hres ty_zp) ?_
 repeat with_reducible intro K' hK
 refine callT_eff (CallA.made (ok_fB M _) (rzeros_a M _ _ hMl)) ?_
 rintro _ _ _ ⟨rfl, rfl, rfl⟩
 have lf := tab_len Z.n fun j => [dI (Z.free j)]
 have em := h.m
 have en := h.n
 have ef := h.free
 refine aGoM (cj3 hres ty_zp lf) ?_
 repeat with_reducible intro K' hK
 refine aLoopM (fun (i : Nat) => [(0, encZD K Z), (1, dI d.n), (7, .ls 0 1), (8, dI i)]) 0
  (fun i m1 nx1 => i ≤ d.n ∧ 0 < nx1 ∧ m1 0 = some (fB M fun u => (K.gol : Rat)⁻¹ * S u * pricesK d src i u)) (fun i => d.n - i) 0 ?_ ?_ ?_ ?_
 · refine ⟨Nat.zero_le _, Nat.zero_lt_one, ?_⟩
   dsimp only
   rw [upd_same]
   have e0 : (fun u => (K.gol : Rat)⁻¹ * S u * pricesK d src 0 u) = fun _ => 0 := by funext u; simp only [pricesK]; grind
   rw [e0]
 · rfl
 · simp [go_sem]
 · rintro i m1 nx1 ⟨hi, hnx, eX⟩
   obtain ⟨hw, i0⟩ := wrap2 i
   by_cases h1 : (i : Int) < Z.n
   · have hin : i < d.n := by omega
     have gf := tab_get (fun j => [dI (Z.free j)]) (show i < Z.n by omega)
     have fl := hP.free_lt i hin
     have ei : Z.free i = d.free i := congrFun ef i
     by_cases h2 : (Z.free i : Int) ≥ d.n
     · have hkm : Z.free i - d.n < d.m := by omega
       have gg := zl_get Z.g (show i < Z.n by omega)
       have zi := sz.g i (by omega)
       have zD := sz.D
       have k1 := pNeg_c (Z.g i) (by omega)
       have k2 : ContractN Tryz.prog 173 [encZ Z.D, eN K.gol] (encZ (Z.D * K.gol)) := zmul_c Z.D K.gol (by omega) (by rw [szZ_nat]; omega)
       have hs : IntKind.i64.wrap ((Z.free i : Int) - d.n) = ((Z.free i - d.n : Nat) : Int) := (wrap_in (by omega) (by omega)).trans (by omega)
       refine aGoM (cj4 hres ty_zp eX (cj4 h1 hw i0 (cj4 gf h2 gg (cj3 hs lf Nat.zero_le)))) ?_
       repeat with_reducible intro K' hK
       have hD := h.pos
       have hg0 : (0 : Int) < K.gol := by omega
       have hq0 : 0 < Z.D * (K.gol : Int) := Int.mul_pos hD hg0
       have hf : Rat.divInt (-(Z.g i) * (K.scl (Z.free i - d.n) : Int)) (Z.D * (K.gol : Int)) = (K.gol : Rat)⁻¹ * S (src (Z.free i - d.n)).1 * -(d.g i) := by
        refine divInt_of hq0 ?_
        rw [Rat.intCast_mul, Rat.intCast_mul, Rat.intCast_neg, ← h.g i hin, Rat.intCast_natCast, Rat.intCast_natCast, hKf.scl _ hkm]
        have hc := Rat.inv_mul_cancel (K.gol : Rat) (by have := nat_pos hgol; grind)
        grind
       have zmq := szZ_mul Z.D (K.gol : Int)
       have hsn := szZ_nat K.gol
       have zsc := hKf.sz _ hkm
       have zS := hKf.szS (src (Z.free i - d.n)).1
       have zgi := zg i hin
       have m1' := szQ_mul ((K.gol : Rat)⁻¹ * S (src (Z.free i - d.n)).1) (-(d.g i))
       have m2' := szQ_mul ((K.gol : Rat)⁻¹) (S (src (Z.free i - d.n)).1)
       rw [szQ_neg] at m1'
       have zy := prices_sz d src zg i (by omega) (K.frm (Z.free i - d.n))
       have zSu := hKf.szS (K.frm (Z.free i - d.n))
       have m3' := szQ_mul ((K.gol : Rat)⁻¹ * S (K.frm (Z.free i - d.n))) (pricesK d src i (K.frm (Z.free i - d.n)))
       have m4' := szQ_mul ((K.gol : Rat)⁻¹) (S (K.frm (Z.free i - d.n)))
       have hmul : i * (50000 + 1) ≤ 16 * (50000 + 1) := Nat.mul_le_mul_right _ (by omega)
       refine callU_eff (zcharge_e K Z M 0 (Z.free i - d.n) (fun u => (K.gol : Rat)⁻¹ * S u * pricesK d src i u) (-(Z.g i)) (Z.D * (K.gol : Int)) _ _ _ (by omega) (by rw [hKf.frm _ hkm]; exact hsrc _ hkm) eX hnx (by omega) hf (by show (szQ ((K.gol : Rat)⁻¹ * S (K.frm (Z.free i - d.n)) * pricesK d src i (K.frm (Z.free i - d.n))) : Int) ≤ _; omega) (by omega) (by rw [szZ_neg]; omega) (by omega) (by omega)) ?_
       rw [hKf.chg _ _ hkm]
       refine aGoM (cj3 hres ty_zp hw) ?_
       repeat with_reducible intro K' hK
       refine loop_endM (i + 1) ⟨by omega, by show 0 < nx1; omega, ?_⟩ (by omega) rfl (by simp [go_sem])
       dsimp only
       rw [upd_same]
       simp only [pricesK]
       rw [if_pos (by omega), ← ei]
     · refine aGoM (cj4 hres ty_zp eX (cj4 h1 hw i0 (cj3 gf h2 lf))) ?_
       repeat with_reducible intro K' hK
       refine loop_endM (i + 1) ⟨by omega, by show 0 < nx1; omega, ?_⟩ (by omega) rfl (by simp [go_sem])
       simp only [pricesK]
       rw [if_neg (by omega)]; exact eX
   · obtain rfl : i = d.n := by omega
     have h1' : ¬ (d.n : Int) < Z.n := by omega
     refine aGoM (cj4 hres ty_zp eX (cj2 h1' lf)) ?_
     repeat with_reducible intro K' hK
     simp only [fzT, blkAt, eX, if_pos, Bool.true_or, fz_rat]
theorem zref_c (sz : ZS Z) (M r : Nat) (hr : r < d.m) (hP : d.Part) (hm : (d.m : Int) ≤ 4096) (hn : d.n ≤ 16) (hMl : (M : Int) ≤ 4096) (hsrc : ∀ i, i < d.m → (src i).1 < M) (zg : ∀ j, j < d.n → szQ (d.a r j) ≤ 50000) :
    ContractN Tryz.prog 73 [encZD K Z, dI d.n, dI M, dI r] (.sl (ratL M fun u => 1 * S u * refK d src r d.n u)) := by
 refine ContractN.ofA (fun I => ?_)
 have hres := Tryz.results73
 refine inA Tryz.func73 rfl Tryz.ntmps73 ?_
 refine aGoM (cj2 hres ty_zp) ?_
 repeat with_reducible intro K' hK
 refine callT_eff (CallA.made (ok_fB M _) (rzeros_a M _ _ hMl)) ?_
 rintro _ _ _ ⟨rfl, rfl, rfl⟩
 have lf := tab_len Z.n fun j => [dI (Z.free j)]
 have em := h.m
 have en := h.n
 have ef := h.free
 have eo : Z.own r = d.own r := congrFun h.own r
 have r0 : (0 : Int) ≤ r := by omega
 have go := tab_get (fun j => [dI (Z.own j)]) (show r < Z.m by omega)
 have ol := hP.own_lt r hr
 have hD := h.pos
 have zD := sz.D
 by_cases h0 : (Z.own r : Int) ≥ d.n
 · have hkm : Z.own r - d.n < d.m := by omega
   have hs : IntKind.i64.wrap ((Z.own r : Int) - d.n) = ((Z.own r - d.n : Nat) : Int) := (wrap_in (by omega) (by omega)).trans (by omega)
   refine aGoM (cj4 hres ty_zp go (cj4 r0 h0 hs Nat.zero_le)) ?_
   repeat with_reducible intro K' hK
   have hY0 : upd noM 0 (some (fB M fun _ => 0)) 0 = some (fB M fun _ => (0 : Rat)) := by rw [upd_same]
   have hf : Rat.divInt (Z.D * (K.scl (Z.own r - d.n) : Int)) Z.D = 1 * S (src (Z.own r - d.n)).1 * 1 := by
    refine divInt_of hD ?_
    rw [Rat.intCast_mul, Rat.intCast_natCast, hKf.scl _ hkm]
    grind
   have z0 := sz_0
   have zS := hKf.szS (src (Z.own r - d.n)).1
   have zsc := hKf.sz _ hkm
   have e1' : (1 : Rat) * S (src (Z.own r - d.n)).1 * 1 = S (src (Z.own r - d.n)).1 := by grind
   refine callU_eff (zcharge_e K Z M 0 (Z.own r - d.n) (fun _ => 0) Z.D Z.D _ _ _ (by omega) (by rw [hKf.frm _ hkm]; exact hsrc _ hkm) hY0 Nat.zero_lt_one (by omega) hf (by show (szQ 0 : Int) ≤ _; omega) (by rw [e1']; omega) (by omega) (by omega) (by omega)) ?_
   have e2 : (fun _ => (0 : Rat)) = fun u => 1 * S u * (fun _ => (0 : Rat)) u := by funext u; grind
   rw [e2, hKf.chg 1 (fun _ => 0) hkm]
   refine aGoM (cj4 hres ty_zp lf Nat.zero_le) ?_
   repeat with_reducible intro K' hK
   have e0 : chargeY src (fun _ => 0) (Z.own r - d.n) 1 = refK d src r 0 := by simp only [refK]; rw [if_pos (by omega), eo]
   refine aLoopM (fun (i : Nat) => [(0, encZD K Z), (1, dI d.n), (3, dI r), (9, .ls 0 1), (10, dI i)]) 0
    (fun i m1 nx1 => i ≤ d.n ∧ 0 < nx1 ∧ m1 0 = some (fB M fun u => 1 * S u * refK d src r i u)) (fun i => d.n - i) 0 ?_ ?_ ?_ ?_
   · exact ⟨Nat.zero_le _, Nat.zero_lt_one, by dsimp only; rw [upd_same, e0]⟩
   · rfl
   · simp [go_sem]
   · rintro i m1 nx1 ⟨hi, hnx, eX⟩
     obtain ⟨hw, i0⟩ := wrap2 i
     by_cases h1 : (i : Int) < Z.n
     · have hin : i < d.n := by omega
       have gf := tab_get (fun j => [dI (Z.free j)]) (show i < Z.n by omega)
       have fl := hP.free_lt i hin
       have ei : Z.free i = d.free i := congrFun ef i
       by_cases h2 : (Z.free i : Int) ≥ d.n
       · have hkm : Z.free i - d.n < d.m := by omega
         have gg := zl_get (Z.a r) (show i < Z.n by omega)
         have gA := tab_get (fun k => [D.sl (zL Z.n (Z.a k))]) (show r < Z.m by omega)
         have zi := sz.a r i (by omega) (by omega)
         have hs : IntKind.i64.wrap ((Z.free i : Int) - d.n) = ((Z.free i - d.n : Nat) : Int) := (wrap_in (by omega) (by omega)).trans (by omega)
         refine aGoM (cj4 hres ty_zp eX (cj4 h1 hw i0 (cj4 gf h2 gg (cj4 hs lf gA (cj2 r0 Nat.zero_le))))) ?_
         repeat with_reducible intro K' hK
         have hf : Rat.divInt (Z.a r i * (K.scl (Z.free i - d.n) : Int)) Z.D = 1 * S (src (Z.free i - d.n)).1 * d.a r i := by
          refine divInt_of hD ?_
          rw [Rat.intCast_mul, ← h.a r i hr hin, Rat.intCast_natCast, hKf.scl _ hkm]
          grind
         have zsc := hKf.sz _ hkm
         have zS := hKf.szS (src (Z.free i - d.n)).1
         have zgi := zg i hin
         have m1' := szQ_mul (1 * S (src (Z.free i - d.n)).1) (d.a r i)
         rw [Rat.one_mul] at m1'
         have zy := ref_sz d src r (B := 50000) (by decide) zg i (by omega) (K.frm (Z.free i - d.n))
         have zSu := hKf.szS (K.frm (Z.free i - d.n))
         have m3' := szQ_mul (S (K.frm (Z.free i - d.n))) (refK d src r i (K.frm (Z.free i - d.n)))
         have hmul : (i + 1) * (50000 + 1) ≤ 17 * (50000 + 1) := Nat.mul_le_mul_right _ (by omega)
         refine callU_eff (zcharge_e K Z M 0 (Z.free i - d.n) (fun u => 1 * S u * refK d src r i u) (Z.a r i) Z.D _ _ _ (by omega) (by rw [hKf.frm _ hkm]; exact hsrc _ hkm) eX hnx (by omega) hf (by show (szQ (1 * S (K.frm (Z.free i - d.n)) * refK d src r i (K.frm (Z.free i - d.n))) : Int) ≤ _; rw [Rat.one_mul]; omega) (by rw [Rat.one_mul]; omega) (by omega) (by omega) (by omega)) ?_
         rw [hKf.chg _ _ hkm]
         refine aGoM (cj3 hres ty_zp hw) ?_
         repeat with_reducible intro K' hK
         refine loop_endM (i + 1) ⟨by omega, by show 0 < nx1; omega, ?_⟩ (by omega) rfl (by simp [go_sem])
         dsimp only
         rw [upd_same]
         simp only [refK]
         rw [if_pos (by omega), ← ei]
       · refine aGoM (cj4 hres ty_zp eX (cj4 h1 hw i0 (cj3 gf h2 lf))) ?_
         repeat with_reducible intro K' hK
         refine loop_endM (i + 1) ⟨by omega, by show 0 < nx1; omega, ?_⟩ (by omega) rfl (by simp [go_sem])
         simp only [refK]
         rw [if_neg (by omega)]; exact eX
     · obtain rfl : i = d.n := by omega
       have h1' : ¬ (d.n : Int) < Z.n := by omega
       refine aGoM (cj4 hres ty_zp eX (cj2 h1' lf)) ?_
       repeat with_reducible intro K' hK
       simp only [fzT, blkAt, eX, if_pos, Bool.true_or, fz_rat]
 · refine aGoM (cj4 hres ty_zp go (cj4 r0 h0 lf Nat.zero_le)) ?_
   repeat with_reducible intro K' hK
   have e0 : (fun _ => 0) = refK d src r 0 := by simp only [refK]; rw [if_neg (by omega)]
   refine aLoopM (fun (i : Nat) => [(0, encZD K Z), (1, dI d.n), (3, dI r), (9, .ls 0 1), (10, dI i)]) 0
    (fun i m1 nx1 => i ≤ d.n ∧ 0 < nx1 ∧ m1 0 = some (fB M fun u => 1 * S u * refK d src r i u)) (fun i => d.n - i) 0 ?_ ?_ ?_ ?_
   · refine ⟨Nat.zero_le _, Nat.zero_lt_one, ?_⟩
     dsimp only
     rw [upd_same]
     have e3 : (fun u => 1 * S u * refK d src r 0 u) = fun _ => 0 := by rw [← e0]; funext u; grind
     rw [e3]
   · rfl
   · simp [go_sem]
   · rintro i m1 nx1 ⟨hi, hnx, eX⟩
     obtain ⟨hw, i0⟩ := wrap2 i
     by_cases h1 : (i : Int) < Z.n
     · have hin : i < d.n := by omega
       have gf := tab_get (fun j => [dI (Z.free j)]) (show i < Z.n by omega)
       have fl := hP.free_lt i hin
       have ei : Z.free i = d.free i := congrFun ef i
       by_cases h2 : (Z.free i : Int) ≥ d.n
       · have hkm : Z.free i - d.n < d.m := by omega
         have gg := zl_get (Z.a r) (show i < Z.n by omega)
         have gA := tab_get (fun k => [D.sl (zL Z.n (Z.a k))]) (show r < Z.m by omega)
         have zi := sz.a r i (by omega) (by omega)
         have hs : IntKind.i64.wrap ((Z.free i : Int) - d.n) = ((Z.free i - d.n : Nat) : Int) := (wrap_in (by omega) (by omega)).trans (by omega)
         refine aGoM (cj4 hres ty_zp eX (cj4 h1 hw i0 (cj4 gf h2 gg (cj4 hs lf gA (cj2 r0 Nat.zero_le))))) ?_
         repeat with_reducible intro K' hK
         have hf : Rat.divInt (Z.a r i * (K.scl (Z.free i - d.n) : Int)) Z.D = 1 * S (src (Z.free i - d.n)).1 * d.a r i := by
          refine divInt_of hD ?_
          rw [Rat.intCast_mul, ← h.a r i hr hin, Rat.intCast_natCast, hKf.scl _ hkm]
          grind
         have zsc := hKf.sz _ hkm
         have zS := hKf.szS (src (Z.free i - d.n)).1
         have zgi := zg i hin
         have m1' := szQ_mul (1 * S (src (Z.free i - d.n)).1) (d.a r i)
         rw [Rat.one_mul] at m1'
         have zy := ref_sz d src r (B := 50000) (by decide) zg i (by omega) (K.frm (Z.free i - d.n))
         have zSu := hKf.szS (K.frm (Z.free i - d.n))
         have m3' := szQ_mul (S (K.frm (Z.free i - d.n))) (refK d src r i (K.frm (Z.free i - d.n)))
         have hmul : (i + 1) * (50000 + 1) ≤ 17 * (50000 + 1) := Nat.mul_le_mul_right _ (by omega)
         refine callU_eff (zcharge_e K Z M 0 (Z.free i - d.n) (fun u => 1 * S u * refK d src r i u) (Z.a r i) Z.D _ _ _ (by omega) (by rw [hKf.frm _ hkm]; exact hsrc _ hkm) eX hnx (by omega) hf (by show (szQ (1 * S (K.frm (Z.free i - d.n)) * refK d src r i (K.frm (Z.free i - d.n))) : Int) ≤ _; rw [Rat.one_mul]; omega) (by rw [Rat.one_mul]; omega) (by omega) (by omega) (by omega)) ?_
         rw [hKf.chg _ _ hkm]
         refine aGoM (cj3 hres ty_zp hw) ?_
         repeat with_reducible intro K' hK
         refine loop_endM (i + 1) ⟨by omega, by show 0 < nx1; omega, ?_⟩ (by omega) rfl (by simp [go_sem])
         dsimp only
         rw [upd_same]
         simp only [refK]
         rw [if_pos (by omega), ← ei]
       · refine aGoM (cj4 hres ty_zp eX (cj4 h1 hw i0 (cj3 gf h2 lf))) ?_
         repeat with_reducible intro K' hK
         refine loop_endM (i + 1) ⟨by omega, by show 0 < nx1; omega, ?_⟩ (by omega) rfl (by simp [go_sem])
         simp only [refK]
         rw [if_neg (by omega)]; exact eX
     · obtain rfl : i = d.n := by omega
       have h1' : ¬ (d.n : Int) < Z.n := by omega
       refine aGoM (cj4 hres ty_zp eX (cj2 h1' lf)) ?_
       repeat with_reducible intro K' hK
       simp only [fzT, blkAt, eX, if_pos, Bool.true_or, fz_rat]
end
end Go.Proofs.YtpkdhmnlpnijhaaGreat
