/-
  The walk over data: point, ray, charge, prices, refutation, over a dictionary that nothing changes any more.
-/
import Derived.Test.YtpkdhmnlpnijhaaGreatVSimC
import Derived.Test.YtpkdhmnlpnijhaaGreatVDualP
namespace Go.Proofs.YtpkdhmnlpnijhaaGreat
set_option linter.unusedVariables false
set_option linter.unusedSimpArgs false
set_option linter.unusedSectionVars false
open Go Go.RowKit
set_option maxRecDepth 100000
set_option maxHeartbeats 16000000
def rowsE (d : Dic) : List (List D) := tabL d.m fun k => cF (ofQ (d.v k)) ++ [.sl (ratL d.n (d.a k))]
abbrev encDic (d : Dic) (src : Nat → Nat × Bool) : D :=
 .ep [[dI d.n, .sl (rowsE d), .sl (ratL d.n d.g), .sl (tabL d.m fun i => [dI (d.own i)]), .sl (tabL d.n fun j => [dI (d.free j)]), .sl (tabL d.m fun i => [dI (src i).1, dB (src i).2])]] 0 0
theorem rowsE_get (d : Dic) {k : Nat} (h : k < d.m) : (rowsE d)[k]? = some [dI (ofQ (d.v k)).p.s, encInts (ofQ (d.v k)).p.d, dI (ofQ (d.v k)).q.s, encInts (ofQ (d.v k)).q.d, .sl (ratL d.n (d.a k))] := tab_get _ h
theorem fz_rat (all : Bool) (m : Mem) (k n : Nat) (c : Nat → Rat) : (ratL n c).map (List.map (fzT all m (k + 1))) = ratL n c := by
 unfold ratL tabL
 rw [List.map_map]
 exact List.map_congr_left fun u _ => rfl
def pointK (d : Dic) : Nat → Nat → Rat
 | 0 => fun _ => 0
 | i + 1 => fun u => if d.own i < d.n ∧ u = d.own i then d.v i else pointK d i u
theorem point_set (d : Dic) {i : Nat} (h : d.own i < d.n) : (ratL d.n (pointK d i)).set (d.own i) (cF (ofQ (d.v i))) = ratL d.n (pointK d (i + 1)) := by
 rw [rat_set]
 refine rat_congr fun u _ => ?_
 simp only [pointK]
 by_cases e : u = d.own i
 · rw [if_pos e, if_pos ⟨h, e⟩]
 · rw [if_neg e, if_neg (fun h2 => e h2.2)]
theorem point_skip (d : Dic) {i : Nat} (h : ¬ d.own i < d.n) : pointK d (i + 1) = pointK d i := by
 funext u
 simp only [pointK]
 rw [if_neg (fun h2 => h h2.1)]
theorem point_c (d : Dic) (src : Nat → Nat × Bool) (hm : (d.m : Int) ≤ 4096) (hn : (d.n : Int) ≤ 4096) : ContractN Tryz.prog 64 [encDic d src] (.sl (ratL d.n (pointK d d.m))) := by
 refine ContractN.ofA (fun I => ?_)
 have hres := Tryz.results64
 refine inA Tryz.func64 rfl Tryz.ntmps64 ?_
 refine aGoM (cj2 hres ty_dp) ?_
 repeat with_reducible intro K hK
 refine callT_eff (CallA.made (ok_fB d.n _) (zeros_a d.n _ _ hn)) ?_
 rintro _ _ _ ⟨rfl, rfl, rfl⟩
 have lo := tab_len d.m fun i => [dI (d.own i)]
 refine aGoM (cj3 hres ty_dp lo) ?_
 repeat with_reducible intro K hK
 refine aLoopM (fun (i : Nat) => [(0, encDic d src), (3, .ls 0 1), (14, .sl (tabL d.m fun i => [dI (d.own i)])), (15, dI d.m), (16, dI i)]) 0
  (fun i m1 nx1 => i ≤ d.m ∧ 0 < nx1 ∧ m1 0 = some (fB d.n (pointK d i))) (fun i => d.m - i) 0 ?_ ?_ ?_ ?_
 · exact ⟨Nat.zero_le _, Nat.zero_lt_one, by dsimp only; rw [upd_same]; try rfl⟩
 · rfl
 · simp [go_sem]
 · rintro i m1 nx1 ⟨hi, hnx, eX⟩
   obtain ⟨hw, i0⟩ := wrap2 i
   by_cases h1 : (i : Int) < d.m
   · have him : i < d.m := by omega
     have go := tab_get (fun i => [dI (d.own i)]) him
     have gr := rowsE_get d him
     by_cases h2 : (d.own i : Int) < d.n
     · have es := point_set d (i := i) (by omega)
       have o0 : (0 : Int) ≤ d.own i := by omega
       have lx := rat_len d.n (pointK d i)
       have gx := rat_get (pointK d i) (n := d.n) (k := d.own i) (by omega)
       refine aGoM (cj4 hres ty_dp eX (cj4 h1 hw i0 (cj4 go gr h2 (cj4 es o0 lx (cj2 gx Nat.zero_le))))) ?_
       repeat with_reducible intro K hK
       exact loop_endM (i + 1) ⟨by omega, by show 0 < nx1; omega, by dsimp only; rw [upd_same]⟩ (by omega) rfl (by simp [go_sem])
     · refine aGoM (cj4 hres ty_dp eX (cj4 h1 hw i0 (cj2 go h2))) ?_
       repeat with_reducible intro K hK
       refine loop_endM (i + 1) ⟨by omega, by show 0 < nx1; omega, ?_⟩ (by omega) rfl (by simp [go_sem])
       rw [point_skip d (by omega)]; exact eX
   · obtain rfl : i = d.m := by omega
     refine aGoM (cj4 hres ty_dp eX h1) ?_
     repeat with_reducible intro K hK
     simp only [fzT, blkAt, eX, if_pos, Bool.true_or, fz_rat]
def rayK (d : Dic) (s : Nat) : Nat → Nat → Rat
 | 0 => fun u => if d.free s < d.n ∧ u = d.free s then 1 else 0
 | i + 1 => fun u => if d.own i < d.n ∧ u = d.own i then -d.a i s else rayK d s i u
theorem ray_set (d : Dic) (s : Nat) {i : Nat} (h : d.own i < d.n) : (ratL d.n (rayK d s i)).set (d.own i) (cF (ofQ (-d.a i s))) = ratL d.n (rayK d s (i + 1)) := by
 rw [rat_set]
 refine rat_congr fun u _ => ?_
 simp only [rayK]
 by_cases e : u = d.own i
 · rw [if_pos e, if_pos ⟨h, e⟩]
 · rw [if_neg e, if_neg (fun h2 => e h2.2)]
theorem ray_skip (d : Dic) (s : Nat) {i : Nat} (h : ¬ d.own i < d.n) : rayK d s (i + 1) = rayK d s i := by
 funext u
 simp only [rayK]
 rw [if_neg (fun h2 => h h2.1)]
theorem ray_one (d : Dic) {s : Nat} (h : d.free s < d.n) : (ratL d.n (fun _ => 0)).set (d.free s) (cF (ofQ 1)) = ratL d.n (rayK d s 0) := by
 rw [rat_set]
 refine rat_congr fun u _ => ?_
 simp only [rayK]
 by_cases e : u = d.free s
 · rw [if_pos e, if_pos ⟨h, e⟩]
 · rw [if_neg e, if_neg (fun h2 => e h2.2)]
theorem ray_none (d : Dic) {s : Nat} (h : ¬ d.free s < d.n) : ratL d.n (fun _ => (0 : Rat)) = ratL d.n (rayK d s 0) :=
 rat_congr fun u _ => by simp only [rayK]; rw [if_neg (fun h2 => h h2.1)]
theorem ray_c (d : Dic) (src : Nat → Nat × Bool) {s : Nat} (hs : s < d.n) (hm : (d.m : Int) ≤ 4096) (hn : (d.n : Int) ≤ 4096) (za : ∀ i, i < d.m → (szQ (d.a i s) : Int) ≤ 536870912) :
    ContractN Tryz.prog 65 [encDic d src, dI s] (.sl (ratL d.n (rayK d s d.m))) := by
 refine ContractN.ofA (fun I => ?_)
 have hres := Tryz.results65
 refine inA Tryz.func65 rfl Tryz.ntmps65 ?_
 have s0 : (0 : Int) ≤ s := by omega
 refine aGoM (cj3 hres ty_dp s0) ?_
 repeat with_reducible intro K hK
 refine callT_eff (CallA.made (ok_fB d.n _) (zeros_a d.n _ _ hn)) ?_
 rintro _ _ _ ⟨rfl, rfl, rfl⟩
 have lo := tab_len d.m fun i => [dI (d.own i)]
 have gf := tab_get (fun j => [dI (d.free j)]) hs
 have k1 := nO_c
 by_cases h0 : (d.free s : Int) < d.n
 · have e1 := ray_one d (s := s) (by omega)
   have f0 : (0 : Int) ≤ d.free s := by omega
   have lz := rat_len d.n fun _ => 0
   have gz := rat_get (fun _ => 0) (n := d.n) (k := d.free s) (by omega)
   refine aGoM (cj4 hres ty_dp lo (cj4 gf s0 h0 (cj4 e1 f0 lz (cj3 gz k1 Nat.zero_le)))) ?_
   repeat with_reducible intro K hK
   refine aLoopM (fun (i : Nat) => [(0, encDic d src), (1, dI s), (5, .ls 0 1), (34, .sl (tabL d.m fun i => [dI (d.own i)])), (35, dI d.m), (36, dI i)]) 0
    (fun i m1 nx1 => i ≤ d.m ∧ 0 < nx1 ∧ m1 0 = some (fB d.n (rayK d s i))) (fun i => d.m - i) 0 ?_ ?_ ?_ ?_
   · exact ⟨Nat.zero_le _, Nat.zero_lt_one, by dsimp only; rw [upd_same]; try rfl⟩
   · rfl
   · simp [go_sem]
   · rintro i m1 nx1 ⟨hi, hnx, eX⟩
     obtain ⟨hw, i0⟩ := wrap2 i
     by_cases h1 : (i : Int) < d.m
     · have him : i < d.m := by omega
       have go := tab_get (fun i => [dI (d.own i)]) him
       have gr := rowsE_get d him
       by_cases h2 : (d.own i : Int) < d.n
       · have es := ray_set d s (i := i) (by omega)
         have o0 : (0 : Int) ≤ d.own i := by omega
         have lx := rat_len d.n (rayK d s i)
         have gx := rat_get (rayK d s i) (n := d.n) (k := d.own i) (by omega)
         have ga := rat_get (d.a i) hs
         have zz := za i him
         have k2 := nneg_c (d.a i s) (by omega)
         refine aGoM (cj4 hres ty_dp eX (cj4 h1 hw i0 (cj4 go gr h2 (cj4 es o0 lx (cj4 gx ga k2 (cj2 s0 Nat.zero_le)))))) ?_
         repeat with_reducible intro K hK
         exact loop_endM (i + 1) ⟨by omega, by show 0 < nx1; omega, by dsimp only; rw [upd_same]⟩ (by omega) rfl (by simp [go_sem])
       · refine aGoM (cj4 hres ty_dp eX (cj4 h1 hw i0 (cj2 go h2))) ?_
         repeat with_reducible intro K hK
         refine loop_endM (i + 1) ⟨by omega, by show 0 < nx1; omega, ?_⟩ (by omega) rfl (by simp [go_sem])
         rw [ray_skip d s (by omega)]; exact eX
     · obtain rfl : i = d.m := by omega
       refine aGoM (cj4 hres ty_dp eX h1) ?_
       repeat with_reducible intro K hK
       simp only [fzT, blkAt, eX, if_pos, Bool.true_or, fz_rat]
 · have e1 := ray_none d (s := s) (by omega)
   refine aGoM (cj4 hres ty_dp lo (cj4 gf s0 h0 (cj2 k1 Nat.zero_le))) ?_
   repeat with_reducible intro K hK
   refine aLoopM (fun (i : Nat) => [(0, encDic d src), (1, dI s), (5, .ls 0 1), (34, .sl (tabL d.m fun i => [dI (d.own i)])), (35, dI d.m), (36, dI i)]) 0
    (fun i m1 nx1 => i ≤ d.m ∧ 0 < nx1 ∧ m1 0 = some (fB d.n (rayK d s i))) (fun i => d.m - i) 0 ?_ ?_ ?_ ?_
   · refine ⟨Nat.zero_le _, Nat.zero_lt_one, ?_⟩
     dsimp only
     rw [upd_same]
     unfold fB; rw [e1]
   · rfl
   · simp [go_sem]
   · rintro i m1 nx1 ⟨hi, hnx, eX⟩
     obtain ⟨hw, i0⟩ := wrap2 i
     by_cases h1 : (i : Int) < d.m
     · have him : i < d.m := by omega
       have go := tab_get (fun i => [dI (d.own i)]) him
       have gr := rowsE_get d him
       by_cases h2 : (d.own i : Int) < d.n
       · have es := ray_set d s (i := i) (by omega)
         have o0 : (0 : Int) ≤ d.own i := by omega
         have lx := rat_len d.n (rayK d s i)
         have gx := rat_get (rayK d s i) (n := d.n) (k := d.own i) (by omega)
         have ga := rat_get (d.a i) hs
         have zz := za i him
         have k2 := nneg_c (d.a i s) (by omega)
         refine aGoM (cj4 hres ty_dp eX (cj4 h1 hw i0 (cj4 go gr h2 (cj4 es o0 lx (cj4 gx ga k2 (cj2 s0 Nat.zero_le)))))) ?_
         repeat with_reducible intro K hK
         exact loop_endM (i + 1) ⟨by omega, by show 0 < nx1; omega, by dsimp only; rw [upd_same]⟩ (by omega) rfl (by simp [go_sem])
       · refine aGoM (cj4 hres ty_dp eX (cj4 h1 hw i0 (cj2 go h2))) ?_
         repeat with_reducible intro K hK
         refine loop_endM (i + 1) ⟨by omega, by show 0 < nx1; omega, ?_⟩ (by omega) rfl (by simp [go_sem])
         rw [ray_skip d s (by omega)]; exact eX
     · obtain rfl : i = d.m := by omega
       refine aGoM (cj4 hres ty_dp eX h1) ?_
       repeat with_reducible intro K hK
       simp only [fzT, blkAt, eX, if_pos, Bool.true_or, fz_rat]
theorem sz_0 : szQ 0 ≤ 1 := by decide +kernel
theorem sz_1 : szQ 1 ≤ 1 := by decide +kernel
def chargeY (src : Nat → Nat × Bool) (y : Nat → Rat) (k : Nat) (p : Rat) : Nat → Rat := fun u => if u = (src k).1 then y u + (if (src k).2 then p else -p) else y u
theorem charge_set (src : Nat → Nat × Bool) (y : Nat → Rat) (k : Nat) (p : Rat) (M : Nat) {q : Rat} (hq : q = if (src k).2 then p else -p) : (ratL M y).set (src k).1 (cF (ofQ (y (src k).1 + q))) = ratL M (chargeY src y k p) := by
 subst hq
 rw [rat_set]
 refine rat_congr fun u _ => ?_
 unfold chargeY
 by_cases e : u = (src k).1
 · rw [if_pos e, if_pos e, e]
 · rw [if_neg e, if_neg e]
theorem charge_a [Ifl] (d : Dic) (src : Nat → Nat × Bool) (M Y k : Nat) (y : Nat → Rat) (p : Rat) (m : Mem) (nx : Nat) (hk : k < d.m) (hM : (src k).1 < M) (hY : m Y = some (fB M y)) (zy : (szQ (y (src k).1) : Int) ≤ 549755813888) (zp : (szQ p : Int) ≤ 4294967296) :
    CallA Tryz.prog 155 [encDic d src, .ls Y 1, dI k, encF (ofQ p)] m nx fun d' m' nx' => d' = oneD [] ∧ nx ≤ nx' ∧ m' Y = some (fB M (chargeY src y k p)) ∧ ∀ id, id < nx → id ≠ Y → m' id = m id := by
 refine CallA.cl ⟨_, _, Tryz.func155, rfl, by kernel_rfl⟩ fun hcl => ?_
 have hres := Tryz.results155
 have lY := (hcl Y _ hY).1
 refine inA Tryz.func155 rfl Tryz.ntmps155 ?_
 have gs := tab_get (fun i => [dI (src i).1, dB (src i).2]) hk
 have k0 : (0 : Int) ≤ k := by omega
 have s0 : (0 : Int) ≤ (src k).1 := by omega
 have gy := rat_get y hM
 have ly := rat_len M y
 have n1 : Y ≠ nx := by omega
 have n2 : Y ≠ nx + 1 := by omega
 have n3 : nx ≠ nx + 1 := by omega
 have n4 : nx + 1 ≠ nx := by omega
 have np : (szQ (-p) : Int) ≤ 4294967296 := by rw [szQ_neg]; exact zp
 cases ht : (src k).2 with
 | true =>
   have k2 := nadd_c (y (src k).1) p (by omega) (by omega)
   have es := charge_set src y k p M (q := p) (by rw [ht]; rfl)
   rw [ht] at gs
   refine aGoS (cj4 hres ty_dp hY (cj4 gs k0 s0 (cj4 gy ly n1 (cj4 n2 n3 k2 (cj2 es Nat.zero_le))))) ?_
   repeat with_reducible intro K hK
   with_reducible apply useE
   with_reducible assumption
   exact race_list [nx, nx + 1, Y] (by simp [n1.symm, n2.symm]) [([], []), ([], []), ([1], []), ([], []), ([], []), ([1], []), ([2], []), ([2], []), ([0], []), ([], []), ([], []), ([], []), ([], []), ([2], []), ([2, 2], [2])] rfl rfl (by kernel_rfl)
   exact intsOk_no rfl
   refine aGoM (cj3 hres n1 n2) ?_
   exact fun id g1 g2 => by repeat (rw [if_neg (by omega)])
 | false =>
   have k1 := nneg_c p (by omega)
   have k2 := nadd_c (y (src k).1) (-p) (by omega) (by omega)
   have es := charge_set src y k p M (q := -p) (by rw [ht]; rfl)
   rw [ht] at gs
   refine aGoS (cj4 hres ty_dp hY (cj4 gs k0 s0 (cj4 gy ly n1 (cj4 n2 n3 k2 (cj4 es k1 n4 Nat.zero_le))))) ?_
   repeat with_reducible intro K hK
   with_reducible apply useE
   with_reducible assumption
   exact race_list [nx, nx + 1, Y] (by simp [n1.symm, n2.symm]) [([], []), ([], []), ([1], []), ([], []), ([], []), ([1], []), ([2], []), ([2], []), ([0], []), ([], []), ([], []), ([], []), ([], []), ([2], []), ([2, 2], [2])] rfl rfl (by kernel_rfl)
   exact intsOk_no rfl
   refine aGoM (cj3 hres n1 n2) ?_
   exact fun id g1 g2 => by repeat (rw [if_neg (by omega)])
theorem charge_e [Ifl] (d : Dic) (src : Nat → Nat × Bool) (M Y k : Nat) (y : Nat → Rat) (p : Rat) (m : Mem) (nx : Nat) (hk : k < d.m) (hM : (src k).1 < M) (hY : m Y = some (fB M y)) (hl : Y < nx) (zy : (szQ (y (src k).1) : Int) ≤ 549755813888) (zp : (szQ p : Int) ≤ 4294967296) :
    EffC Tryz.prog 155 [encDic d src, .ls Y 1, dI k, encF (ofQ p)] m nx ⟨oneD [], [Y], [(Y, fB M (chargeY src y k p))], false⟩ nx :=
 EffC.of ⟨_, _, Tryz.func155, rfl, by kernel_rfl⟩ (fun q hq => by simp only [List.mem_singleton] at hq; subst hq; exact ⟨by simp, hl⟩) fun m1 NX hN ht =>
  CallA.kept ((ht Y (by simp)).trans hY) rfl (ok_fB M _) (charge_a d src M Y k y p m1 NX hk hM ((ht Y (by simp)).trans hY) zy zp)
def pricesK (d : Dic) (src : Nat → Nat × Bool) : Nat → Nat → Rat
 | 0 => fun _ => 0
 | j + 1 => if d.n ≤ d.free j then chargeY src (pricesK d src j) (d.free j - d.n) (-d.g j) else pricesK d src j
theorem charge_sz (src : Nat → Nat × Bool) (y : Nat → Rat) (k : Nat) (p : Rat) {Z B : Nat} (hy : ∀ u, szQ (y u) ≤ Z) (hp : szQ p ≤ B) (u : Nat) : szQ (chargeY src y k p u) ≤ Z + (B + 1) := by
 unfold chargeY
 split
 · have h1 := szQ_add (y u) (if (src k).2 then p else -p)
   have h2 : szQ (if (src k).2 then p else -p) = szQ p := by split; rfl; exact szQ_neg p
   have := hy u
   omega
 · have := hy u; omega
theorem prices_sz (d : Dic) (src : Nat → Nat × Bool) {B : Nat} (hg : ∀ j, j < d.n → szQ (d.g j) ≤ B) : ∀ j, j ≤ d.n → ∀ u, szQ (pricesK d src j u) ≤ 1 + j * (B + 1)
 | 0, _, u => by have : szQ 0 ≤ 1 := by decide +kernel
                 simp only [pricesK]; omega
 | j + 1, hj, u => by
   have ih := prices_sz d src hg j (by omega)
   rw [Nat.add_mul, Nat.one_mul, ← Nat.add_assoc]
   simp only [pricesK]
   split
   · exact charge_sz src _ _ _ ih (by rw [szQ_neg]; exact hg j (by omega)) u
   · have := ih u; omega
theorem prices_c (d : Dic) (src : Nat → Nat × Bool) (M : Nat) (hm : (d.m : Int) ≤ 4096) (hn : (d.n : Int) ≤ 1500) (hMl : (M : Int) ≤ 4096) (hfree : ∀ j, j < d.n → d.free j < d.n + d.m) (hsrc : ∀ i, i < d.m → (src i).1 < M) (zg : ∀ j, j < d.n → szQ (d.g j) ≤ 268435456) :
    ContractN Tryz.prog 68 [encDic d src, dI M] (.sl (ratL M (pricesK d src d.n))) := by
 refine ContractN.ofA (fun I => ?_)
 have hres := Tryz.results68
 refine inA Tryz.func68 rfl Tryz.ntmps68 ?_
 refine aGoM (cj2 hres ty_dp) ?_
 repeat with_reducible intro K hK
 refine callT_eff (CallA.made (ok_fB M _) (zeros_a M _ _ hMl)) ?_
 rintro _ _ _ ⟨rfl, rfl, rfl⟩
 have lf := tab_len d.n fun j => [dI (d.free j)]
 refine aGoM (cj3 hres ty_dp lf) ?_
 repeat with_reducible intro K hK
 refine aLoopM (fun (i : Nat) => [(0, encDic d src), (5, .ls 0 1), (13, .sl (tabL d.n fun j => [dI (d.free j)])), (14, dI d.n), (15, dI i)]) 0
  (fun i m1 nx1 => i ≤ d.n ∧ 0 < nx1 ∧ m1 0 = some (fB M (pricesK d src i))) (fun i => d.n - i) 0 ?_ ?_ ?_ ?_
 · exact ⟨Nat.zero_le _, Nat.zero_lt_one, by dsimp only; rw [upd_same]; try rfl⟩
 · rfl
 · simp [go_sem]
 · rintro i m1 nx1 ⟨hi, hnx, eX⟩
   obtain ⟨hw, i0⟩ := wrap2 i
   by_cases h1 : (i : Int) < d.n
   · have hin : i < d.n := by omega
     have gf := tab_get (fun j => [dI (d.free j)]) hin
     have fl := hfree i hin
     by_cases h2 : (d.n : Int) ≤ d.free i
     · have gg := rat_get d.g hin
       have zi := zg i hin
       have k1 := nneg_c (d.g i) (by omega)
       have hs : IntKind.i64.wrap ((d.free i : Int) - d.n) = ((d.free i - d.n : Nat) : Int) := (wrap_in (by omega) (by omega)).trans (by omega)
       refine aGoM (cj4 hres ty_dp eX (cj4 h1 hw i0 (cj4 gf h2 gg (cj3 k1 hs Nat.zero_le)))) ?_
       repeat with_reducible intro K hK
       have zy := prices_sz d src zg i hi (src (d.free i - d.n)).1
       have hmul : i * (268435456 + 1) ≤ 1500 * (268435456 + 1) := Nat.mul_le_mul_right _ (by omega)
       refine callU_eff (charge_e d src M 0 (d.free i - d.n) (pricesK d src i) (-d.g i) _ _ (by omega) (hsrc _ (by omega)) eX hnx (by have := Int.ofNat_le.2 (Nat.le_trans zy (Nat.add_le_add_left hmul 1)); omega) (by rw [szQ_neg]; omega)) ?_
       refine aGoM (cj3 hres ty_dp hw) ?_
       repeat with_reducible intro K hK
       refine loop_endM (i + 1) ⟨by omega, by show 0 < nx1; omega, ?_⟩ (by omega) rfl (by simp [go_sem])
       dsimp only
       rw [upd_same]
       simp only [pricesK]
       rw [if_pos (by omega)]
     · refine aGoM (cj4 hres ty_dp eX (cj4 h1 hw i0 (cj2 gf h2))) ?_
       repeat with_reducible intro K hK
       refine loop_endM (i + 1) ⟨by omega, by show 0 < nx1; omega, ?_⟩ (by omega) rfl (by simp [go_sem])
       simp only [pricesK]
       rw [if_neg (by omega)]; exact eX
   · obtain rfl : i = d.n := by omega
     refine aGoM (cj4 hres ty_dp eX h1) ?_
     repeat with_reducible intro K hK
     simp only [fzT, blkAt, eX, if_pos, Bool.true_or, fz_rat]
def refK (d : Dic) (src : Nat → Nat × Bool) (r : Nat) : Nat → Nat → Rat
 | 0 => if d.n ≤ d.own r then chargeY src (fun _ => 0) (d.own r - d.n) 1 else fun _ => 0
 | j + 1 => if d.n ≤ d.free j then chargeY src (refK d src r j) (d.free j - d.n) (d.a r j) else refK d src r j
theorem ref_sz (d : Dic) (src : Nat → Nat × Bool) (r : Nat) {B : Nat} (hB : 1 ≤ B) (hg : ∀ j, j < d.n → szQ (d.a r j) ≤ B) : ∀ j, j ≤ d.n → ∀ u, szQ (refK d src r j u) ≤ 1 + (j + 1) * (B + 1)
 | 0, _, u => by
   have h0 : ∀ u : Nat, szQ ((fun _ => 0 : Nat → Rat) u) ≤ 1 := fun _ => sz_0
   have h1 : szQ 1 ≤ B := Nat.le_trans sz_1 hB
   simp only [refK]
   split
   · have := charge_sz src (fun _ => 0) (d.own r - d.n) 1 h0 h1 u; omega
   · have : szQ ((fun _ => 0 : Nat → Rat) u) ≤ 1 := sz_0
     omega
 | j + 1, hj, u => by
   have ih := ref_sz d src r hB hg j (by omega)
   rw [Nat.add_mul (j + 1) 1, Nat.one_mul, ← Nat.add_assoc]
   simp only [refK]
   split
   · exact charge_sz src _ _ _ ih (hg j (by omega)) u
   · have := ih u; omega
theorem refutation_c (d : Dic) (src : Nat → Nat × Bool) (M r : Nat) (hr : r < d.m) (hm : (d.m : Int) ≤ 4096) (hn : (d.n : Int) ≤ 1500) (hMl : (M : Int) ≤ 4096) (hown : d.own r < d.n + d.m) (hfree : ∀ j, j < d.n → d.free j < d.n + d.m) (hsrc : ∀ i, i < d.m → (src i).1 < M) (zg : ∀ j, j < d.n → szQ (d.a r j) ≤ 268435456) :
    ContractN Tryz.prog 66 [encDic d src, dI M, dI r] (.sl (ratL M (refK d src r d.n))) := by
 refine ContractN.ofA (fun I => ?_)
 have hres := Tryz.results66
 refine inA Tryz.func66 rfl Tryz.ntmps66 ?_
 have r0 : (0 : Int) ≤ r := by omega
 have gr := rowsE_get d hr
 have go := tab_get (fun i => [dI (d.own i)]) hr
 have lf := tab_len d.n fun j => [dI (d.free j)]
 have k1 := nO_c
 refine aGoM (cj3 hres ty_dp r0) ?_
 repeat with_reducible intro K hK
 refine callT_eff (CallA.made (ok_fB M _) (zeros_a M _ _ hMl)) ?_
 rintro _ _ _ ⟨rfl, rfl, rfl⟩
 by_cases h0 : (d.n : Int) ≤ d.own r
 · have hs : IntKind.i64.wrap ((d.own r : Int) - d.n) = ((d.own r - d.n : Nat) : Int) := (wrap_in (by omega) (by omega)).trans (by omega)
   refine aGoM (cj4 hres ty_dp lf (cj4 go r0 h0 (cj3 k1 hs Nat.zero_le))) ?_
   repeat with_reducible intro K hK
   have hY0 : upd noM 0 (some (fB M fun _ => 0)) 0 = some (fB M fun _ => (0 : Rat)) := by rw [upd_same]
   have z0 := sz_0
   have z1 := sz_1
   refine callU_eff (charge_e d src M 0 (d.own r - d.n) (fun _ => 0) 1 _ _ (by omega) (hsrc _ (by omega)) hY0 Nat.zero_lt_one (by show (szQ 0 : Int) ≤ _; omega) (by omega)) ?_
   refine aGoM (cj4 hres ty_dp lf (cj2 r0 Nat.zero_le)) ?_
   repeat with_reducible intro K hK
   have e0 : chargeY src (fun _ => 0) (d.own r - d.n) 1 = refK d src r 0 := by simp only [refK]; rw [if_pos (by omega)]
   refine aLoopM (fun (i : Nat) => [(0, encDic d src), (2, dI r), (7, .ls 0 1), (39, .sl (tabL d.n fun j => [dI (d.free j)])), (40, dI d.n), (41, dI i)]) 0
    (fun i m1 nx1 => i ≤ d.n ∧ 0 < nx1 ∧ m1 0 = some (fB M (refK d src r i))) (fun i => d.n - i) 0 ?_ ?_ ?_ ?_
   · exact ⟨Nat.zero_le _, Nat.zero_lt_one, by dsimp only; rw [upd_same, e0]⟩
   · rfl
   · simp [go_sem]
   · rintro i m1 nx1 ⟨hi, hnx, eX⟩
     obtain ⟨hw, i0⟩ := wrap2 i
     by_cases h1 : (i : Int) < d.n
     · have hin : i < d.n := by omega
       have gf := tab_get (fun j => [dI (d.free j)]) hin
       have fl := hfree i hin
       by_cases h2 : (d.n : Int) ≤ d.free i
       · have gg := rat_get (d.a r) hin
         have zi := zg i hin
         have hs : IntKind.i64.wrap ((d.free i : Int) - d.n) = ((d.free i - d.n : Nat) : Int) := (wrap_in (by omega) (by omega)).trans (by omega)
         refine aGoM (cj4 hres ty_dp eX (cj4 h1 hw i0 (cj4 gf h2 gg (cj4 hs gr r0 Nat.zero_le)))) ?_
         repeat with_reducible intro K hK
         have zy := ref_sz d src r (B := 268435456) (by decide) zg i hi (src (d.free i - d.n)).1
         have hmul : (i + 1) * (268435456 + 1) ≤ 1500 * (268435456 + 1) := Nat.mul_le_mul_right _ (by omega)
         refine callU_eff (charge_e d src M 0 (d.free i - d.n) (refK d src r i) (d.a r i) _ _ (by omega) (hsrc _ (by omega)) eX hnx (by have := Int.ofNat_le.2 (Nat.le_trans zy (Nat.add_le_add_left hmul 1)); omega) (by omega)) ?_
         refine aGoM (cj3 hres ty_dp hw) ?_
         repeat with_reducible intro K hK
         refine loop_endM (i + 1) ⟨by omega, by show 0 < nx1; omega, ?_⟩ (by omega) rfl (by simp [go_sem])
         dsimp only
         rw [upd_same]
         simp only [refK]
         rw [if_pos (by omega)]
       · refine aGoM (cj4 hres ty_dp eX (cj4 h1 hw i0 (cj2 gf h2))) ?_
         repeat with_reducible intro K hK
         refine loop_endM (i + 1) ⟨by omega, by show 0 < nx1; omega, ?_⟩ (by omega) rfl (by simp [go_sem])
         simp only [refK]
         rw [if_neg (by omega)]; exact eX
     · obtain rfl : i = d.n := by omega
       refine aGoM (cj4 hres ty_dp eX h1) ?_
       repeat with_reducible intro K hK
       simp only [fzT, blkAt, eX, if_pos, Bool.true_or, fz_rat]
 · refine aGoM (cj4 hres ty_dp lf (cj4 go r0 h0 (cj2 k1 Nat.zero_le))) ?_
   repeat with_reducible intro K hK
   have e0 : (fun _ => 0) = refK d src r 0 := by simp only [refK]; rw [if_neg (by omega)]
   refine aLoopM (fun (i : Nat) => [(0, encDic d src), (2, dI r), (7, .ls 0 1), (39, .sl (tabL d.n fun j => [dI (d.free j)])), (40, dI d.n), (41, dI i)]) 0
    (fun i m1 nx1 => i ≤ d.n ∧ 0 < nx1 ∧ m1 0 = some (fB M (refK d src r i))) (fun i => d.n - i) 0 ?_ ?_ ?_ ?_
   · exact ⟨Nat.zero_le _, Nat.zero_lt_one, by dsimp only; rw [upd_same, e0]⟩
   · rfl
   · simp [go_sem]
   · rintro i m1 nx1 ⟨hi, hnx, eX⟩
     obtain ⟨hw, i0⟩ := wrap2 i
     by_cases h1 : (i : Int) < d.n
     · have hin : i < d.n := by omega
       have gf := tab_get (fun j => [dI (d.free j)]) hin
       have fl := hfree i hin
       by_cases h2 : (d.n : Int) ≤ d.free i
       · have gg := rat_get (d.a r) hin
         have zi := zg i hin
         have hs : IntKind.i64.wrap ((d.free i : Int) - d.n) = ((d.free i - d.n : Nat) : Int) := (wrap_in (by omega) (by omega)).trans (by omega)
         refine aGoM (cj4 hres ty_dp eX (cj4 h1 hw i0 (cj4 gf h2 gg (cj4 hs gr r0 Nat.zero_le)))) ?_
         repeat with_reducible intro K hK
         have zy := ref_sz d src r (B := 268435456) (by decide) zg i hi (src (d.free i - d.n)).1
         have hmul : (i + 1) * (268435456 + 1) ≤ 1500 * (268435456 + 1) := Nat.mul_le_mul_right _ (by omega)
         refine callU_eff (charge_e d src M 0 (d.free i - d.n) (refK d src r i) (d.a r i) _ _ (by omega) (hsrc _ (by omega)) eX hnx (by have := Int.ofNat_le.2 (Nat.le_trans zy (Nat.add_le_add_left hmul 1)); omega) (by omega)) ?_
         refine aGoM (cj3 hres ty_dp hw) ?_
         repeat with_reducible intro K hK
         refine loop_endM (i + 1) ⟨by omega, by show 0 < nx1; omega, ?_⟩ (by omega) rfl (by simp [go_sem])
         dsimp only
         rw [upd_same]
         simp only [refK]
         rw [if_pos (by omega)]
       · refine aGoM (cj4 hres ty_dp eX (cj4 h1 hw i0 (cj2 gf h2))) ?_
         repeat with_reducible intro K hK
         refine loop_endM (i + 1) ⟨by omega, by show 0 < nx1; omega, ?_⟩ (by omega) rfl (by simp [go_sem])
         simp only [refK]
         rw [if_neg (by omega)]; exact eX
     · obtain rfl : i = d.n := by omega
       refine aGoM (cj4 hres ty_dp eX h1) ?_
       repeat with_reducible intro K hK
       simp only [fzT, blkAt, eX, if_pos, Bool.true_or, fz_rat]
theorem kill_get : ∀ (l : List Nat) (m : Mem) (id : Nat) (b : Blk), m id = some b → ov m (killW l m) id = some (if id ∈ l then { b with dead := true } else b)
 | [], m, id, b, h => by simp only [killW, ov, h, List.not_mem_nil, if_false]
 | x :: l, m, id, b, h => by
   by_cases e : x = id
   · subst e
     simp only [killW, h, ov]
     rw [kill_get l _ x { b with dead := true } (upd_same _ _ _)]
     simp only [List.mem_cons, true_or, if_true, ite_self]
   · simp only [killW]
     cases hx : m x with
     | none =>
       simp only
       rw [kill_get l m id b h]
       simp only [List.mem_cons, Ne.symm e, false_or]
     | some c =>
       simp only [ov]
       rw [kill_get l _ id b ((upd_ne _ _ (Ne.symm e)).trans h)]
       simp only [List.mem_cons, Ne.symm e, false_or]
def idsL (I : Ids) (m : Nat) : List Nat := [I.p, I.R, I.G, I.O, I.Fr, I.F] ++ (List.range m).map I.A
theorem mem_idsL {I : Ids} {m id : Nat} : id ∈ idsL I m ↔ inD I m id := by
 unfold idsL inD
 simp only [List.mem_append, List.mem_cons, List.not_mem_nil, or_false, List.mem_map, List.mem_range]
 constructor
 · rintro ((h | h | h | h | h | h) | ⟨k, hk, rfl⟩)
   · exact .inl h
   · exact .inr (.inl h)
   · exact .inr (.inr (.inl h))
   · exact .inr (.inr (.inr (.inl h)))
   · exact .inr (.inr (.inr (.inr (.inl h))))
   · exact .inr (.inr (.inr (.inr (.inr (.inl h)))))
   · exact .inr (.inr (.inr (.inr (.inr (.inr ⟨k, hk, rfl⟩)))))
 · rintro (h | h | h | h | h | h | ⟨k, hk, rfl⟩)
   · exact .inl (.inl h)
   · exact .inl (.inr (.inl h))
   · exact .inl (.inr (.inr (.inl h)))
   · exact .inl (.inr (.inr (.inr (.inl h))))
   · exact .inl (.inr (.inr (.inr (.inr (.inl h)))))
   · exact .inl (.inr (.inr (.inr (.inr (.inr h)))))
   · exact .inr ⟨k, hk, rfl⟩
theorem fz_dic {m M : Mem} {I : Ids} {d : Dic} {src : Nat → Nat × Bool} (h : DicAt m I d src) (hd : ∀ id, inD I d.m id → ∀ b, m id = some b → M id = some { b with dead := true }) : fzT false M 7 (.lp I.p 0 0 0) = encDic d src := by
 have hp := hd _ (.inl rfl) _ h.hp
 have hR := hd _ (.inr (.inl rfl)) _ h.hR
 have hG := hd _ (.inr (.inr (.inl rfl))) _ h.hG
 have hO := hd _ (.inr (.inr (.inr (.inl rfl)))) _ h.hO
 have hFr := hd _ (.inr (.inr (.inr (.inr (.inl rfl))))) _ h.hFr
 have hF := hd _ (.inr (.inr (.inr (.inr (.inr (.inl rfl)))))) _ h.hF
 have hA := fun k hk => hd _ (.inr (.inr (.inr (.inr (.inr (.inr ⟨k, hk, rfl⟩)))))) _ (h.hA k hk)
 have er : (rowsL I d.m d.v).map (List.map (fzT false M 5)) = rowsE d := by
  unfold rowsL rowsE tabL
  rw [List.map_map]
  refine List.map_congr_left fun k hk => ?_
  have hk := List.mem_range.1 hk
  simp only [Function.comp, List.map_append, List.map_cons, List.map_nil, fzT, blkAt, hA k hk, if_pos, Bool.false_or, fz_rat]
 have eo : (tabL d.m fun i => [dI (d.own i : Int)]).map (List.map (fzT false M 5)) = tabL d.m fun i => [dI (d.own i : Int)] := by
  unfold tabL; rw [List.map_map]; exact List.map_congr_left fun u _ => rfl
 have ef : (tabL d.n fun i => [dI (d.free i : Int)]).map (List.map (fzT false M 5)) = tabL d.n fun i => [dI (d.free i : Int)] := by
  unfold tabL; rw [List.map_map]; exact List.map_congr_left fun u _ => rfl
 have es : (tabL d.m fun i => [dI ((src i).1 : Int), dB (src i).2]).map (List.map (fzT false M 5)) = tabL d.m fun i => [dI ((src i).1 : Int), dB (src i).2] := by
  unfold tabL; rw [List.map_map]; exact List.map_congr_left fun u _ => rfl
 simp only [fzT, blkAt, hp, hR, hG, hO, hFr, hF, if_pos, Bool.false_or, List.map_cons, List.map_nil, fz_rat, er, eo, ef, es]
theorem le_freeze [Ifl] {s : St} {I : Ids} {d : Dic} {src : Nat → Nat × Bool} (h : DicAt s.m I d src) (k : Nat) (hk : s.t k = .lp I.p 0 0 0) (l : List (Nat × D)) (M : Mem) (n' : Nat) (hM : ∀ id b, M id = some b → s.m id = some b ∧ id < n' ∧ ¬ inD I d.m id)
    (hc : ∀ id b, M id = some b → okBlk (fun i => (M i).isSome) b) (ht : ∀ p ∈ l, p.1 ≠ k ∧ s.t p.1 = p.2 ∧ okD (fun i => (M i).isSome) p.2 = true) (hlo : s.lo = 0) : StLe s ⟨tabT ((k, encDic d src) :: l), M, n', 0⟩ := by
 refine (le_killL (idsL I d.m)).trans ?_
 refine (le_temp k 7).trans ?_
 have e : fzT false (ov s.m (killW (idsL I d.m) s.m)) 7 (s.t k) = encDic d src := by
  rw [hk]
  exact fz_dic h fun id hi b hb => by rw [kill_get _ _ _ _ hb, if_pos (mem_idsL.2 hi)]
 rw [← hlo]
 refine le_sub _ M n' ⟨fun id b hb => ?_, hc⟩ (fun p hp => ?_) (fun p hp => ?_) (fun id hi => ?_)
 · obtain ⟨h1, h2, h3⟩ := hM id b hb
   refine ⟨?_, h2⟩
   show ov s.m (killW (idsL I d.m) s.m) id = some b
   rw [kill_get _ _ _ _ h1, if_neg fun h4 => h3 (mem_idsL.1 h4)]
 · rcases List.mem_cons.1 hp with rfl | hp
   · exact (upd_same _ _ _).trans e
   · exact (upd_ne _ _ (ht p hp).1).trans (ht p hp).2.1
 · rcases List.mem_cons.1 hp with rfl | hp
   · rfl
   · exact (ht p hp).2.2
 · have : id < 0 := hlo ▸ hi
   omega
def fracsOf (n : Nat) (c : Nat → Rat) : List FracD := (List.range n).map fun u => ofQ (c u)
theorem fracs_cF (n : Nat) (c : Nat → Rat) : (fracsOf n c).map cF = ratL n c := by unfold fracsOf ratL tabL; rw [List.map_map]; rfl
theorem fracs_enc (n : Nat) (c : Nat → Rat) : D.sl (ratL n c) = encFs (fracsOf n c) := by show _ = D.sl ((fracsOf n c).map cF); rw [fracs_cF]
theorem fracs_len (n : Nat) (c : Nat → Rat) : (fracsOf n c).length = n := by simp [fracsOf]
theorem fracs_mem {n : Nat} {c : Nat → Rat} {f : FracD} (h : f ∈ fracsOf n c) : ∃ u, u < n ∧ f = ofQ (c u) := by
 obtain ⟨u, hu, rfl⟩ := List.mem_map.1 h
 exact ⟨u, List.mem_range.1 hu, rfl⟩
theorem fracs_ok (n : Nat) (c : Nat → Rat) : okP (fracsOf n c) = true := by
 refine List.all_eq_true.2 fun f hf => ?_
 obtain ⟨u, _, rfl⟩ := fracs_mem hf
 exact okF_ofQ _
noncomputable def fin (s : SysD) (goal : List TermD) : Dic := final (openD s goal).1
abbrev srcOf (s : SysD) (goal : List TermD) : Nat → Nat × Bool := (openD s goal).2
noncomputable def leastE (s : SysD) (goal : List TermD) : OptD := match next (fin s goal) with
 | .best => ⟨0, (valueD goal (fracsOf s.n.toNat (pointK (fin s goal) (fin s goal).m))).1, fracsOf s.n.toNat (pointK (fin s goal) (fin s goal).m), fracsOf s.r.length (pricesK (fin s goal) (srcOf s goal) s.n.toNat), []⟩
 | .row r => ⟨1, zF, [], fracsOf s.r.length (refK (fin s goal) (srcOf s goal) r s.n.toNat), []⟩
 | .col c => match next (fin s []) with
   | .row r => ⟨1, zF, [], fracsOf s.r.length (refK (fin s []) (srcOf s []) r s.n.toNat), []⟩
   | _ => ⟨2, zF, fracsOf s.n.toNat (pointK (fin s []) (fin s []).m), [], fracsOf s.n.toNat (rayK (fin s goal) c (fin s goal).m)⟩
 | .ex _ _ => ⟨0, zF, [], [], []⟩
noncomputable def leastD (s : SysD) (goal : List TermD) : OptD × Int := if rightS s && rightT goal s.n then (leastE s goal, 0) else (⟨0, zF, [], [], []⟩, 1)
structure Fit (s : SysD) (goal : List TermD) (B : Nat := 2) (T : Nat := 6) : Prop where
 l : s.r.length ≤ 20
 n : rightS s = true → s.n ≤ 16
 t : rightS s = true → s.n ≤ T ∨ (openK (fun _ => 0) s s.r.length).1.m ≤ T
 w : ∀ w ∈ s.r, w.t.length ≤ 64 ∧ szF w.v ≤ B ∧ ∀ t ∈ w.t, szF t.f ≤ B
 g : goal.length ≤ 16 ∧ ∀ t ∈ goal, szF t.f ≤ B
 b : 1 ≤ B
 gl : Dic.grow B T + B + 1 ≤ 262144
theorem grow_ge (B : Nat) : ∀ t, B ≤ Dic.grow B t
 | 0 => Nat.le_refl _
 | t + 1 => by have := grow_ge B t; simp only [Dic.grow]; omega
section
variable {s : SysD} {goal : List TermD} {B T : Nat}
theorem Fit.tn (h : Fit s goal B T) : tnS s := ⟨by have := h.l; omega, fun w hw => ⟨⟨by have := (h.w w hw).1; omega, fun t ht => by have := (h.w w hw).2.2 t ht; have := h.gl; unfold tnF; omega⟩, by have := (h.w w hw).2.1; have := h.gl; unfold tnF; omega⟩⟩
theorem Fit.gt (h : Fit s goal B T) : tnT goal := ⟨by have := h.g.1; omega, fun t ht => by have := h.g.2 t ht; have := h.gl; unfold tnF; omega⟩
theorem Fit.nil (h : Fit s goal B T) : Fit s [] B T := ⟨h.l, h.n, h.t, h.w, ⟨by simp, fun t ht => by cases ht⟩, h.b, h.gl⟩
end
theorem openK_part (P : Dic × (Nat → Nat × Bool) → Prop) (g : Nat → Rat) (s : SysD) (h0 : P (dicZ s.n.toNat g, fun _ => (0, false))) (h : ∀ x k w b, P x → s.r[k]? = some w → P (addP w k b x)) : ∀ k, P (openK g s k)
 | 0 => h0
 | k + 1 => by
   have ih := openK_part P g s h0 h k
   simp only [openK]
   split
   · rename_i w hw
     unfold putP
     simp only
     split <;> split
     · exact ih
     · exact h _ _ _ _ ih hw
     · exact h _ _ _ _ ih hw
     · exact h _ _ _ _ (h _ _ _ _ ih hw) hw
   · exact ih
theorem openD_first (s : SysD) (goal : List TermD) : (openD s goal).1.First := by
 refine ⟨?_, fun j _ => by unfold openD; rw [openK_free]⟩
 refine openK_part (fun x => ∀ i, i < x.1.m → x.1.own i = x.1.n + i) _ s (fun i hi => absurd hi (Nat.not_lt_zero _)) (fun x k w b ih _ i hi => ?_) s.r.length
 simp only [addP, addRow] at hi ⊢
 by_cases e : i = x.1.m
 · rw [if_pos e, e]
 · rw [if_neg e]; exact ih i (by omega)
theorem openD_src (s : SysD) (goal : List TermD) : ∀ i, i < (openD s goal).1.m → ((openD s goal).2 i).1 < s.r.length := by
 refine openK_part (fun x => ∀ i, i < x.1.m → (x.2 i).1 < s.r.length) _ s (fun i hi => absurd hi (Nat.not_lt_zero _)) (fun x k w b ih hw i hi => ?_) s.r.length
 simp only [addP, addRow] at hi ⊢
 by_cases e : i = x.1.m
 · rw [if_pos e]; exact (List.getElem?_eq_some_iff.1 hw).1
 · rw [if_neg e]; exact ih i (by omega)
theorem openD_n (s : SysD) (goal : List TermD) : (openD s goal).1.n = s.n.toNat := openK_n _ _ _
theorem openD_m (s : SysD) (goal : List TermD) : (openD s goal).1.m = (openK (fun _ => 0) s s.r.length).1.m := by rw [openD_eq]; rfl
theorem openD_m2 (s : SysD) (goal : List TermD) : (openD s goal).1.m ≤ 2 * s.r.length := openK_m _ _ _
theorem coef_sz {l : List TermD} {n : Int} (h : rightT l n = true) {B : Nat} (hB : 1 ≤ B) (hs : ∀ t ∈ l, szF t.f ≤ B) (u : Nat) : szQ (coefT l u) ≤ B := by
 by_cases he : ∃ t ∈ l, t.v.toNat = u
 · obtain ⟨t, ht, rfl⟩ := he
   obtain ⟨i, hi⟩ := List.getElem?_of_mem ht
   obtain ⟨h0, h1, h2, h3⟩ := rightT_mem h ht
   rw [coef_at h hi h0, szF_ok h2]; exact hs t ht
 · have h0 : ∀ k, k ≤ l.length → coefT (l.take k) u = 0 := by
     intro k
     induction k with
     | zero => intro _; simp only [List.take_zero, coefT, dotS]
     | succ k ih =>
       intro hk
       obtain ⟨t, ht⟩ := getE (l := l) (k := k) (by omega)
       have ht0 := (rightT_mem h (mem_at ht)).1
       rw [coef_succ ht ht0, ih (by omega), if_neg (fun e => he ⟨t, mem_at ht, e.symm⟩)]; grind
   have := h0 l.length (Nat.le_refl _)
   rw [List.take_length] at this
   rw [this]; have := sz_0; omega
theorem openD_sized {s : SysD} {goal : List TermD} {B T : Nat} (h : Fit s goal B T) (hr : rightS s = true) (hg : rightT goal s.n = true) : (openD s goal).1.Sized szQ B := by
 have hB := h.b
 have key : (∀ i, i < (openD s goal).1.m → szQ ((openD s goal).1.v i) ≤ B) ∧ ∀ i j, i < (openD s goal).1.m → szQ ((openD s goal).1.a i j) ≤ B := by
  refine openK_part (fun x => (∀ i, i < x.1.m → szQ (x.1.v i) ≤ B) ∧ ∀ i j, i < x.1.m → szQ (x.1.a i j) ≤ B) _ s ⟨fun i hi => absurd hi (Nat.not_lt_zero _), fun i j hi => absurd hi (Nat.not_lt_zero _)⟩ (fun x k w b ih hw => ?_) s.r.length
  have hm := mem_at hw
  have h1 := rightS_row hr hm
  have h2 := h.w w hm
  refine ⟨fun i hi => ?_, fun i j hi => ?_⟩
  · simp only [addP, addRow] at hi ⊢
    by_cases e : i = x.1.m
    · rw [if_pos e]
      have : szQ (qOf w.v) ≤ B := by rw [szF_ok h1.2.2.2]; exact h2.2.1
      unfold sgQ'; split
      · rw [szQ_neg]; exact this
      · exact this
    · rw [if_neg e]; exact ih.1 i (by omega)
  · simp only [addP, addRow] at hi ⊢
    by_cases e : i = x.1.m
    · rw [if_pos e]
      have := coef_sz h1.1 (B := B) hB h2.2.2 j
      unfold sgQ'; split
      · rw [szQ_neg]; exact this
      · exact this
    · rw [if_neg e]; exact ih.2 i j (by omega)
 refine ⟨key.1, fun i j hi _ => key.2 i j hi, fun j _ => ?_⟩
 unfold openD
 rw [openK_gg]
 rw [szQ_neg]
 exact coef_sz hg hB h.g.2 j
theorem fin_m (s : SysD) (goal : List TermD) : (fin s goal).m = (openD s goal).1.m := (final_same (openD_first s goal).part).m.symm
theorem fin_n (s : SysD) (goal : List TermD) : (fin s goal).n = s.n.toNat := (final_same (openD_first s goal).part).n.symm.trans (openD_n s goal)
theorem fin_part (s : SysD) (goal : List TermD) : (fin s goal).Part := final_part (openD_first s goal).part
theorem fin_ended (s : SysD) (goal : List TermD) : ended (fin s goal) := final_ended (openD_first s goal).part
theorem fin_sized {s : SysD} {goal : List TermD} {B T : Nat} (h : Fit s goal B T) (hr : rightS s = true) (hg : rightT goal s.n = true) : (fin s goal).Sized szQ (Dic.grow B T) := by
 have h0 := rightS_n hr
 exact Dic.small szFn (openD_first s goal) h.b (openD_sized h hr hg) (fin_part s goal) (final_same (openD_first s goal).part) (t := T) (by
  rw [fin_n, fin_m, openD_m]
  rcases h.t hr with h1 | h1
  · exact .inl (by omega)
  · exact .inr h1)
theorem point_sz {s : SysD} {goal : List TermD} {B T : Nat} (h : Fit s goal B T) (hr : rightS s = true) (hg : rightT goal s.n = true) : ∀ i, i ≤ (fin s goal).m → ∀ u, szQ (pointK (fin s goal) i u) ≤ Dic.grow B T
 | 0, _, u => by have := sz_0; have := h.b; have := grow_ge B T; simp only [pointK]; omega
 | i + 1, hi, u => by
   simp only [pointK]
   split
   · exact (fin_sized h hr hg).v i (by omega)
   · exact point_sz h hr hg i (by omega) u
theorem ray_sz {s : SysD} {goal : List TermD} {B T : Nat} (h : Fit s goal B T) (hr : rightS s = true) (hg : rightT goal s.n = true) {c : Nat} (hc : c < (fin s goal).n) : ∀ i, i ≤ (fin s goal).m → ∀ u, szQ (rayK (fin s goal) c i u) ≤ Dic.grow B T
 | 0, _, u => by
   have := h.b
   have := grow_ge B T
   have h0 := sz_0
   have h1 := sz_1
   simp only [rayK]
   split <;> omega
 | i + 1, hi, u => by
   simp only [rayK]
   split
   · rw [szQ_neg]; exact (fin_sized h hr hg).a i c (by omega) hc
   · exact ray_sz h hr hg hc i (by omega) u
theorem tn_fracs {n : Nat} {c : Nat → Rat} (hn : n ≤ 64) (h : ∀ u, szQ (c u) ≤ 262144) : tnFs (fracsOf n c) := by
 refine ⟨by rw [fracs_len]; omega, fun f hf => ?_⟩
 obtain ⟨u, _, rfl⟩ := fracs_mem hf
 have := h u
 unfold szQ at this
 unfold tnF; omega
theorem CallA.nil2 [Ifl] {P : Program} {f : FuncId} {a : D} {m : Mem} {nx : Nat} {K : D → Mem → Nat → Prop} (h : CallA P f [a, .sl []] m nx K) : CallA P f [a, .nil] m nx K := by
 refine ⟨h.1, fun E β w vs hM hvs => h.2 E β w vs hM ⟨hvs.1, fun i y d hy hd => ?_⟩⟩
 match i, hd with
 | 0, hd => exact hvs.2 0 y d hy hd
 | 1, hd =>
   cases hd
   exact rep_nil_sl (hvs.2 1 y .nil hy rfl).inv_nil
 | i + 2, hd => cases hd
abbrev sysB (s : SysD) : Blk := ⟨24, 0, 2, [cS s], 0, false⟩
abbrev optB : Blk := ⟨35, 0, 8, [[dI 0, dI 0, .nil, dI 0, .nil, .nil, .nil, .nil]], 0, false⟩
abbrev m0B (s : SysD) : Mem := upd (upd noM 0 (some (sysB s))) 1 (some optB)
theorem m0_some {s : SysD} {id : Nat} {b : Blk} (h : m0B s id = some b) : (id = 0 ∧ b = sysB s) ∨ (id = 1 ∧ b = optB) := by
 simp only [m0B, upd_get] at h
 by_cases e1 : id = 1
 · rw [if_pos e1] at h; cases h; exact .inr ⟨e1, rfl⟩
 · rw [if_neg e1] at h
   by_cases e0 : id = 0
   · rw [if_pos e0] at h; cases h; exact .inl ⟨e0, rfl⟩
   · rw [if_neg e0] at h; cases h
theorem m0_ok (s : SysD) : ∀ id b, m0B s id = some b → okBlk (fun i => (m0B s i).isSome) b := by
 intro id b h
 rcases m0_some h with ⟨_, rfl⟩ | ⟨_, rfl⟩
 · intro e he; rw [List.mem_singleton.1 he]; rfl
 · intro e he; rw [List.mem_singleton.1 he]; rfl
theorem next_row_lt {d : Dic} {r : Nat} (h : next d = .row r) : r < d.m ∧ True := by
 refine ⟨?_, trivial⟩
 unfold next at h
 have key : ∀ k, pick d.own (fun i => neg' (d.v i)) d.m = some k → rowNext d k = .row r → r < d.m := by
  intro k hk hr
  unfold rowNext at hr
  split at hr
  · cases hr; exact (pick_some hk).1
  · cases hr
 have hc : ∀ k, colNext d k ≠ .row r := by
  intro k hr
  unfold colNext at hr
  split at hr <;> cases hr
 split at h
 · cases h
 · rename_i hr _; exact key _ hr h
 · rename_i hr _
   split at h
   · exact key _ hr h
   · exact absurd h (hc _)
 · exact absurd h (hc _)
theorem next_col_lt {d : Dic} {c : Nat} (h : next d = .col c) : c < d.n := by
 unfold next at h
 have key : ∀ k, pick d.free (fun j => pos' (d.g j)) d.n = some k → colNext d k = .col c → c < d.n := by
  intro k hk hr
  unfold colNext at hr
  split at hr
  · cases hr; exact (pick_some hk).1
  · cases hr
 have hc : ∀ k, rowNext d k ≠ .col c := by
  intro k hr
  unfold rowNext at hr
  split at hr <;> cases hr
 split at h
 · cases h
 · exact absurd h (hc _)
 · rename_i hs
   split at h
   · exact absurd h (hc _)
   · exact key _ hs h
 · rename_i hs; exact key _ hs h
theorem least_c (s : SysD) (goal : List TermD) {B T : Nat} (h : Fit s goal B T) : Contract Tryz.prog 9 [encS s, encTs goal] (.tup [encO (leastD s goal).1, dI (leastD s goal).2]) := by
 refine Contract.ofA ?_
 have hG := h.gl
 have hres := Tryz.results9
 refine inA Tryz.func9 rfl Tryz.ntmps9 ?_
 have k1 := lrightS_c s h.tn.sm
 have k2 := lright_c goal s.n h.gt.sm
 cases hr : rightS s with
 | false =>
   have e1 : leastD s goal = (⟨0, zF, [], [], []⟩, 1) := by unfold leastD; rw [hr]; rfl
   rw [hr] at k1
   rw [e1]
   refine aGoM (cj2 hres ty_dp) ?_
   repeat with_reducible intro K hK
   rfl
 | true =>
   cases hg : rightT goal s.n with
   | false =>
     have e1 : leastD s goal = (⟨0, zF, [], [], []⟩, 1) := by unfold leastD; rw [hr, hg]; rfl
     rw [hr] at k1
     rw [hg] at k2
     rw [e1]
     refine aGoM (cj2 hres ty_dp) ?_
     repeat with_reducible intro K hK
     rfl
   | true =>
     have e1 : leastD s goal = (leastE s goal, 0) := by unfold leastD; rw [hr, hg]; rfl
     rw [hr] at k1
     rw [hg] at k2
     rw [e1]
     refine aGoM (cj2 hres ty_dp) ?_
     repeat with_reducible intro K hK
     have hl1 := h.l
     have hn1 := h.n hr
     have hn0 := (rightS_n hr).1
     refine callT_eff (open_a s goal _ _ hr hg h.tn.sm h.gt.sm (by omega)) ?_
     rintro _ m1 nx1 ⟨I, rfl, hnx1, hD1, ap1, hlo1, hfr1⟩
     refine aGoM (cj2 hres ty_dp) ?_
     repeat (first | (guard_target =~ ∀ _ : St → Prop, _; intro KJ hJ) | (guard_target =~ ∀ _ : List Ev → St → Prop, _; intro K hK))
     have dm := openD_m2 s goal
     have dn := openD_n s goal
     have hsz := openD_sized h hr hg
     have ht : (openD s goal).1.n ≤ T ∨ (openD s goal).1.m ≤ T := by rw [openD_n, openD_m]; rcases h.t hr with h1 | h1; exact .inl (by omega); exact .inr h1
     refine callT_eff (search_a hD1 ap1 (openD_first s goal) (by omega) (by omega) h.b (by omega : (Dic.grow B T : Int) ≤ 536870912) ht hsz) ?_
     rintro _ m2 nx2 ⟨rfl, hnx2, hD2, hfr2⟩
     have hen := fin_ended s goal
     have hD3 : DicAt m2 I (fin s goal) (srcOf s goal) := hD2
     rw [show final (openD s goal).1 = fin s goal from rfl]
     have hM2 : ∀ id b, m0B s id = some b → m2 id = some b ∧ id < 2 ∧ ¬ inD I (fin s goal).m id := by
      intro id b hb
      have hid : id < 2 := by rcases m0_some hb with ⟨rfl, _⟩ | ⟨rfl, _⟩ <;> decide
      have hnin : ¬ inD I (openD s goal).1.m id := fun h => by have := hlo1 id h; omega
      refine ⟨?_, hid, by rw [fin_m]; exact hnin⟩
      rw [hfr2 id (by omega) hnin, hfr1 id hid]; exact hb
     have tI0 : (0 : Int) ≤ s.r.length := by omega
     cases hn : next (fin s goal) with
     | ex r c => exact absurd hn (hen r c)
     | best =>
       simp only [encOut]
       simp only [go_sem, ↓reduceIte, hres]
       refine hJ _ ?_
       refine aLe (le_freeze hD3 6 rfl [(1, encTs goal), (2, .lp 0 0 0 0), (4, .lp 1 0 0 0), (5, dI 0), (7, dI (-1)), (8, dI (-1))] (m0B s) 2 hM2 (m0_ok s) (by simp [go_sem, okD]) rfl) ?_
       have kp := point_c (fin s goal) (srcOf s goal) (by rw [fin_m]; omega) (by rw [fin_n]; omega)
       rw [fin_n, fracs_enc] at kp
       have sX : smFs (fracsOf s.n.toNat (pointK (fin s goal) (fin s goal).m)) := (tn_fracs (by omega) fun u => by have := point_sz h hr hg _ (Nat.le_refl _) u; omega).sm
       have kv := lValue_c goal _ h.gt.sm sX
       have kq := prices_c (fin s goal) (srcOf s goal) s.r.length (by rw [fin_m]; omega) (by rw [fin_n]; omega) (by omega) (fun j hj => (fin_part s goal).free_lt j hj) (fun i hi => openD_src s goal i (by rw [← fin_m]; exact hi)) (fun j hj => by have := (fin_sized h hr hg).g j hj; omega)
       rw [fin_n, fracs_enc] at kq
       have e3 : s.n = ((fin s goal).n : Int) := by rw [fin_n]; omega
       have eL : leastE s goal = ⟨0, (valueD goal (fracsOf s.n.toNat (pointK (fin s goal) (fin s goal).m))).1, fracsOf s.n.toNat (pointK (fin s goal) (fin s goal).m), fracsOf s.r.length (pricesK (fin s goal) (srcOf s goal) s.n.toNat), []⟩ := by
        unfold leastE; rw [hn]
       rw [eL]
       clear eL e1 hn hen hD2 hD3 hfr2 hM2 hJ hK hsz ht
       generalize fracsOf s.n.toNat (pointK (fin s goal) (fin s goal).m) = X at *
       generalize fracsOf s.r.length (pricesK (fin s goal) (srcOf s goal) s.n.toNat) = Y at *
       generalize fin s goal = F at *
       refine aGo (cj3 hres ty_dp tI0) ?_
       rfl
     | row r =>
       obtain ⟨hrm, hrow⟩ := next_row_lt hn
       simp only [encOut]
       simp only [go_sem, ↓reduceIte, hres]
       refine hJ _ ?_
       refine aLe (le_freeze hD3 6 rfl [(1, encTs goal), (2, .lp 0 0 0 0), (4, .lp 1 0 0 0), (5, dI 0), (7, dI r), (8, dI (-1))] (m0B s) 2 hM2 (m0_ok s) (by simp [go_sem, okD]) rfl) ?_
       have kq := refutation_c (fin s goal) (srcOf s goal) s.r.length r hrm (by rw [fin_m]; omega) (by rw [fin_n]; omega) (by omega) ((fin_part s goal).own_lt r hrm) (fun j hj => (fin_part s goal).free_lt j hj) (fun i hi => openD_src s goal i (by rw [← fin_m]; exact hi)) (fun j hj => by have := (fin_sized h hr hg).a r j hrm hj; omega)
       rw [fin_n, fracs_enc] at kq
       have eL : leastE s goal = ⟨1, zF, [], fracsOf s.r.length (refK (fin s goal) (srcOf s goal) r s.n.toNat), []⟩ := by
        unfold leastE; rw [hn]
       rw [eL]
       clear eL e1 hn hen hD2 hD3 hfr2 hM2 hJ hK hsz ht
       generalize fracsOf s.r.length (refK (fin s goal) (srcOf s goal) r s.n.toNat) = Y at *
       generalize fin s goal = F at *
       have r0 : (0 : Int) ≤ r := by omega
       refine aGo (cj4 hres ty_dp tI0 r0) ?_
       rfl
     | col c =>
       have hcn := next_col_lt hn
       simp only [encOut]
       simp only [go_sem, ↓reduceIte, hres]
       refine hJ _ ?_
       refine aLe (le_freeze hD3 6 rfl [(2, .lp 0 0 0 0), (4, .lp 1 0 0 0), (5, dI 0), (8, dI c)] (m0B s) 2 hM2 (m0_ok s) (by simp [go_sem, okD]) rfl) ?_
       have c0 : (0 : Int) ≤ c := by omega
       clear hD3 hfr2 hM2 hJ hK hsz ht hD1 ap1 hlo1 hfr1 hD2
       refine aGoM (cj3 hres ty_dp c0) ?_
       repeat with_reducible intro K hK
       have hf0 := h.nil
       have hg0 : rightT [] s.n = true := by simp only [rightT, Bool.and_eq_true, decide_eq_true_eq]; exact ⟨hn0, rfl⟩
       refine callT_eff (CallA.nil2 (open_a s [] _ _ hr hg0 h.tn.sm hf0.gt.sm (by omega))) ?_
       rintro _ m1 nx1 ⟨I, rfl, hnx1, hD1, ap1, hlo1, hfr1⟩
       refine aGoM (cj2 hres ty_dp) ?_
       repeat (first | (guard_target =~ ∀ _ : St → Prop, _; intro KJ hJ) | (guard_target =~ ∀ _ : List Ev → St → Prop, _; intro K hK))
       have dm2 := openD_m2 s []
       have dn2 := openD_n s []
       have hsz := openD_sized hf0 hr hg0
       have ht : (openD s []).1.n ≤ T ∨ (openD s []).1.m ≤ T := by rw [openD_n, openD_m]; rcases h.t hr with h1 | h1; exact .inl (by omega); exact .inr h1
       refine callT_eff (search_a hD1 ap1 (openD_first s []) (by omega) (by omega) h.b (by omega : (Dic.grow B T : Int) ≤ 536870912) ht hsz) ?_
       rintro _ m2 nx2 ⟨rfl, hnx2, hD2, hfr2⟩
       have henE := fin_ended s []
       have hD3 : DicAt m2 I (fin s []) (srcOf s []) := hD2
       rw [show final (openD s []).1 = fin s [] from rfl]
       have hM2 : ∀ id b, m0B s id = some b → m2 id = some b ∧ id < 2 ∧ ¬ inD I (fin s []).m id := by
        intro id b hb
        have hid : id < 2 := by rcases m0_some hb with ⟨rfl, _⟩ | ⟨rfl, _⟩ <;> decide
        have hnin : ¬ inD I (openD s []).1.m id := fun h => by have := hlo1 id h; omega
        refine ⟨?_, hid, by rw [fin_m]; exact hnin⟩
        rw [hfr2 id (by omega) hnin, hfr1 id hid]; exact hb
       cases hnE : next (fin s []) with
       | ex r c => exact absurd hnE (henE r c)
       | best =>
         simp only [encOut]
         simp only [go_sem, ↓reduceIte, hres]
         refine hJ _ ?_
         refine aLe (le_freeze hD3 9 rfl [(2, .lp 0 0 0 0), (4, .lp 1 0 0 0), (5, dI 0), (6, encDic (fin s goal) (srcOf s goal)), (8, dI c), (10, dI (-1)), (11, dI (-1))] (m0B s) 2 hM2 (m0_ok s) (by simp [go_sem, okD]) rfl) ?_
         have kp := point_c (fin s []) (srcOf s []) (by rw [fin_m]; omega) (by rw [fin_n]; omega)
         rw [fin_n, fracs_enc] at kp
         have kr := ray_c (fin s goal) (srcOf s goal) hcn (by rw [fin_m]; omega) (by rw [fin_n]; omega) (fun i hi => by have := (fin_sized h hr hg).a i c hi hcn; omega)
         rw [fin_n, fracs_enc] at kr
         have eL : leastE s goal = ⟨2, zF, fracsOf s.n.toNat (pointK (fin s []) (fin s []).m), [], fracsOf s.n.toNat (rayK (fin s goal) c (fin s goal).m)⟩ := by
          unfold leastE; rw [hn]; simp only [hnE]
         rw [eL]
         clear eL e1 hn hnE hen henE hD2 hD3 hfr2 hM2 hJ hK hsz ht
         generalize fracsOf s.n.toNat (pointK (fin s []) (fin s []).m) = X at *
         generalize fracsOf s.n.toNat (rayK (fin s goal) c (fin s goal).m) = R at *
         generalize fin s goal = F at *
         generalize fin s [] = G at *
         refine aGo (cj4 hres ty_dp tI0 c0) ?_
         rfl
       | col c2 =>
         have c20 : (0 : Int) ≤ c2 := by omega
         simp only [encOut]
         simp only [go_sem, ↓reduceIte, hres]
         refine hJ _ ?_
         refine aLe (le_freeze hD3 9 rfl [(2, .lp 0 0 0 0), (4, .lp 1 0 0 0), (5, dI 0), (6, encDic (fin s goal) (srcOf s goal)), (8, dI c), (10, dI (-1)), (11, dI c2)] (m0B s) 2 hM2 (m0_ok s) (by simp [go_sem, okD]) rfl) ?_
         have kp := point_c (fin s []) (srcOf s []) (by rw [fin_m]; omega) (by rw [fin_n]; omega)
         rw [fin_n, fracs_enc] at kp
         have kr := ray_c (fin s goal) (srcOf s goal) hcn (by rw [fin_m]; omega) (by rw [fin_n]; omega) (fun i hi => by have := (fin_sized h hr hg).a i c hi hcn; omega)
         rw [fin_n, fracs_enc] at kr
         have eL : leastE s goal = ⟨2, zF, fracsOf s.n.toNat (pointK (fin s []) (fin s []).m), [], fracsOf s.n.toNat (rayK (fin s goal) c (fin s goal).m)⟩ := by
          unfold leastE; rw [hn]; simp only [hnE]
         rw [eL]
         clear eL e1 hn hnE hen henE hD2 hD3 hfr2 hM2 hJ hK hsz ht
         generalize fracsOf s.n.toNat (pointK (fin s []) (fin s []).m) = X at *
         generalize fracsOf s.n.toNat (rayK (fin s goal) c (fin s goal).m) = R at *
         generalize fin s goal = F at *
         generalize fin s [] = G at *
         refine aGo (cj4 hres ty_dp tI0 c0) ?_
         rfl
       | row r =>
         obtain ⟨hrm, hrow⟩ := next_row_lt hnE
         simp only [encOut]
         simp only [go_sem, ↓reduceIte, hres]
         refine hJ _ ?_
         refine aLe (le_freeze hD3 9 rfl [(2, .lp 0 0 0 0), (4, .lp 1 0 0 0), (5, dI 0), (6, encDic (fin s goal) (srcOf s goal)), (8, dI c), (10, dI r), (11, dI (-1))] (m0B s) 2 hM2 (m0_ok s) (by simp [go_sem, okD]) rfl) ?_
         have kq := refutation_c (fin s []) (srcOf s []) s.r.length r hrm (by rw [fin_m]; omega) (by rw [fin_n]; omega) (by omega) ((fin_part s []).own_lt r hrm) (fun j hj => (fin_part s []).free_lt j hj) (fun i hi => openD_src s [] i (by rw [← fin_m]; exact hi)) (fun j hj => by have := (fin_sized hf0 hr hg0).a r j hrm hj; omega)
         rw [fin_n, fracs_enc] at kq
         have eL : leastE s goal = ⟨1, zF, [], fracsOf s.r.length (refK (fin s []) (srcOf s []) r s.n.toNat), []⟩ := by
          unfold leastE; rw [hn]; simp only [hnE]
         clear e1 hn hnE hen henE hD2 hD3 hfr2 hM2 hJ hK hsz ht
         generalize fracsOf s.r.length (refK (fin s []) (srcOf s []) r s.n.toNat) = Y at *
         generalize fin s goal = F at *
         generalize fin s [] = G at *
         have r0 : (0 : Int) ≤ r := by omega
         have r1 : ¬ (r : Int) < 0 := by omega
         refine aGo (cj4 hres ty_dp tI0 (cj3 c0 r0 r1)) ?_
         rw [eL]
         rfl
end Go.Proofs.YtpkdhmnlpnijhaaGreat
