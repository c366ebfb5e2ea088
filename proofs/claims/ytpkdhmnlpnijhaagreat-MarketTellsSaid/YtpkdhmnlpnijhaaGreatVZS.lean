/-
  The walk over data: the reference's row, column, across, down (printed by gen_zs.py).
-/
import Derived.Test.YtpkdhmnlpnijhaaGreatVZX
import Derived.Test.YtpkdhmnlpnijhaaGreatVSimB
namespace Go.Proofs.YtpkdhmnlpnijhaaGreat
set_option linter.unusedVariables false
set_option linter.unusedSimpArgs false
set_option linter.unusedSectionVars false
open Go Go.RowKit
set_option maxRecDepth 100000
set_option maxHeartbeats 16000000
theorem zrow_a [Ifl] {I : ZI} {K : ZK} {Z : ZD} {m : Mem} {nx : Nat} (h : ZAt m I K Z) (hm : (Z.m : Int) ≤ 4096) (hn : (Z.n : Int) ≤ 4096) :
    CallA Tryz.prog 163 [.lp I.p 0 0 0] m nx fun d' m' nx' => d' = dI (oI (zrow Z)) ∧ nx ≤ nx' ∧ ∀ id, id < nx → m' id = m id := by
 have hres := Tryz.results163
 refine inA Tryz.func163 rfl Tryz.ntmps163 ?_
 have hp := h.hp
 have hO : m I.O = some (iB 3 I.vO Z.m Z.own) := h.hO
 have hl := tab_len Z.m fun i => [dI (Z.own i)]
 unfold zrow
 have a0 : True := trivial
 refine aGoM (cj4 hres ty_zp hp (cj3 hO hl a0)) ?_
 repeat with_reducible intro K' hK
 refine aLoopM (fun (i : Nat) => [(0, .lp I.p 0 0 0), (3, dI (oI (pick Z.own (fun i => decide (Z.v i < 0)) i))), (4, dI i)]) nx (fun i m1 nx1 => i ≤ Z.m ∧ m1 = m ∧ nx1 = nx) (fun i => Z.m - i) 0 ?_ ?_ ?_ ?_
 · exact ⟨Nat.zero_le _, rfl, rfl⟩
 · rfl
 · simp [go_sem, pick, oI]
 · rintro i m1 nx1 ⟨hi, rfl, rfl⟩
   obtain ⟨hw, i0⟩ := wrap2 i
   by_cases h1 : (i : Int) < Z.m
   · have hin : i < Z.m := by omega
     have ge := tab_get (fun i => [dI (Z.own i)]) hin
     have w1 := h.hV
     have w2 := zl_get Z.v hin
     have w3 := zl_len Z.m Z.v
     have w4 : True := trivial
     cases hp' : decide (Z.v i < 0) with
     | false =>
       have e1 := pick_no (f := Z.own) (p := fun i => decide (Z.v i < 0)) hp'
       have hc : ¬ (Z.v i).sign < 0 := fun h => by rw [decide_eq_true (zsign_lt.1 h)] at hp'; cases hp'
       refine aGoM (cj4 hres ty_zp hp (cj4 hO hl a0 (cj4 h1 hw i0 (cj4 hc w1 w2 (cj2 w3 w4))))) ?_
       repeat with_reducible intro K' hK
       exact loop_endM (i + 1) ⟨by omega, rfl, rfl⟩ (by omega) rfl (by simp [go_sem, e1])
     | true =>
       have hc : (Z.v i).sign < 0 := zsign_lt.2 (of_decide_eq_true hp')
       cases ha : pick Z.own (fun i => decide (Z.v i < 0)) i with
       | none =>
         have e1 := pick_first (f := Z.own) (p := fun i => decide (Z.v i < 0)) hp' ha
         have e0 : (-1 : Int) < 0 := by decide
         have o0 : oI none = -1 := rfl
         refine aGoM (cj4 hres ty_zp hp (cj4 hO hl a0 (cj4 h1 hw i0 (cj4 hc w1 w2 (cj4 e0 o0 w3 w4))))) ?_
         repeat with_reducible intro K' hK
         exact loop_endM (i + 1) ⟨by omega, rfl, rfl⟩ (by omega) rfl (by simp [go_sem, e1, oI])
       | some c =>
         have hck := (pick_some ha).1
         have gc := tab_get (fun i => [dI (Z.own i)]) (show c < Z.m by omega)
         have c0 : ¬ (c : Int) < 0 := by omega
         have c1 : (0 : Int) ≤ c := by omega
         have c2 : ¬ (0 : Int) > c := by omega
         have o1 : oI (some c) = c := rfl
         by_cases hlt : Z.own i < Z.own c
         · have e1 := pick_less (f := Z.own) (p := fun i => decide (Z.v i < 0)) hp' ha hlt
           have hlt' : (Z.own i : Int) < Z.own c := by omega
           refine aGoM (cj4 hres ty_zp hp (cj4 hO hl a0 (cj4 h1 hw i0 (cj4 hc w1 w2 (cj4 ge c0 c1 (cj4 gc hlt' o1 (cj3 c2 w3 w4))))))) ?_
           repeat with_reducible intro K' hK
           exact loop_endM (i + 1) ⟨by omega, rfl, rfl⟩ (by omega) rfl (by simp [go_sem, e1, oI])
         · have e1 := pick_stay (f := Z.own) (p := fun i => decide (Z.v i < 0)) hp' ha hlt
           have hlt' : ¬ (Z.own i : Int) < Z.own c := by omega
           refine aGoM (cj4 hres ty_zp hp (cj4 hO hl a0 (cj4 h1 hw i0 (cj4 hc w1 w2 (cj4 ge c0 c1 (cj4 gc hlt' o1 (cj3 c2 w3 w4))))))) ?_
           repeat with_reducible intro K' hK
           exact loop_endM (i + 1) ⟨by omega, rfl, rfl⟩ (by omega) rfl (by simp [go_sem, e1, oI, ha])
   · obtain rfl : i = Z.m := by omega
     refine aGoM (cj4 hres ty_zp hp (cj4 hO hl h1 hw)) ?_
     exact Nat.le_refl _
theorem zcol_a [Ifl] {I : ZI} {K : ZK} {Z : ZD} {m : Mem} {nx : Nat} (h : ZAt m I K Z) (hm : (Z.m : Int) ≤ 4096) (hn : (Z.n : Int) ≤ 4096) :
    CallA Tryz.prog 164 [.lp I.p 0 0 0] m nx fun d' m' nx' => d' = dI (oI (zcol Z)) ∧ nx ≤ nx' ∧ ∀ id, id < nx → m' id = m id := by
 have hres := Tryz.results164
 refine inA Tryz.func164 rfl Tryz.ntmps164 ?_
 have hp := h.hp
 have hO : m I.Fr = some (iB 3 I.vFr Z.n Z.free) := h.hFr
 have hl := tab_len Z.n fun i => [dI (Z.free i)]
 unfold zcol
 have a0 : True := trivial
 refine aGoM (cj4 hres ty_zp hp (cj3 hO hl a0)) ?_
 repeat with_reducible intro K' hK
 refine aLoopM (fun (i : Nat) => [(0, .lp I.p 0 0 0), (3, dI (oI (pick Z.free (fun i => decide (Z.g i > 0)) i))), (4, dI i)]) nx (fun i m1 nx1 => i ≤ Z.n ∧ m1 = m ∧ nx1 = nx) (fun i => Z.n - i) 0 ?_ ?_ ?_ ?_
 · exact ⟨Nat.zero_le _, rfl, rfl⟩
 · rfl
 · simp [go_sem, pick, oI]
 · rintro i m1 nx1 ⟨hi, rfl, rfl⟩
   obtain ⟨hw, i0⟩ := wrap2 i
   by_cases h1 : (i : Int) < Z.n
   · have hin : i < Z.n := by omega
     have ge := tab_get (fun i => [dI (Z.free i)]) hin
     have w1 := h.hC
     have w2 := zl_get Z.g hin
     have w3 := zl_len Z.n Z.g
     have w4 : True := trivial
     cases hp' : decide (Z.g i > 0) with
     | false =>
       have e1 := pick_no (f := Z.free) (p := fun i => decide (Z.g i > 0)) hp'
       have hc : ¬ (Z.g i).sign > 0 := fun h => by rw [decide_eq_true (zsign_gt.1 h)] at hp'; cases hp'
       refine aGoM (cj4 hres ty_zp hp (cj4 hO hl a0 (cj4 h1 hw i0 (cj4 hc w1 w2 (cj2 w3 w4))))) ?_
       repeat with_reducible intro K' hK
       exact loop_endM (i + 1) ⟨by omega, rfl, rfl⟩ (by omega) rfl (by simp [go_sem, e1])
     | true =>
       have hc : (Z.g i).sign > 0 := zsign_gt.2 (of_decide_eq_true hp')
       cases ha : pick Z.free (fun i => decide (Z.g i > 0)) i with
       | none =>
         have e1 := pick_first (f := Z.free) (p := fun i => decide (Z.g i > 0)) hp' ha
         have e0 : (-1 : Int) < 0 := by decide
         have o0 : oI none = -1 := rfl
         refine aGoM (cj4 hres ty_zp hp (cj4 hO hl a0 (cj4 h1 hw i0 (cj4 hc w1 w2 (cj4 e0 o0 w3 w4))))) ?_
         repeat with_reducible intro K' hK
         exact loop_endM (i + 1) ⟨by omega, rfl, rfl⟩ (by omega) rfl (by simp [go_sem, e1, oI])
       | some c =>
         have hck := (pick_some ha).1
         have gc := tab_get (fun i => [dI (Z.free i)]) (show c < Z.n by omega)
         have c0 : ¬ (c : Int) < 0 := by omega
         have c1 : (0 : Int) ≤ c := by omega
         have c2 : ¬ (0 : Int) > c := by omega
         have o1 : oI (some c) = c := rfl
         by_cases hlt : Z.free i < Z.free c
         · have e1 := pick_less (f := Z.free) (p := fun i => decide (Z.g i > 0)) hp' ha hlt
           have hlt' : (Z.free i : Int) < Z.free c := by omega
           refine aGoM (cj4 hres ty_zp hp (cj4 hO hl a0 (cj4 h1 hw i0 (cj4 hc w1 w2 (cj4 ge c0 c1 (cj4 gc hlt' o1 (cj3 c2 w3 w4))))))) ?_
           repeat with_reducible intro K' hK
           exact loop_endM (i + 1) ⟨by omega, rfl, rfl⟩ (by omega) rfl (by simp [go_sem, e1, oI])
         · have e1 := pick_stay (f := Z.free) (p := fun i => decide (Z.g i > 0)) hp' ha hlt
           have hlt' : ¬ (Z.free i : Int) < Z.free c := by omega
           refine aGoM (cj4 hres ty_zp hp (cj4 hO hl a0 (cj4 h1 hw i0 (cj4 hc w1 w2 (cj4 ge c0 c1 (cj4 gc hlt' o1 (cj3 c2 w3 w4))))))) ?_
           repeat with_reducible intro K' hK
           exact loop_endM (i + 1) ⟨by omega, rfl, rfl⟩ (by omega) rfl (by simp [go_sem, e1, oI, ha])
   · obtain rfl : i = Z.n := by omega
     refine aGoM (cj4 hres ty_zp hp (cj4 hO hl h1 hw)) ?_
     exact Nat.le_refl _
theorem zacr_a [Ifl] {I : ZI} {K : ZK} {Z : ZD} {m : Mem} {nx : Nat} (h : ZAt m I K Z) {r : Nat} (hr : r < Z.m) (hm : (Z.m : Int) ≤ 4096) (hn : (Z.n : Int) ≤ 4096) :
    CallA Tryz.prog 165 [.lp I.p 0 0 0, dI r] m nx fun d' m' nx' => d' = dI (oI (zacr Z r)) ∧ nx ≤ nx' ∧ ∀ id, id < nx → m' id = m id := by
 have hres := Tryz.results165
 refine inA Tryz.func165 rfl Tryz.ntmps165 ?_
 have hp := h.hp
 have hO : m I.Fr = some (iB 3 I.vFr Z.n Z.free) := h.hFr
 have hl := tab_len Z.n fun i => [dI (Z.free i)]
 unfold zacr
 have a0 : (0 : Int) ≤ r := by omega
 refine aGoM (cj4 hres ty_zp hp (cj3 hO hl a0)) ?_
 repeat with_reducible intro K' hK
 refine aLoopM (fun (i : Nat) => [(0, .lp I.p 0 0 0), (1, dI r), (5, dI (oI (pick Z.free (fun i => decide (Z.a r i < 0)) i))), (6, dI i)]) nx (fun i m1 nx1 => i ≤ Z.n ∧ m1 = m ∧ nx1 = nx) (fun i => Z.n - i) 0 ?_ ?_ ?_ ?_
 · exact ⟨Nat.zero_le _, rfl, rfl⟩
 · rfl
 · simp [go_sem, pick, oI]
 · rintro i m1 nx1 ⟨hi, rfl, rfl⟩
   obtain ⟨hw, i0⟩ := wrap2 i
   by_cases h1 : (i : Int) < Z.n
   · have hin : i < Z.n := by omega
     have ge := tab_get (fun i => [dI (Z.free i)]) hin
     have w1 := h.hA
     have w2 := zl_get (Z.a r) hin
     have w3 := h.hR r hr
     have w4 := tab_get (fun k => [D.ls (I.R k) 1]) hr
     cases hp' : decide (Z.a r i < 0) with
     | false =>
       have e1 := pick_no (f := Z.free) (p := fun i => decide (Z.a r i < 0)) hp'
       have hc : ¬ (Z.a r i).sign < 0 := fun h => by rw [decide_eq_true (zsign_lt.1 h)] at hp'; cases hp'
       refine aGoM (cj4 hres ty_zp hp (cj4 hO hl a0 (cj4 h1 hw i0 (cj4 hc w1 w2 (cj2 w3 w4))))) ?_
       repeat with_reducible intro K' hK
       exact loop_endM (i + 1) ⟨by omega, rfl, rfl⟩ (by omega) rfl (by simp [go_sem, e1])
     | true =>
       have hc : (Z.a r i).sign < 0 := zsign_lt.2 (of_decide_eq_true hp')
       cases ha : pick Z.free (fun i => decide (Z.a r i < 0)) i with
       | none =>
         have e1 := pick_first (f := Z.free) (p := fun i => decide (Z.a r i < 0)) hp' ha
         have e0 : (-1 : Int) < 0 := by decide
         have o0 : oI none = -1 := rfl
         refine aGoM (cj4 hres ty_zp hp (cj4 hO hl a0 (cj4 h1 hw i0 (cj4 hc w1 w2 (cj4 e0 o0 w3 w4))))) ?_
         repeat with_reducible intro K' hK
         exact loop_endM (i + 1) ⟨by omega, rfl, rfl⟩ (by omega) rfl (by simp [go_sem, e1, oI])
       | some c =>
         have hck := (pick_some ha).1
         have gc := tab_get (fun i => [dI (Z.free i)]) (show c < Z.n by omega)
         have c0 : ¬ (c : Int) < 0 := by omega
         have c1 : (0 : Int) ≤ c := by omega
         have c2 : ¬ (0 : Int) > c := by omega
         have o1 : oI (some c) = c := rfl
         by_cases hlt : Z.free i < Z.free c
         · have e1 := pick_less (f := Z.free) (p := fun i => decide (Z.a r i < 0)) hp' ha hlt
           have hlt' : (Z.free i : Int) < Z.free c := by omega
           refine aGoM (cj4 hres ty_zp hp (cj4 hO hl a0 (cj4 h1 hw i0 (cj4 hc w1 w2 (cj4 ge c0 c1 (cj4 gc hlt' o1 (cj3 c2 w3 w4))))))) ?_
           repeat with_reducible intro K' hK
           exact loop_endM (i + 1) ⟨by omega, rfl, rfl⟩ (by omega) rfl (by simp [go_sem, e1, oI])
         · have e1 := pick_stay (f := Z.free) (p := fun i => decide (Z.a r i < 0)) hp' ha hlt
           have hlt' : ¬ (Z.free i : Int) < Z.free c := by omega
           refine aGoM (cj4 hres ty_zp hp (cj4 hO hl a0 (cj4 h1 hw i0 (cj4 hc w1 w2 (cj4 ge c0 c1 (cj4 gc hlt' o1 (cj3 c2 w3 w4))))))) ?_
           repeat with_reducible intro K' hK
           exact loop_endM (i + 1) ⟨by omega, rfl, rfl⟩ (by omega) rfl (by simp [go_sem, e1, oI, ha])
   · obtain rfl : i = Z.n := by omega
     refine aGoM (cj4 hres ty_zp hp (cj4 hO hl h1 hw)) ?_
     exact Nat.le_refl _
theorem zdwn_a [Ifl] {I : ZI} {K : ZK} {Z : ZD} {m : Mem} {nx : Nat} (h : ZAt m I K Z) {s : Nat} (hs : s < Z.n) (hm : (Z.m : Int) ≤ 4096) (hn : (Z.n : Int) ≤ 4096) :
    CallA Tryz.prog 166 [.lp I.p 0 0 0, dI s] m nx fun d' m' nx' => d' = dI (oI (zdwn Z s)) ∧ nx ≤ nx' ∧ ∀ id, id < nx → m' id = m id := by
 have hres := Tryz.results166
 refine inA Tryz.func166 rfl Tryz.ntmps166 ?_
 have hp := h.hp
 have hO : m I.O = some (iB 3 I.vO Z.m Z.own) := h.hO
 have hl := tab_len Z.m fun i => [dI (Z.own i)]
 unfold zdwn
 have a0 : (0 : Int) ≤ s := by omega
 refine aGoM (cj4 hres ty_zp hp (cj3 hO hl a0)) ?_
 repeat with_reducible intro K' hK
 refine aLoopM (fun (i : Nat) => [(0, .lp I.p 0 0 0), (1, dI s), (5, dI (oI (pick Z.own (fun i => decide (Z.a i s > 0)) i))), (6, dI i)]) nx (fun i m1 nx1 => i ≤ Z.m ∧ m1 = m ∧ nx1 = nx) (fun i => Z.m - i) 0 ?_ ?_ ?_ ?_
 · exact ⟨Nat.zero_le _, rfl, rfl⟩
 · rfl
 · simp [go_sem, pick, oI]
 · rintro i m1 nx1 ⟨hi, rfl, rfl⟩
   obtain ⟨hw, i0⟩ := wrap2 i
   by_cases h1 : (i : Int) < Z.m
   · have hin : i < Z.m := by omega
     have ge := tab_get (fun i => [dI (Z.own i)]) hin
     have w1 := h.hA
     have w2 := zl_get (Z.a i) hs
     have w3 := h.hR i hin
     have w4 := tab_get (fun k => [D.ls (I.R k) 1]) hin
     cases hp' : decide (Z.a i s > 0) with
     | false =>
       have e1 := pick_no (f := Z.own) (p := fun i => decide (Z.a i s > 0)) hp'
       have hc : ¬ (Z.a i s).sign > 0 := fun h => by rw [decide_eq_true (zsign_gt.1 h)] at hp'; cases hp'
       refine aGoM (cj4 hres ty_zp hp (cj4 hO hl a0 (cj4 h1 hw i0 (cj4 hc w1 w2 (cj2 w3 w4))))) ?_
       repeat with_reducible intro K' hK
       exact loop_endM (i + 1) ⟨by omega, rfl, rfl⟩ (by omega) rfl (by simp [go_sem, e1])
     | true =>
       have hc : (Z.a i s).sign > 0 := zsign_gt.2 (of_decide_eq_true hp')
       cases ha : pick Z.own (fun i => decide (Z.a i s > 0)) i with
       | none =>
         have e1 := pick_first (f := Z.own) (p := fun i => decide (Z.a i s > 0)) hp' ha
         have e0 : (-1 : Int) < 0 := by decide
         have o0 : oI none = -1 := rfl
         refine aGoM (cj4 hres ty_zp hp (cj4 hO hl a0 (cj4 h1 hw i0 (cj4 hc w1 w2 (cj4 e0 o0 w3 w4))))) ?_
         repeat with_reducible intro K' hK
         exact loop_endM (i + 1) ⟨by omega, rfl, rfl⟩ (by omega) rfl (by simp [go_sem, e1, oI])
       | some c =>
         have hck := (pick_some ha).1
         have gc := tab_get (fun i => [dI (Z.own i)]) (show c < Z.m by omega)
         have c0 : ¬ (c : Int) < 0 := by omega
         have c1 : (0 : Int) ≤ c := by omega
         have c2 : ¬ (0 : Int) > c := by omega
         have o1 : oI (some c) = c := rfl
         by_cases hlt : Z.own i < Z.own c
         · have e1 := pick_less (f := Z.own) (p := fun i => decide (Z.a i s > 0)) hp' ha hlt
           have hlt' : (Z.own i : Int) < Z.own c := by omega
           refine aGoM (cj4 hres ty_zp hp (cj4 hO hl a0 (cj4 h1 hw i0 (cj4 hc w1 w2 (cj4 ge c0 c1 (cj4 gc hlt' o1 (cj3 c2 w3 w4))))))) ?_
           repeat with_reducible intro K' hK
           exact loop_endM (i + 1) ⟨by omega, rfl, rfl⟩ (by omega) rfl (by simp [go_sem, e1, oI])
         · have e1 := pick_stay (f := Z.own) (p := fun i => decide (Z.a i s > 0)) hp' ha hlt
           have hlt' : ¬ (Z.own i : Int) < Z.own c := by omega
           refine aGoM (cj4 hres ty_zp hp (cj4 hO hl a0 (cj4 h1 hw i0 (cj4 hc w1 w2 (cj4 ge c0 c1 (cj4 gc hlt' o1 (cj3 c2 w3 w4))))))) ?_
           repeat with_reducible intro K' hK
           exact loop_endM (i + 1) ⟨by omega, rfl, rfl⟩ (by omega) rfl (by simp [go_sem, e1, oI, ha])
   · obtain rfl : i = Z.m := by omega
     refine aGoM (cj4 hres ty_zp hp (cj4 hO hl h1 hw)) ?_
     exact Nat.le_refl _
theorem ZRel.next {d0 d : Dic} {Z : ZD} (h : ZRel d0 d Z) : next d = match zrow Z, zcol Z with
    | none, none => .best
    | some r, none => (match zacr Z r with
      | none => .row r
      | some s => .ex r s)
    | some r, some s => if Z.own r < Z.free s then (match zacr Z r with
      | none => .row r
      | some s => .ex r s) else (match zdwn Z s with
      | none => .col s
      | some r => .ex r s)
    | none, some s => (match zdwn Z s with
      | none => .col s
      | some r => .ex r s) := by
 have hR : ∀ r, zrow Z = some r → rowNext d r = (match zacr Z r with
     | none => .row r
     | some s => .ex r s) := fun r hr => by
  have h1 : r < Z.m := (pick_some hr).1
  unfold rowNext
  rw [h.acr (by rw [← h.m]; exact h1)]
  cases zacr Z r <;> rfl
 have hC : ∀ s, zcol Z = some s → colNext d s = (match zdwn Z s with
     | none => .col s
     | some r => .ex r s) := fun s hs => by
  have h1 : s < Z.n := (pick_some hs).1
  unfold colNext
  rw [h.dwn (by rw [← h.n]; exact h1)]
  cases zdwn Z s <;> rfl
 unfold Go.Proofs.YtpkdhmnlpnijhaaGreat.next
 rw [h.row, h.col, ← h.own, ← h.free]
 cases hr : zrow Z with
 | none =>
   cases hs : zcol Z with
   | none => rfl
   | some s => simp only [hC s hs]
 | some r =>
   cases hs : zcol Z with
   | none => simp only [hR r hr]
   | some s => simp only [hR r hr, hC s hs]
theorem ZRel.div {d0 d : Dic} {Z : ZD} (h : ZRel d0 d Z) (hI : Dic.IntD d0) {r s : Nat} (hr : r < d.m) (hs : s < d.n) (hp : d.a r s ≠ 0) : ZDiv Z r s :=
 ⟨fun _ _ hi hj e1 e2 => (h.at_a hI hr hs hp (by rw [← h.m]; exact hi) (by rw [← h.n]; exact hj) e1 e2).1, fun _ hi e1 => (h.at_v hI hr hs hp (by rw [← h.m]; exact hi) e1).1, fun _ hj e2 => (h.at_g hI hr hs hp (by rw [← h.n]; exact hj) e2).1⟩
theorem zsearch_a [Ifl] {I : ZI} {K : ZK} {d0 : Dic} {Z0 : ZD} {m : Mem} {nx : Nat} (h : ZAt m I K Z0) (ap : ZAp I d0.m) (hf : d0.First) (hI : Dic.IntD d0) (hZ0 : ZRel d0 d0 Z0) (hm : (d0.m : Int) ≤ 4096) (hn : (d0.n : Int) ≤ 4096)
    (hsz : ∀ d Z, ZRel d0 d Z → ZS Z) :
    CallA Tryz.prog 72 [.lp I.p 0 0 0] m nx fun d' m' nx' => d' = encOut (next (final d0)) ∧ nx ≤ nx' ∧ (∃ Z, ZRel d0 (final d0) Z ∧ ZAt m' I K Z) ∧ ∀ id, id < nx → ¬ inZ I d0.m id → m' id = m id := by
 refine CallA.cl ⟨_, _, Tryz.func72, rfl, by kernel_rfl⟩ fun hcl => ?_
 have hres := Tryz.results72
 refine inA Tryz.func72 rfl Tryz.ntmps72 ?_
 have lt : ∀ id, inZ I d0.m id → id < nx := by have := h.lt hcl; rw [hZ0.m] at this; exact this
 refine aGoM (cj2 hres ty_zp) ?_
 repeat with_reducible intro K' hK
 refine aLoopM (fun (_ : Dic × ZD) => [(0, .lp I.p 0 0 0)]) nx (fun x m1 nx1 => x.1.Part ∧ Dic.Same d0 x.1 ∧ final x.1 = final d0 ∧ ZRel d0 x.1 x.2 ∧ ZAt m1 I K x.2 ∧ nx ≤ nx1 ∧ ∀ id, id < nx → ¬ inZ I d0.m id → m1 id = m id) (fun x => left x.1) (d0, Z0) ?_ ?_ ?_ ?_
 · exact ⟨hf.part, Dic.Same.refl _, rfl, hZ0, h, Nat.le_refl _, fun _ _ _ => rfl⟩
 · rfl
 · simp [go_sem]
 · rintro ⟨E, Z⟩ m1 nx1 ⟨hP, hS, hfin, hZ, hD1, hnx, hfr1⟩
   simp only at hP hS hfin hZ hD1
   have eM := hS.m
   have eN := hS.n
   have lt1 : ∀ id, inZ I Z.m id → id < nx1 := fun id hi => by rw [hZ.m, ← eM] at hi; have := lt id hi; omega
   have bm : (Z.m : Int) ≤ 4096 := by rw [hZ.m]; omega
   have bn : (Z.n : Int) ≤ 4096 := by rw [hZ.n]; omega
   have hnx' := hZ.next
   refine aGoM (cj2 hres ty_zp) ?_
   repeat with_reducible intro K' hK
   refine callT_eff (zrow_a hD1 bm bn) ?_
   rintro _ m2 nx2 ⟨rfl, hn2, hf2⟩
   have hD2 : ZAt m2 I K Z := hD1.keep fun id hi => hf2 id (lt1 id hi)
   refine aGoM (cj2 hres ty_zp) ?_
   repeat with_reducible intro K' hK
   refine callT_eff (zcol_a hD2 bm bn) ?_
   rintro _ m3 nx3 ⟨rfl, hn3, hf3⟩
   have hD : ZAt m3 I K Z := hD2.keep fun id hi => hf3 id (by have := lt1 id hi; omega)
   have hfr3 : ∀ id, id < nx → ¬ inZ I d0.m id → m3 id = m id := fun id h1 h2 => (hf3 id (by omega)).trans ((hf2 id (by omega)).trans (hfr1 id h1 h2))
   have oN : oI none = -1 := rfl
   have oS : ∀ a, oI (some a) = a := fun _ => rfl
   have hp3 := hD.hp
   have hO3 := hD.hO
   have hF3 : m3 I.Fr = some (iB 3 I.vFr Z.n Z.free) := hD.hFr
   have done : ∀ {o : Out}, next E = o → (∀ r s, o ≠ .ex r s) → final d0 = E := fun {o} h1 h2 => hfin.symm.trans (final_self hP fun r s e => h2 r s (h1.symm.trans e))
   cases hpr : zrow Z with
   | none =>
     cases hps : zcol Z with
     | none =>
       rw [hpr, hps] at hnx'
       have hfE := done hnx' (fun r s e => by cases e)
       have z0 : (-1 : Int) < 0 := by decide
       refine aGoM (cj4 hres ty_zp hp3 (cj3 oN z0 trivial)) ?_
       rw [hfE, hnx']
       exact ⟨rfl, by omega, ⟨Z, hZ, hD⟩, hfr3⟩
     | some s =>
       have hsn' : s < Z.n := (pick_some hps).1
       have z0 : (-1 : Int) < 0 := by decide
       have z2 : ¬ (-1 : Int) ≥ 0 := by decide
       have z3 : ¬ (s : Int) < 0 := by omega
       refine aGoM (cj4 hres ty_zp hp3 (cj4 oN oS z0 (cj2 z2 z3))) ?_
       repeat with_reducible intro K' hK
       refine callT_eff (zdwn_a hD (s := s) hsn' bm bn) ?_
       rintro _ m4 nx4 ⟨rfl, hn4, hf4⟩
       have hD4 : ZAt m4 I K Z := hD.keep fun id hi => hf4 id (by have := lt1 id hi; omega)
       have hfr4 : ∀ id, id < nx → ¬ inZ I d0.m id → m4 id = m id := fun id h1 h2 => (hf4 id (by omega)).trans (hfr3 id h1 h2)
       cases hpq : zdwn Z s with
       | none =>
         simp only [hpr, hps, hpq] at hnx'
         have hfE := done hnx' (fun r s e => by cases e)
         have z1 : (-1 : Int) < 0 := by decide
         refine aGoM (cj4 hres ty_zp oN (cj2 z1 oS)) ?_
         rw [hfE, hnx']
         exact ⟨rfl, by omega, ⟨Z, hZ, hD4⟩, hfr4⟩
       | some r =>
         simp only [hpr, hps, hpq] at hnx'
         have z9 : ¬ (r : Int) < 0 := by omega
         refine aGoM (cj4 hres ty_zp oS z9) ?_
         repeat with_reducible intro K' hK
         have hst := next_step hP hnx'
         obtain ⟨hrm, hsn, hne⟩ : r < E.m ∧ s < E.n ∧ E.a r s ≠ 0 := ⟨hst.hr, hst.hs, hst.ne⟩
         have hrel := hZ.ex hI hrm hsn hne
         refine callT_eff (zexch_a hD4 (by rw [hZ.m, ← eM]; exact ap) (by rw [hZ.m]; exact hrm) (by rw [hZ.n]; exact hsn) hZ.pos (hsz _ _ hZ) (hsz _ _ hrel) (by rw [hZ.m]; omega) (by rw [hZ.n]; omega) (hZ.div hI hrm hsn hne)) ?_
         rintro _ m5 nx5 ⟨rfl, hn5, hD5, hf5⟩
         refine aGoM (cj2 hres ty_zp) ?_
         repeat with_reducible intro K' hK
         exact loop_endM (E.ex r s, Z.ex r s) ⟨Dic.ex_part hP hrm hsn, hS.trans (Dic.ex_same hrm hsn hne), (final_step hP hnx').trans hfin, hrel, hD5, by show nx ≤ nx5; omega, fun id h1 h2 => (hf5 id (by omega) (by rw [hZ.m, ← eM]; exact h2)).trans (hfr4 id h1 h2)⟩ (left_step hP hnx') rfl (by simp [go_sem])
   | some r =>
     have hrm : r < Z.m := (pick_some hpr).1
     have go := tab_get (fun i => [dI (Z.own i)]) hrm
     have z0 : ¬ (r : Int) < 0 := by omega
     have z1 : (r : Int) ≥ 0 := by omega
     have z4 : (0 : Int) ≤ r := by omega
     have z6 : ¬ (0 : Int) > r := by omega
     cases hps : zcol Z with
     | none =>
       have z5 : (-1 : Int) < 0 := by decide
       refine aGoM (cj4 hres ty_zp hp3 (cj4 oN oS z0 (cj2 z1 z5))) ?_
       repeat with_reducible intro K' hK
       refine callT_eff (zacr_a hD (r := r) hrm bm bn) ?_
       rintro _ m4 nx4 ⟨rfl, hn4, hf4⟩
       have hD4 : ZAt m4 I K Z := hD.keep fun id hi => hf4 id (by have := lt1 id hi; omega)
       have hfr4 : ∀ id, id < nx → ¬ inZ I d0.m id → m4 id = m id := fun id h1 h2 => (hf4 id (by omega)).trans (hfr3 id h1 h2)
       cases hpq : zacr Z r with
       | none =>
         simp only [hpr, hps, hpq] at hnx'
         have hfE := done hnx' (fun r s e => by cases e)
         have z1 : (-1 : Int) < 0 := by decide
         refine aGoM (cj4 hres ty_zp oN (cj2 z1 oS)) ?_
         rw [hfE, hnx']
         exact ⟨rfl, by omega, ⟨Z, hZ, hD4⟩, hfr4⟩
       | some s =>
         simp only [hpr, hps, hpq] at hnx'
         have z9 : ¬ (s : Int) < 0 := by omega
         refine aGoM (cj4 hres ty_zp oS z9) ?_
         repeat with_reducible intro K' hK
         have hst := next_step hP hnx'
         obtain ⟨hrm, hsn, hne⟩ : r < E.m ∧ s < E.n ∧ E.a r s ≠ 0 := ⟨hst.hr, hst.hs, hst.ne⟩
         have hrel := hZ.ex hI hrm hsn hne
         refine callT_eff (zexch_a hD4 (by rw [hZ.m, ← eM]; exact ap) (by rw [hZ.m]; exact hrm) (by rw [hZ.n]; exact hsn) hZ.pos (hsz _ _ hZ) (hsz _ _ hrel) (by rw [hZ.m]; omega) (by rw [hZ.n]; omega) (hZ.div hI hrm hsn hne)) ?_
         rintro _ m5 nx5 ⟨rfl, hn5, hD5, hf5⟩
         refine aGoM (cj2 hres ty_zp) ?_
         repeat with_reducible intro K' hK
         exact loop_endM (E.ex r s, Z.ex r s) ⟨Dic.ex_part hP hrm hsn, hS.trans (Dic.ex_same hrm hsn hne), (final_step hP hnx').trans hfin, hrel, hD5, by show nx ≤ nx5; omega, fun id h1 h2 => (hf5 id (by omega) (by rw [hZ.m, ← eM]; exact h2)).trans (hfr4 id h1 h2)⟩ (left_step hP hnx') rfl (by simp [go_sem])
     | some s =>
       have hsn' : s < Z.n := (pick_some hps).1
       have gf := tab_get (fun i => [dI (Z.free i)]) hsn'
       have z2 : ¬ (s : Int) < 0 := by omega
       have z3 : (0 : Int) ≤ s := by omega
       have z7 : ¬ (0 : Int) > s := by omega
       by_cases hlt : Z.own r < Z.free s
       · have hlt' : (Z.own r : Int) < Z.free s := by omega
         refine aGoM (cj4 hres ty_zp hp3 (cj4 hO3 hF3 oN (cj4 oS z0 z1 (cj4 z4 z6 go (cj4 gf z2 z3 (cj2 z7 hlt')))))) ?_
         repeat with_reducible intro K' hK
         refine callT_eff (zacr_a hD (r := r) hrm bm bn) ?_
         rintro _ m4 nx4 ⟨rfl, hn4, hf4⟩
         have hD4 : ZAt m4 I K Z := hD.keep fun id hi => hf4 id (by have := lt1 id hi; omega)
         have hfr4 : ∀ id, id < nx → ¬ inZ I d0.m id → m4 id = m id := fun id h1 h2 => (hf4 id (by omega)).trans (hfr3 id h1 h2)
         cases hpq : zacr Z r with
         | none =>
           simp only [hpr, hps, hpq, if_pos hlt] at hnx'
           have hfE := done hnx' (fun r s e => by cases e)
           have z1 : (-1 : Int) < 0 := by decide
           refine aGoM (cj4 hres ty_zp oN (cj2 z1 oS)) ?_
           rw [hfE, hnx']
           exact ⟨rfl, by omega, ⟨Z, hZ, hD4⟩, hfr4⟩
         | some s' =>
           simp only [hpr, hps, hpq, if_pos hlt] at hnx'
           have z9 : ¬ (s' : Int) < 0 := by omega
           refine aGoM (cj4 hres ty_zp oS z9) ?_
           repeat with_reducible intro K' hK
           have hst := next_step hP hnx'
           obtain ⟨hrm, hsn, hne⟩ : r < E.m ∧ s' < E.n ∧ E.a r s' ≠ 0 := ⟨hst.hr, hst.hs, hst.ne⟩
           have hrel := hZ.ex hI hrm hsn hne
           refine callT_eff (zexch_a hD4 (by rw [hZ.m, ← eM]; exact ap) (by rw [hZ.m]; exact hrm) (by rw [hZ.n]; exact hsn) hZ.pos (hsz _ _ hZ) (hsz _ _ hrel) (by rw [hZ.m]; omega) (by rw [hZ.n]; omega) (hZ.div hI hrm hsn hne)) ?_
           rintro _ m5 nx5 ⟨rfl, hn5, hD5, hf5⟩
           refine aGoM (cj2 hres ty_zp) ?_
           repeat with_reducible intro K' hK
           exact loop_endM (E.ex r s', Z.ex r s') ⟨Dic.ex_part hP hrm hsn, hS.trans (Dic.ex_same hrm hsn hne), (final_step hP hnx').trans hfin, hrel, hD5, by show nx ≤ nx5; omega, fun id h1 h2 => (hf5 id (by omega) (by rw [hZ.m, ← eM]; exact h2)).trans (hfr4 id h1 h2)⟩ (left_step hP hnx') rfl (by simp [go_sem])
       · have hlt' : ¬ (Z.own r : Int) < Z.free s := by omega
         refine aGoM (cj4 hres ty_zp hp3 (cj4 hO3 hF3 oN (cj4 oS z0 z1 (cj4 z4 z6 go (cj4 gf z2 z3 (cj2 z7 hlt')))))) ?_
         repeat with_reducible intro K' hK
         refine callT_eff (zdwn_a hD (s := s) hsn' bm bn) ?_
         rintro _ m4 nx4 ⟨rfl, hn4, hf4⟩
         have hD4 : ZAt m4 I K Z := hD.keep fun id hi => hf4 id (by have := lt1 id hi; omega)
         have hfr4 : ∀ id, id < nx → ¬ inZ I d0.m id → m4 id = m id := fun id h1 h2 => (hf4 id (by omega)).trans (hfr3 id h1 h2)
         cases hpq : zdwn Z s with
         | none =>
           simp only [hpr, hps, hpq, if_neg hlt] at hnx'
           have hfE := done hnx' (fun r s e => by cases e)
           have z1 : (-1 : Int) < 0 := by decide
           refine aGoM (cj4 hres ty_zp oN (cj2 z1 oS)) ?_
           rw [hfE, hnx']
           exact ⟨rfl, by omega, ⟨Z, hZ, hD4⟩, hfr4⟩
         | some r' =>
           simp only [hpr, hps, hpq, if_neg hlt] at hnx'
           have z9 : ¬ (r' : Int) < 0 := by omega
           refine aGoM (cj4 hres ty_zp oS z9) ?_
           repeat with_reducible intro K' hK
           have hst := next_step hP hnx'
           obtain ⟨hrm, hsn, hne⟩ : r' < E.m ∧ s < E.n ∧ E.a r' s ≠ 0 := ⟨hst.hr, hst.hs, hst.ne⟩
           have hrel := hZ.ex hI hrm hsn hne
           refine callT_eff (zexch_a hD4 (by rw [hZ.m, ← eM]; exact ap) (by rw [hZ.m]; exact hrm) (by rw [hZ.n]; exact hsn) hZ.pos (hsz _ _ hZ) (hsz _ _ hrel) (by rw [hZ.m]; omega) (by rw [hZ.n]; omega) (hZ.div hI hrm hsn hne)) ?_
           rintro _ m5 nx5 ⟨rfl, hn5, hD5, hf5⟩
           refine aGoM (cj2 hres ty_zp) ?_
           repeat with_reducible intro K' hK
           exact loop_endM (E.ex r' s, Z.ex r' s) ⟨Dic.ex_part hP hrm hsn, hS.trans (Dic.ex_same hrm hsn hne), (final_step hP hnx').trans hfin, hrel, hD5, by show nx ≤ nx5; omega, fun id h1 h2 => (hf5 id (by omega) (by rw [hZ.m, ← eM]; exact h2)).trans (hfr4 id h1 h2)⟩ (left_step hP hnx') rfl (by simp [go_sem])
end Go.Proofs.YtpkdhmnlpnijhaaGreat
