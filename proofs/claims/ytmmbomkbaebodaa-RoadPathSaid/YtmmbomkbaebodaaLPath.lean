/-
  RoadPath: the walk.
-/
import Derived.Test.YtmmbomkbaebodaaLPathLaw
import Derived.Test.YtmmbomkbaebodaaRegion
namespace Go.Proofs.Ytmmbomkbaebodaa
set_option linter.unusedVariables false
set_option linter.unusedSimpArgs false
open Go.RowKit

attribute [local go_sem] relOp relAt relUpon
theorem ints_take {w : World} {A : Option Addr} {n c k : Nat} {l : List Int} (h : IntsAt w (.slice A n c) l) (hk : k ≤ n) : IntsAt w (.slice A k c) (l.take k) := by
  obtain ⟨a, cap, hv, hl, hc, h⟩ := h
  simp only [Value.slice.injEq] at hv
  obtain ⟨rfl, rfl, rfl⟩ := hv
  have e : (l.take k).length = k := by simp; omega
  refine ⟨A, c, by rw [e], by rw [e]; omega, hc, ?_⟩
  rcases h with h | ⟨b, off, rfl, hb, hx⟩
  · left; rw [e]; omega
  · refine .inr ⟨b, off, rfl, hb, fun i x hi => hx i x ?_⟩
    rw [List.getElem?_take] at hi
    split at hi
    · exact hi
    · cases hi
theorem ints_drop {w : World} {A : Option Addr} {n c k : Nat} {l : List Int} (h : IntsAt w (.slice A n c) l) (hk : k ≤ n) : IntsAt w (.slice (if c = k then A else A.map (·.add k)) (n - k) (c - k)) (l.drop k) := by
  obtain ⟨a, cap, hv, hl, hc, h⟩ := h
  simp only [Value.slice.injEq] at hv
  obtain ⟨rfl, rfl, rfl⟩ := hv
  refine ⟨_, c - k, by rw [List.length_drop], by rw [List.length_drop]; omega, by omega, ?_⟩
  rcases h with h | ⟨b, off, rfl, hb, hx⟩
  · left; rw [List.length_drop]; omega
  · by_cases hck : c = k
    · left; rw [List.length_drop]; omega
    · rw [if_neg hck]
      have hadd : (⟨b, off, none⟩ : Addr).add k = ⟨b, off + k, none⟩ := by unfold Addr.add; split <;> simp_all
      refine .inr ⟨b, off + k, by simp [hadd], hb, fun i x hi => ?_⟩
      rw [List.getElem?_drop] at hi
      obtain ⟨cs, h1, h2, h3⟩ := hx (k + i) x hi
      refine ⟨cs, h1, h2, fun j u hu => ?_⟩
      have := h3 j u hu
      rw [show off + k + i * 1 + j = off + (k + i) * 1 + j from by omega]
      exact this
theorem box4_set {w : World} {b : Nat} {c0 c1 c2 c3 v0 v1 v2 v3 : Value} {T : TypeId} (h : w.heap[b]? = some (.cells #[c0, c1, c2, c3] T (0, 0))) : ((((w.setCell ⟨b, 0, none⟩ v0).setCell ⟨b, 1, none⟩ v1).setCell ⟨b, 2, none⟩ v2).setCell ⟨b, 3, none⟩ v3).heap[b]? = some (.cells #[v0, v1, v2, v3] T (0, 0)) := by
  rw [heap_setCell_same _ b 3 _ _ _ (heap_setCell_same _ b 2 _ _ _ (heap_setCell_same _ b 1 _ _ _ (heap_setCell_same w b 0 _ _ _ h)))]
  rfl
def NewAt (T : TypeId) (z : Value) (B : Nat) (w : World) (v : Value) : Prop := ∃ b, v = .pointer (some ⟨b, 0, none⟩) ∧ B ≤ b ∧ w.heap[b]? = some (.cells z.cells T (0, 0))
theorem newAt_mono (T : TypeId) (z : Value) (B : Nat) (w w' : World) (v : Value) (hg : Grows w w') (h : NewAt T z B w v) : NewAt T z B w' v := by
  obtain ⟨b, h1, h2, h3⟩ := h
  exact ⟨b, h1, h2, (hg.block b (Array.getElem?_eq_some_iff.1 h3).1).trans h3⟩

set_option maxRecDepth 100000 in
set_option maxHeartbeats 40000000 in
theorem pathLaw_any (n a b ki cut : Int) (v : Value) (l : List Rd) (w : World) (hl : RoadsAt w v l) (hcut : 0 ≤ cut ∧ cut < 256) :
    Calls Try.prog 7 #[.agg #[I n, v], I a, I b, I ki, .int .u8 cut] w fun e w' => e = .returned (.bool true) ∧ Below w.heap.size w w' := by
  obtain ⟨ad, cap, rfl, hlc, hcap⟩ := hl.shape
  obtain ⟨hcut0, hcut1⟩ := hcut
  have HPN := Lib.hid (pathL_bad (n := n) (a := -1) (b := b) (ki := ki) (l := l) (by omega))
  by_cases hc : chkNet n l = 0
  · have hcb : (chkNet n l != 0) = false := by simp [hc]
    obtain ⟨h0, h1, h2, h3⟩ := chkNet_zero hc
    have HC := Lib.hid hc; clear hc h3
    by_cases q1 : a < 0
    · skip
      go_enter Try.func7, Try.ntmps7
      go_wp2_with (first
        | (go_at_call 9; refine Calls.mono (small_any _) ?_; rintro e w1 ⟨rfl, hb1⟩; obtain ⟨hB1, hb1', hs1, hc10, hc11⟩ := box2s hb1)
        | (go_at_call 13; refine Calls.mono (check_any _ _ l _ (hl.below RRoad.mono hb1')) ?_; rintro e w2 ⟨rfl, hb2⟩; have hb2' := hb1'.trans (hb2.mono hb1'.size); have hc20 := (hb2.cell (p := ⟨w.heap.size, 0, none⟩) hs1).trans hc10; have hc21 := (hb2.cell (p := ⟨w.heap.size, 1, none⟩) hs1).trans hc11; have hs2 : w.heap.size < w2.heap.size := by have := hb2.size; omega)
        | (go_at_call 11; refine (path_any n (-1) b ki _ l _ (hl.below RRoad.mono hb2')).mono ?_; rw [HPN.out]; rintro e w3 ⟨v3, rfl, i3, hb3⟩; have hb3' := hb2'.trans (hb3.mono hb2'.size)))
      go_ret
      exact ⟨rfl, hb3'⟩
    by_cases q2 : b < 0
    · skip
      go_enter Try.func7, Try.ntmps7
      go_wp2_with (first
        | (go_at_call 9; refine Calls.mono (small_any _) ?_; rintro e w1 ⟨rfl, hb1⟩; obtain ⟨hB1, hb1', hs1, hc10, hc11⟩ := box2s hb1)
        | (go_at_call 13; refine Calls.mono (check_any _ _ l _ (hl.below RRoad.mono hb1')) ?_; rintro e w2 ⟨rfl, hb2⟩; have hb2' := hb1'.trans (hb2.mono hb1'.size); have hc20 := (hb2.cell (p := ⟨w.heap.size, 0, none⟩) hs1).trans hc10; have hc21 := (hb2.cell (p := ⟨w.heap.size, 1, none⟩) hs1).trans hc11; have hs2 : w.heap.size < w2.heap.size := by have := hb2.size; omega)
        | (go_at_call 11; refine (path_any n (-1) b ki _ l _ (hl.below RRoad.mono hb2')).mono ?_; rw [HPN.out]; rintro e w3 ⟨v3, rfl, i3, hb3⟩; have hb3' := hb2'.trans (hb3.mono hb2'.size)))
      go_ret
      exact ⟨rfl, hb3'⟩
    by_cases q4 : n ≤ a
    · skip
      go_enter Try.func7, Try.ntmps7
      go_wp2_with (first
        | (go_at_call 9; refine Calls.mono (small_any _) ?_; rintro e w1 ⟨rfl, hb1⟩; obtain ⟨hB1, hb1', hs1, hc10, hc11⟩ := box2s hb1)
        | (go_at_call 13; refine Calls.mono (check_any _ _ l _ (hl.below RRoad.mono hb1')) ?_; rintro e w2 ⟨rfl, hb2⟩; have hb2' := hb1'.trans (hb2.mono hb1'.size); have hc20 := (hb2.cell (p := ⟨w.heap.size, 0, none⟩) hs1).trans hc10; have hc21 := (hb2.cell (p := ⟨w.heap.size, 1, none⟩) hs1).trans hc11; have hs2 : w.heap.size < w2.heap.size := by have := hb2.size; omega)
        | (go_at_call 11; refine (path_any n (-1) b ki _ l _ (hl.below RRoad.mono hb2')).mono ?_; rw [HPN.out]; rintro e w3 ⟨v3, rfl, i3, hb3⟩; have hb3' := hb2'.trans (hb3.mono hb2'.size)))
      go_ret
      exact ⟨rfl, hb3'⟩
    by_cases q5 : n ≤ b
    · skip
      go_enter Try.func7, Try.ntmps7
      go_wp2_with (first
        | (go_at_call 9; refine Calls.mono (small_any _) ?_; rintro e w1 ⟨rfl, hb1⟩; obtain ⟨hB1, hb1', hs1, hc10, hc11⟩ := box2s hb1)
        | (go_at_call 13; refine Calls.mono (check_any _ _ l _ (hl.below RRoad.mono hb1')) ?_; rintro e w2 ⟨rfl, hb2⟩; have hb2' := hb1'.trans (hb2.mono hb1'.size); have hc20 := (hb2.cell (p := ⟨w.heap.size, 0, none⟩) hs1).trans hc10; have hc21 := (hb2.cell (p := ⟨w.heap.size, 1, none⟩) hs1).trans hc11; have hs2 : w.heap.size < w2.heap.size := by have := hb2.size; omega)
        | (go_at_call 11; refine (path_any n (-1) b ki _ l _ (hl.below RRoad.mono hb2')).mono ?_; rw [HPN.out]; rintro e w3 ⟨v3, rfl, i3, hb3⟩; have hb3' := hb2'.trans (hb3.mono hb2'.size)))
      go_ret
      exact ⟨rfl, hb3'⟩
    obtain ⟨N, rfl⟩ : ∃ N : Nat, n = (N : Int) := ⟨n.toNat, by omega⟩
    obtain ⟨S, rfl⟩ : ∃ S : Nat, a = (S : Int) := ⟨a.toNat, by omega⟩
    obtain ⟨D, rfl⟩ : ∃ D : Nat, b = (D : Int) := ⟨b.toNat, by omega⟩
    have hS : S < N := by omega
    have hD : D < N := by omega
    have hSi : (S : Int) < (N : Int) := by omega
    have hDi : (D : Int) < (N : Int) := by omega
    have hG := good_of HC.out
    have hn := hG.nodes
    have d1 : decide ((S : Int) < 0) = false := by simp
    have d2 : decide ((D : Int) < 0) = false := by simp
    have d3 : decide (N ≤ S) = false := by simpa using hS
    have d4 : decide (N ≤ D) = false := by simpa using hD
    go_enter Try.func7, Try.ntmps7
    go_upto_region 5 with (first
      | (go_at_call 9; refine Calls.mono (small_any _) ?_; rintro e w1 ⟨rfl, hb1⟩; obtain ⟨hB1, hb1', hs1, hc10, hc11⟩ := box2s hb1)
      | (go_at_call 13; refine Calls.mono (check_any _ _ l _ (hl.below RRoad.mono hb1')) ?_; rintro e w2 ⟨rfl, hb2⟩; have hb2' := hb1'.trans (hb2.mono hb1'.size); have hc20 := (hb2.cell (p := ⟨w.heap.size, 0, none⟩) hs1).trans hc10; have hc21 := (hb2.cell (p := ⟨w.heap.size, 1, none⟩) hs1).trans hc11; have hs2 : w.heap.size < w2.heap.size := by have := hb2.size; omega))
    go_upto_region 6 with (go_at_call 16; refine Calls.mono (times_any _ _ _ _ l _ (hl.below RRoad.mono hb2')) ?_; rw [timesL_good HC.out hS]; rintro e w3 ⟨v3, rfl, hi3, hb3⟩)
    obtain ⟨tb, toff, tc, rfl, htb, htc⟩ := tl_cell hi3 (by omega)
    have hc30 := (hb3.cell (p := ⟨w.heap.size, 0, none⟩) hs2).trans hc20
    have hc31 := (hb3.cell (p := ⟨w.heap.size, 1, none⟩) hs2).trans hc21
    have hb3' := hb2'.trans (hb3.mono hb2'.size)
    have hs3 : w.heap.size < w3.heap.size := by have := hb3.size; omega
    have fD := htc D hD
    rw [← lef_eq] at fD
    clear htc
    cases hd : lef l ki D S with
    | none =>
      have HPL := Lib.hid (pathL_none HC.out hS hD hd)
      rw [hd] at fD
      simp only [encT] at fD
      clear hd
      go_upto_region 7 with (go_at_call 11; refine (path_any _ _ _ _ _ l _ (hl.below RRoad.mono hb3')).mono ?_; rw [HPL.out]; rintro e w4 ⟨v4, rfl, i4, hb4⟩)
      obtain ⟨a4, c4, hv4, _, _⟩ := i4.shape
      simp only [Option.getD_none, List.length_nil] at hv4
      subst hv4
      have hc40 := (hb4.cell (p := ⟨w.heap.size, 0, none⟩) hs3).trans hc30
      have fD4 := (hb4.cell (p := ⟨tb, toff + D, none⟩) htb).trans fD
      clear i4
      go_wp2_with fail
      go_ret
      exact ⟨rfl, hb3'.trans (hb4.mono hb3'.size)⟩
    | some d =>
      obtain ⟨p, hp, hpl⟩ := path_exists hG ki D d S hd
      have hpn : p.length ≤ 100 := by have := sooner_le (edges ki true l) N D d; omega
      have HPL := Lib.hid (pathL_some HC.out hS hD hd)
      have hpd := hp.dst
      have hdm : d = ms l p p.length := by have h := hpd.1; rw [← lef_eq, hd] at h; exact Option.some.inj h
      have hdb : d ≤ 100000000 := by
        have := dst_bound (hG.posi ki true) (hG.inn ki true) (hG.most ki true) (t := d) (v := S) (s := D) hd
        have := Nat.mul_le_mul_right 1000000 hn
        omega
      rw [hd] at fD
      simp only [encT] at fD
      have HD := Lib.hid hd; clear hd
      have HP := Lib.hid hp; clear hp
      have HPD := Lib.hid hpd; clear hpd
      have HDM := Lib.hid hdm; clear hdm
      go_upto_region 7 with (go_at_call 11; refine (path_any _ _ _ _ _ l _ (hl.below RRoad.mono hb3')).mono ?_; rw [HPL.out, pathP_eq HP.out]; rintro e w4 ⟨v4, rfl, i4, hb4⟩)
      simp only [Option.getD_some] at i4
      obtain ⟨a4, c4, hv4, hl4, hm4⟩ := i4.shape
      rw [List.length_map] at hv4 hl4
      subst hv4
      have hc40 := (hb4.cell (p := ⟨w.heap.size, 0, none⟩) hs3).trans hc30
      have hc41 := (hb4.cell (p := ⟨w.heap.size, 1, none⟩) hs3).trans hc31
      have fD4 := (hb4.cell (p := ⟨tb, toff + D, none⟩) htb).trans fD
      have hb4' := hb3'.trans (hb4.mono hb3'.size)
      have hs4 : w.heap.size < w4.heap.size := by have := hb4.size; omega
      have htb4 : tb < w4.heap.size := by have := hb4.size; omega
      have hg1 : decide ((0 : Int) ≤ (d : Int)) = true := by simp
      have hroads := hl.below RRoad.mono hb4'
      have hlp : (p.map fun i : Nat => (i : Int)).length = p.length := by simp
      go_upto_region 18 with fail
      obtain ⟨kk, hkk⟩ : ∃ kk, kk = cut % ((p.length : Int) + 1) := ⟨_, rfl⟩
      rw [← hkk]
      have hk0 : 0 ≤ kk := by rw [hkk]; exact Int.emod_nonneg _ (by omega)
      have hk1 : kk < (p.length : Int) + 1 := by rw [hkk]; exact Int.emod_lt_of_pos _ (by omega)
      clear hkk
      obtain ⟨K, rfl⟩ : ∃ K : Nat, kk = (K : Int) := ⟨kk.toNat, by omega⟩
      have hK : K ≤ p.length := by omega
      go_loopw [18, 19, 20, 21] (fun m c t i wr => ∃ j : Nat, j ≤ p.length ∧ m = I (mid l S p K j) ∧ c = I (nd l S p j) ∧ t = I (ms l p j) ∧ i = I j ∧ Below w4.heap.size w4 wr) (fun _ _ _ i _ => p.length - (intOf i).toNat)
      case atStart => exact ⟨0, by omega, by rw [mid_zero], by rw [nd_zero], by rw [ms_zero]; rfl, rfl, Below.refl _ _⟩
      case round =>
        obtain ⟨j, hj, rfl, rfl, rfl, rfl, hB⟩ := hrel
        have hc1 := (hB.cell (p := ⟨w.heap.size, 1, none⟩) hs4).trans hc41
        have hc0 := (hB.cell (p := ⟨w.heap.size, 0, none⟩) hs4).trans hc40
        have hBw := hb4'.trans (hB.mono hb4'.size)
        by_cases hlt : j < p.length
        · obtain ⟨i, x, e1, e2, e3, e4, e5, e6⟩ := HP.out.road j hlt
          have hil := (List.getElem?_eq_some_iff.1 e2).1
          obtain ⟨rb, ro, y, rfl, hrbl, hy, g0, g1, g2, g3⟩ := RoadsAt.get4 (hroads.below RRoad.mono hB) hil
          have hyx : y = x := Option.some.inj (hy.out.symm.trans e2)
          subst hyx
          obtain ⟨lb, lo, rfl, hlbl, hlc⟩ := IntsAt.row (i4.below RInt.mono hB) (by rw [hlp]; omega)
          have f0 := hlc j (i : Int) (by rw [List.getElem?_map, e1]; rfl)
          obtain ⟨r1, r2, r3, r4, r5, r6⟩ := hG.road y (List.mem_of_getElem? e2)
          have hsum := PathR.le HP.out (by omega : j + 1 ≤ p.length)
          rw [← HDM.out] at hsum
          have hji : (j : Int) < (p.length : Int) := by omega
          have hii : (i : Int) < (l.length : Int) := by omega
          have b1 : decide ((i : Int) < 0) = false := by simp
          have b2 : ((y.fr) != ((nd l S p j : Nat) : Int)) = false := by rw [e3]; simp
          have hmi : y.mi = ((y.mi.toNat : Nat) : Int) := by omega
          have hto : y.to = ((nd l S p (j + 1) : Nat) : Int) := by rw [e5]; omega
          have hms : 0 ≤ ((ms l p j : Nat) : Int) ∧ ((ms l p j : Nat) : Int) + y.mi ≤ 100000000 := by omega
          obtain ⟨hms0, hms1⟩ := hms
          have r3' : 0 ≤ y.mi := by omega
          have HMI := Lib.hid hmi; clear hmi
          have HTO := Lib.hid hto; clear hto
          have H6 := Lib.hid e6; clear e6
          clear e1 e2 e3 e5 hy hlc hsum
          go_upto_region 20 with fail
          go_quiet (fail)
          go_upto_region 22 with fail
          obtain ⟨wz, hwz⟩ : ∃ wz, wz = wr.drewN nq := ⟨_, rfl⟩
          rw [← hwz]
          have hBz : Below w4.heap.size w4 wz := by rw [hwz]; exact drewN_below hB _
          have k1 : wz.cell? ⟨w.heap.size, 1, none⟩ = some (.slice (some ⟨rb, ro, none⟩) l.length cap) := by rw [hwz]; exact hc1
          have f0 : wz.cell? ⟨lb, lo + j, none⟩ = some (I i) := by rw [hwz]; exact f0
          have g0 : wz.cell? ⟨rb, ro + i * 4, none⟩ = some (I y.fr) := by rw [hwz]; exact g0
          have g1 : wz.cell? ⟨rb, ro + i * 4 + 1, none⟩ = some (I y.to) := by rw [hwz]; exact g1
          have g2 : wz.cell? ⟨rb, ro + i * 4 + 2, none⟩ = some (I y.mi) := by rw [hwz]; exact g2
          have g3 : wz.cell? ⟨rb, ro + i * 4 + 3, none⟩ = some (I y.li) := by rw [hwz]; exact g3
          have hrbl : rb < wz.heap.size := by rw [hwz]; exact hrbl
          have hlbl : lb < wz.heap.size := by rw [hwz]; exact hlbl
          have hswr : w.heap.size < wz.heap.size := by have := hBz.size; omega
          clear hwz
          refine wp_region_rel_last (by rfl) (by kernel_rfl) (by kernel_rfl) (by kernel_rfl) (by kernel_rfl) ?_
          simp only [List.dropLast_cons_cons, List.dropLast_singleton]
          repeat (first
            | (with_reducible apply rel_is
               · intro wx hx
                 have hc := (bcell hx).2.1
                 try simp only [List.nil_append, List.cons_append]
                 repeat (first | with_reducible refine reads_is ?_ | (with_reducible refine reads_skip ?_ ?_; (· decide +kernel)) | (with_reducible refine reads_take ?_ ?_; (· decide +kernel); intro u hu))
                 with_reducible refine reads_nil ?_
                 go_simp
                 exact ⟨Grows.refl _, rfl⟩)
            | (refine rel_of (NewAt 38 (.agg #[I 0, I 0, I 0, I 0]) wz.heap.size) (newAt_mono _ _ _) ?_ ?_
               · intro wx hx
                 try simp only [List.nil_append, List.cons_append]
                 repeat (first | with_reducible refine reads_is ?_ | (with_reducible refine reads_skip ?_ ?_; (· decide +kernel)) | (with_reducible refine reads_take ?_ ?_; (· decide +kernel); intro u hu))
                 with_reducible refine reads_nil ?_
                 go_simp
                 exact ⟨belowA (Below.refl _ _) (Nat.le_refl _), _, rfl, hx.size, heap_alloc_new _ _⟩))
          with_reducible refine rel_end ?_
          intro w6 hg6
          simp only [List.nil_append, List.cons_append]
          repeat (first | with_reducible refine final_is ?_ | (with_reducible refine final_of ?_; intro u hu))
          with_reducible refine final_nil ?_
          rw [if_pos (by rfl)]
          go_frame
          obtain ⟨bx, rfl, hbx1, hbx2⟩ := hu
          have kx0 : w6.cell? ⟨bx, 0, none⟩ = some (I 0) := by rw [cell_of_row w6 bx 0 _ _ (0, 0) hbx2]; rfl
          have kx1 : w6.cell? ⟨bx, 1, none⟩ = some (I 0) := by rw [cell_of_row w6 bx 1 _ _ (0, 0) hbx2]; rfl
          have kx2 : w6.cell? ⟨bx, 2, none⟩ = some (I 0) := by rw [cell_of_row w6 bx 2 _ _ (0, 0) hbx2]; rfl
          have kx3 : w6.cell? ⟨bx, 3, none⟩ = some (I 0) := by rw [cell_of_row w6 bx 3 _ _ (0, 0) hbx2]; rfl
          have kf := fun i => frozen_of_row w6 bx i _ _ hbx2
          have k60 := (hg6.cell (p := ⟨w.heap.size, 1, none⟩) hswr).trans k1
          go_simp
          obtain ⟨wA, hwA⟩ : ∃ wA, wA = ((((w6.setCell ⟨bx, 0, none⟩ (I y.fr)).setCell ⟨bx, 1, none⟩ (I y.to)).setCell ⟨bx, 2, none⟩ (I y.mi)).setCell ⟨bx, 3, none⟩ (I y.li)) := ⟨_, rfl⟩
          rw [← hwA]
          have hbA := box4_set (v0 := I y.fr) (v1 := I y.to) (v2 := I y.mi) (v3 := I y.li) hbx2
          rw [← hwA] at hbA
          have hle : w4.heap.size ≤ bx := by have := hBz.size; omega
          have hBA : Below w4.heap.size w4 wA := by rw [hwA]; exact ((((hBz.trans (hg6.mono hBz.size)).setCell (p := ⟨bx, 0, none⟩) hle _).setCell (p := ⟨bx, 1, none⟩) hle _).setCell (p := ⟨bx, 2, none⟩) hle _).setCell (p := ⟨bx, 3, none⟩) hle _
          have x0 : wA.cell? ⟨bx, 0, none⟩ = some (I y.fr) := by rw [cell_of_row wA bx 0 _ _ (0, 0) hbA]; rfl
          have x1 : wA.cell? ⟨bx, 1, none⟩ = some (I y.to) := by rw [cell_of_row wA bx 1 _ _ (0, 0) hbA]; rfl
          have x2 : wA.cell? ⟨bx, 2, none⟩ = some (I y.mi) := by rw [cell_of_row wA bx 2 _ _ (0, 0) hbA]; rfl
          have x3 : wA.cell? ⟨bx, 3, none⟩ = some (I y.li) := by rw [cell_of_row wA bx 3 _ _ (0, 0) hbA]; rfl
          clear hwA hbx2 kx0 kx1 kx2 kx3 kf k60 hbA hg6 k1 f0 g0 g1 g2 g3 hc1 hc0
          have hcar : (y.li != (-1 : Int)) = false ∨ ((y.li != (-1 : Int)) = true ∧ decide (y.li < ki) = false) := by
            have h := e4
            simp only [carB, Bool.or_eq_true, decide_eq_true_eq] at h
            by_cases hm1 : y.li = -1
            · left; simp [hm1]
            · right; refine ⟨by simpa using hm1, by simp; omega⟩
          clear e4
          by_cases hjK : j + 1 = K
          · have hb : ((j : Int) + 1 == (K : Int)) = true := by rw [beq_iff_eq]; omega
            have hmh := mid_hit l S p hjK
            have HMH := Lib.hid hmh; clear hmh hjK
            rcases hcar with c1 | ⟨c1, c2⟩
            all_goals
              go_wp2_with fail
              go_roundw
              case rel => exact ⟨j + 1, by omega, by rw [HMH.out, HTO.out], by rw [HTO.out], by rw [H6.out, HMI.out]; go_num, by go_num, hBA⟩
              case measure => simp [intOf]; omega
          · have hb : ((j : Int) + 1 == (K : Int)) = false := by rw [beq_eq_false_iff_ne]; omega
            have hmh := mid_miss l S p hjK
            have HMH := Lib.hid hmh; clear hmh hjK
            rcases hcar with c1 | ⟨c1, c2⟩
            all_goals
              go_wp2_with fail
              go_roundw
              case rel => exact ⟨j + 1, by omega, by rw [HMH.out], by rw [HTO.out], by rw [H6.out, HMI.out]; go_num, by go_num, hBA⟩
              case measure => simp [intOf]; omega
        · have e : j = p.length := by omega
          subst e
          have hmid := mid_end l S p (k := K) (j := p.length) hK
          obtain ⟨hp1, hp2⟩ := pathL_part HC.out hS hD HD.out HP.out hK
          have hnd := HPD.out.2
          have hmN := nd_le hG HP.out hS K
          have HP1 := Lib.hid hp1; clear hp1
          have HP2 := Lib.hid hp2; clear hp2
          have hdd := HDM.out
          subst hdd
          obtain ⟨M, hM⟩ : ∃ M, M = nd l S p K := ⟨_, rfl⟩
          rw [← hM] at hmid HP1 HP2 hmN
          clear hM
          have fD5 := (hB.cell (p := ⟨tb, toff + D, none⟩) htb4).trans fD4
          have i5 := i4.below RInt.mono hB
          have hsw : w.heap.size < wr.heap.size := by have := hB.size; omega
          have htb5 : tb < wr.heap.size := by have := hB.size; omega
          go_upto_region 30 with (go_at_call 11; refine (path_any _ _ _ _ _ l _ (hl.below RRoad.mono hBw)).mono ?_; rw [HP1.out]; rintro e w6 ⟨v6, rfl, i6, hb6⟩)
          simp only [Option.getD_some] at i6
          have hc60 := (hb6.cell (p := ⟨w.heap.size, 0, none⟩) hsw).trans hc0
          have hc61 := (hb6.cell (p := ⟨w.heap.size, 1, none⟩) hsw).trans hc1
          have fD6 := (hb6.cell (p := ⟨tb, toff + D, none⟩) htb5).trans fD5
          have hb6' := hBw.trans (hb6.mono hBw.size)
          have htb6 : tb < w6.heap.size := by have := hb6.size; omega
          go_upto_region 31 with (go_at_call 11; refine (path_any _ _ _ _ _ l _ (hl.below RRoad.mono hb6')).mono ?_; rw [HP2.out]; rintro e w7 ⟨v7, rfl, i7, hb7⟩)
          simp only [Option.getD_some] at i7
          have fD7 := (hb7.cell (p := ⟨tb, toff + D, none⟩) htb6).trans fD6
          have hb7' := hb6'.trans (hb7.mono hb6'.size)
          have i57 := (i5.below RInt.mono hb6).below RInt.mono hb7
          have i67 := i6.below RInt.mono hb7
          have hKi : (K : Int) ≤ (p.length : Int) := by omega
          have hKc : K ≤ c4 := by omega
          have hKci : (K : Int) ≤ (c4 : Int) := by omega
          have hlci : (p.length : Int) ≤ (c4 : Int) := by omega
          go_wp2_with (go_at_call 15; fail)
          go_at_call 15
          have i8 := ints_take i57 hK
          rw [← List.map_take] at i8
          refine Calls.mono (same_yes _ _ _ _ i67 i8) ?_
          rintro e w8 ⟨rfl, hb8⟩
          have hb8' := hb7'.trans (hb8.mono hb7'.size)
          have i9 := ints_drop (i57.below RInt.mono hb8) hK
          rw [← List.map_drop] at i9
          have i79 := i7.below RInt.mono hb8
          have i9a : Hid (c4 = K → IntsAt w8 (.slice a4 (p.length - K) 0) ((p.drop K).map fun i : Nat => (i : Int))) := Lib.hid (fun e => by rw [if_pos e, show c4 - K = 0 from by omega] at i9; exact i9)
          have i9b : Hid (¬ c4 = K → IntsAt w8 (.slice (a4.map (·.add K)) (p.length - K) (c4 - K)) ((p.drop K).map fun i : Nat => (i : Int))) := Lib.hid (fun e => by rw [if_neg e] at i9; exact i9)
          clear i9
          go_wp2_with (go_at_call 15; fail)
          all_goals
            go_at_call 15
            refine Calls.mono (same_yes _ _ _ _ i79 (by first | exact i9b.out (by assumption) | exact i9a.out (by assumption) | exact i9a.out (by omega))) ?_
            rintro e w9 ⟨rfl, hb9⟩
            go_wp2_with fail
            go_ret
            exact ⟨rfl, hb8'.trans (hb9.mono hb8'.size)⟩
  · have hcb : (chkNet n l != 0) = true := by simpa using hc
    clear hc
    go_enter Try.func7, Try.ntmps7
    go_wp2_with (first
      | (go_at_call 9; refine Calls.mono (small_any _) ?_; rintro e w1 ⟨rfl, hb1⟩; obtain ⟨hB1, hb1', hs1, hc10, hc11⟩ := box2s hb1)
      | (go_at_call 13; refine Calls.mono (check_any _ _ l _ (hl.below RRoad.mono hb1')) ?_; rintro e w2 ⟨rfl, hb2⟩; have hb2' := hb1'.trans (hb2.mono hb1'.size); have hc20 := (hb2.cell (p := ⟨w.heap.size, 0, none⟩) hs1).trans hc10; have hc21 := (hb2.cell (p := ⟨w.heap.size, 1, none⟩) hs1).trans hc11; have hs2 : w.heap.size < w2.heap.size := by have := hb2.size; omega)
      | (go_at_call 11; refine (path_any n (-1) b ki _ l _ (hl.below RRoad.mono hb2')).mono ?_; rw [HPN.out]; rintro e w3 ⟨v3, rfl, i3, hb3⟩; have hb3' := hb2'.trans (hb3.mono hb2'.size)))
    go_ret
    exact ⟨rfl, hb3'⟩
end Go.Proofs.Ytmmbomkbaebodaa
