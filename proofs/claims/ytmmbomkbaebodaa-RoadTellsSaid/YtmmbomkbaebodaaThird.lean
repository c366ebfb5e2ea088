/-
  RoadThird: the walk.
-/
import Derived.Test.YtmmbomkbaebodaaSmallW
namespace Go.Proofs.Ytmmbomkbaebodaa
set_option linter.unusedVariables false
set_option linter.unusedSimpArgs false
open Go.RowKit

theorem Way.trans {E : List Ed} {a b c t u : Nat} (h : Way E a b t) (k : Way E b c u) : Way E a c (t + u) := by
  induction k with
  | nil => exact h
  | snoc e he _ ih => rw [← Nat.add_assoc]; exact .snoc e he ih
theorem dst_tri {E : List Ed} {a b c d1 d2 : Nat} (h1 : dst E a b = some d1) (h2 : dst E b c = some d2) : ∃ d3, dst E a c = some d3 ∧ d3 ≤ d1 + d2 := dst_of_way ((dst_way h1).trans (dst_way h2))
theorem dst_pos {E : List Ed} (hp : Posi E) {a b d : Nat} (h : dst E a b = some d) (hab : a ≠ b) : 1 ≤ d := by
  rcases dst_last h with ⟨h, _⟩ | ⟨e, he, _, u, _, rfl⟩
  · exact absurd h.symm hab
  · have := hp e he; omega

set_option maxRecDepth 100000 in
set_option maxHeartbeats 40000000 in
theorem third_any (n a b c ki : Int) (v : Value) (l : List Rd) (w : World) (hl : RoadsAt w v l) :
    Calls Try.prog 5 #[.agg #[I n, v], I a, I b, I c, I ki] w fun e w' => e = .returned (.bool true) ∧ Below w.heap.size w w' := by
  obtain ⟨ad, cap, rfl, hlc, hcap⟩ := hl.shape
  by_cases hc : chkNet n l = 0
  · have hcb : (chkNet n l != 0) = false := by simp [hc]
    obtain ⟨h0, h1, h2, h3⟩ := chkNet_zero hc
    have HC := Lib.hid hc; clear hc h3
    by_cases q1 : a < 0
    · skip
      go_enter Try.func5, Try.ntmps5
      go_wp2_with (first
        | (go_at_call 9; refine Calls.mono (small_any _) ?_; rintro e w1 ⟨rfl, hb1⟩; obtain ⟨hB1, hb1', hs1, hc10, hc11⟩ := box2s hb1)
        | (go_at_call 13; refine Calls.mono (check_any _ _ l _ (hl.below RRoad.mono hb1')) ?_; rintro e w2 ⟨rfl, hb2⟩; have hb2' := hb1'.trans (hb2.mono hb1'.size); have hc20 := (hb2.cell (p := ⟨w.heap.size, 0, none⟩) hs1).trans hc10; have hc21 := (hb2.cell (p := ⟨w.heap.size, 1, none⟩) hs1).trans hc11; have hs2 : w.heap.size < w2.heap.size := by have := hb2.size; omega))
      go_ret
      exact ⟨rfl, hb2'⟩
    by_cases q2 : b < 0
    · skip
      go_enter Try.func5, Try.ntmps5
      go_wp2_with (first
        | (go_at_call 9; refine Calls.mono (small_any _) ?_; rintro e w1 ⟨rfl, hb1⟩; obtain ⟨hB1, hb1', hs1, hc10, hc11⟩ := box2s hb1)
        | (go_at_call 13; refine Calls.mono (check_any _ _ l _ (hl.below RRoad.mono hb1')) ?_; rintro e w2 ⟨rfl, hb2⟩; have hb2' := hb1'.trans (hb2.mono hb1'.size); have hc20 := (hb2.cell (p := ⟨w.heap.size, 0, none⟩) hs1).trans hc10; have hc21 := (hb2.cell (p := ⟨w.heap.size, 1, none⟩) hs1).trans hc11; have hs2 : w.heap.size < w2.heap.size := by have := hb2.size; omega))
      go_ret
      exact ⟨rfl, hb2'⟩
    by_cases q3 : c < 0
    · skip
      go_enter Try.func5, Try.ntmps5
      go_wp2_with (first
        | (go_at_call 9; refine Calls.mono (small_any _) ?_; rintro e w1 ⟨rfl, hb1⟩; obtain ⟨hB1, hb1', hs1, hc10, hc11⟩ := box2s hb1)
        | (go_at_call 13; refine Calls.mono (check_any _ _ l _ (hl.below RRoad.mono hb1')) ?_; rintro e w2 ⟨rfl, hb2⟩; have hb2' := hb1'.trans (hb2.mono hb1'.size); have hc20 := (hb2.cell (p := ⟨w.heap.size, 0, none⟩) hs1).trans hc10; have hc21 := (hb2.cell (p := ⟨w.heap.size, 1, none⟩) hs1).trans hc11; have hs2 : w.heap.size < w2.heap.size := by have := hb2.size; omega))
      go_ret
      exact ⟨rfl, hb2'⟩
    by_cases q4 : n ≤ a
    · skip
      go_enter Try.func5, Try.ntmps5
      go_wp2_with (first
        | (go_at_call 9; refine Calls.mono (small_any _) ?_; rintro e w1 ⟨rfl, hb1⟩; obtain ⟨hB1, hb1', hs1, hc10, hc11⟩ := box2s hb1)
        | (go_at_call 13; refine Calls.mono (check_any _ _ l _ (hl.below RRoad.mono hb1')) ?_; rintro e w2 ⟨rfl, hb2⟩; have hb2' := hb1'.trans (hb2.mono hb1'.size); have hc20 := (hb2.cell (p := ⟨w.heap.size, 0, none⟩) hs1).trans hc10; have hc21 := (hb2.cell (p := ⟨w.heap.size, 1, none⟩) hs1).trans hc11; have hs2 : w.heap.size < w2.heap.size := by have := hb2.size; omega))
      go_ret
      exact ⟨rfl, hb2'⟩
    by_cases q5 : n ≤ b
    · skip
      go_enter Try.func5, Try.ntmps5
      go_wp2_with (first
        | (go_at_call 9; refine Calls.mono (small_any _) ?_; rintro e w1 ⟨rfl, hb1⟩; obtain ⟨hB1, hb1', hs1, hc10, hc11⟩ := box2s hb1)
        | (go_at_call 13; refine Calls.mono (check_any _ _ l _ (hl.below RRoad.mono hb1')) ?_; rintro e w2 ⟨rfl, hb2⟩; have hb2' := hb1'.trans (hb2.mono hb1'.size); have hc20 := (hb2.cell (p := ⟨w.heap.size, 0, none⟩) hs1).trans hc10; have hc21 := (hb2.cell (p := ⟨w.heap.size, 1, none⟩) hs1).trans hc11; have hs2 : w.heap.size < w2.heap.size := by have := hb2.size; omega))
      go_ret
      exact ⟨rfl, hb2'⟩
    by_cases q6 : n ≤ c
    · skip
      go_enter Try.func5, Try.ntmps5
      go_wp2_with (first
        | (go_at_call 9; refine Calls.mono (small_any _) ?_; rintro e w1 ⟨rfl, hb1⟩; obtain ⟨hB1, hb1', hs1, hc10, hc11⟩ := box2s hb1)
        | (go_at_call 13; refine Calls.mono (check_any _ _ l _ (hl.below RRoad.mono hb1')) ?_; rintro e w2 ⟨rfl, hb2⟩; have hb2' := hb1'.trans (hb2.mono hb1'.size); have hc20 := (hb2.cell (p := ⟨w.heap.size, 0, none⟩) hs1).trans hc10; have hc21 := (hb2.cell (p := ⟨w.heap.size, 1, none⟩) hs1).trans hc11; have hs2 : w.heap.size < w2.heap.size := by have := hb2.size; omega))
      go_ret
      exact ⟨rfl, hb2'⟩
    obtain ⟨N, rfl⟩ : ∃ N : Nat, n = (N : Int) := ⟨n.toNat, by omega⟩
    obtain ⟨x, rfl⟩ : ∃ x : Nat, a = (x : Int) := ⟨a.toNat, by omega⟩
    obtain ⟨y, rfl⟩ : ∃ y : Nat, b = (y : Int) := ⟨b.toNat, by omega⟩
    obtain ⟨z, rfl⟩ : ∃ z : Nat, c = (z : Int) := ⟨c.toNat, by omega⟩
    have hG := good_of HC.out
    have hx : x < N := by omega
    have hy : y < N := by omega
    have hz : z < N := by omega
    have hxi : (x : Int) < (N : Int) := by omega
    have hyi : (y : Int) < (N : Int) := by omega
    have hzi : (z : Int) < (N : Int) := by omega
    have hn := hG.nodes
    go_enter Try.func5, Try.ntmps5
    go_upto_region 4 with (first
      | (go_at_call 9; refine Calls.mono (small_any _) ?_; rintro e w1 ⟨rfl, hb1⟩; obtain ⟨hB1, hb1', hs1, hc10, hc11⟩ := box2s hb1)
      | (go_at_call 13; refine Calls.mono (check_any _ _ l _ (hl.below RRoad.mono hb1')) ?_; rintro e w2 ⟨rfl, hb2⟩; have hb2' := hb1'.trans (hb2.mono hb1'.size); have hc20 := (hb2.cell (p := ⟨w.heap.size, 0, none⟩) hs1).trans hc10; have hc21 := (hb2.cell (p := ⟨w.heap.size, 1, none⟩) hs1).trans hc11; have hs2 : w.heap.size < w2.heap.size := by have := hb2.size; omega))
    go_upto_region 5 with (go_at_call 16; refine Calls.mono (times_any _ _ _ _ l _ (hl.below RRoad.mono hb2')) ?_; rw [timesL_good HC.out hx]; rintro e w3 ⟨v3, rfl, hi3, hb3⟩)
    obtain ⟨tb, toff, tc, rfl, htb, htc⟩ := tl_cell hi3 (by omega)
    have hc30 := (hb3.cell (p := ⟨w.heap.size, 0, none⟩) hs2).trans hc20
    have hc31 := (hb3.cell (p := ⟨w.heap.size, 1, none⟩) hs2).trans hc21
    have hb3' := hb2'.trans (hb3.mono hb2'.size)
    have hs3 : w.heap.size < w3.heap.size := by have := hb3.size; omega
    go_upto_region 6 with (go_at_call 16; refine Calls.mono (times_any _ _ _ _ l _ (hl.below RRoad.mono hb3')) ?_; rw [timesL_good HC.out hy]; rintro e w4 ⟨v4, rfl, hi4, hb4⟩)
    obtain ⟨ub, uoff, uc, rfl, hub, huc⟩ := tl_cell hi4 (by omega)
    have hc40 := (hb4.cell (p := ⟨w.heap.size, 0, none⟩) hs3).trans hc30
    have hb4' := hb3'.trans (hb4.mono hb3'.size)
    have fA := (hb4.cell (p := ⟨tb, toff + x, none⟩) htb).trans (htc x hx)
    have fB := (hb4.cell (p := ⟨tb, toff + y, none⟩) htb).trans (htc y hy)
    have fC := (hb4.cell (p := ⟨tb, toff + z, none⟩) htb).trans (htc z hz)
    have sC := huc z hz
    rw [dst_self] at fA
    simp only [encT, Int.ofNat_zero, Int.cast_ofNat_Int] at fA
    clear htc huc
    cases hxy : dst (edges ki false l) x y with
    | none =>
      have hne : ((x : Int) != (y : Int)) = true := by rw [bne_iff_ne]; intro h; have h : x = y := (by omega); subst h; rw [dst_self] at hxy; cases hxy
      rw [hxy] at fB
      simp only [encT] at fB
      clear hxy fC sC
      go_wp2_with fail
      go_ret
      exact ⟨rfl, hb4'⟩
    | some d1 =>
      have hd1 : d1 ≤ 100000000 := by
        have := dst_bound (hG.posi ki false) (hG.inn ki false) (hG.most ki false) hxy
        have := Nat.mul_le_mul_right 1000000 hn
        omega
      have k1 : ¬ ((d1 : Int) < -1) := by omega
      have k2 : ¬ ((100000000 : Int) < (d1 : Int)) := by omega
      have k3 : ¬ ((d1 : Int) < 0) := by omega
      have hdd : ((x : Int) != (y : Int)) = false ∨ (((x : Int) != (y : Int)) = true ∧ ((d1 : Int) == 0) = false) := by
        by_cases h : x = y
        · left; simp [h]
        · right
          have := dst_pos (hG.posi ki false) hxy h
          refine ⟨by simp; omega, by simp; omega⟩
      rw [hxy] at fB
      simp only [encT] at fB
      cases hyz : dst (edges ki false l) y z with
      | none =>
        rw [hyz] at sC
        simp only [encT] at sC
        clear hxy hyz fC
        rcases hdd with e1 | ⟨e1, e2⟩
        all_goals
          go_wp2_with fail
          go_ret
          exact ⟨rfl, hb4'⟩
      | some d2 =>
        obtain ⟨d3, hxz, hle⟩ := dst_tri hxy hyz
        have hd2 : d2 ≤ 100000000 := by
          have := dst_bound (hG.posi ki false) (hG.inn ki false) (hG.most ki false) hyz
          have := Nat.mul_le_mul_right 1000000 hn
          omega
        rw [hyz] at sC
        rw [hxz] at fC
        simp only [encT] at sC fC
        have k4 : ¬ ((d2 : Int) < 0) := by omega
        have k5 : (0 : Int) ≤ (d3 : Int) := by omega
        have k6 : (d3 : Int) ≤ (d1 : Int) + (d2 : Int) := by omega
        clear hxy hyz hxz
        rcases hdd with e1 | ⟨e1, e2⟩
        all_goals
          go_upto_region 12 with fail
          go_quiet (fail)
          go_wp2_with fail
          go_ret
          exact ⟨rfl, drewN_below hb4' _⟩
  · have hcb : (chkNet n l != 0) = true := by simpa using hc
    clear hc
    go_enter Try.func5, Try.ntmps5
    go_wp2_with (first
      | (go_at_call 9; refine Calls.mono (small_any _) ?_; rintro e w1 ⟨rfl, hb1⟩; obtain ⟨hB1, hb1', hs1, hc10, hc11⟩ := box2s hb1)
      | (go_at_call 13; refine Calls.mono (check_any _ _ l _ (hl.below RRoad.mono hb1')) ?_; rintro e w2 ⟨rfl, hb2⟩; have hb2' := hb1'.trans (hb2.mono hb1'.size); have hc20 := (hb2.cell (p := ⟨w.heap.size, 0, none⟩) hs1).trans hc10; have hc21 := (hb2.cell (p := ⟨w.heap.size, 1, none⟩) hs1).trans hc11; have hs2 : w.heap.size < w2.heap.size := by have := hb2.size; omega))
    go_ret
    exact ⟨rfl, hb2'⟩
end Go.Proofs.Ytmmbomkbaebodaa
