/-
  RoadProves: the walk.
-/
import Derived.Test.YtmmbomkbaebodaaSmallW
namespace Go.Proofs.Ytmmbomkbaebodaa
set_option linter.unusedVariables false
set_option linter.unusedSimpArgs false
open Go.RowKit

theorem provesL_neg (n ki : Int) (l : List Rd) (ts : List Int) : provesL n l (-1) ki ts = false := by
  unfold provesL
  rw [decide_eq_false_iff_not]
  rintro ⟨_, h, _⟩
  omega
theorem provesL_dec {N S : Nat} {ki : Int} {l : List Rd} {ts : List Int} (hc : chkNet N l = 0) (hS : S < N) : provesL N l S ki ts = decide (ts = dlist (edges ki false l) N S) := by
  by_cases h : ts = dlist (edges ki false l) N S
  · rw [← proves_yes hc hS h]; simp [h]
  · rw [← proves_no hc hS h]; simp [h]

set_option maxRecDepth 100000 in
set_option maxHeartbeats 40000000 in
theorem provesLaw_any (n s ki : Int) (v vt : Value) (l : List Rd) (ts : List Int) (w : World) (hl : RoadsAt w v l) (ht : IntsAt w vt ts) :
    Calls Try.prog 4 #[.agg #[I n, v], I s, I ki, vt] w fun e w' => e = .returned (.bool true) ∧ Below w.heap.size w w' := by
  obtain ⟨ad, cap, rfl, hlc, hcap⟩ := hl.shape
  obtain ⟨at2, ct, hvt, htc, htm⟩ := ht.shape
  subst hvt
  unfold maxLen at htm
  have hPn := provesL_neg n ki l ts
  by_cases hc : chkNet n l = 0
  · have hcb : (chkNet n l != 0) = false := by simp [hc]
    obtain ⟨h0, h1, h2, h3⟩ := chkNet_zero hc
    have HC := Lib.hid hc; clear hc h3
    by_cases q1 : s < 0
    · have HPn := Lib.hid hPn; clear hPn
      go_enter Try.func4, Try.ntmps4
      go_wp2_with (first
        | (go_at_call 9; refine Calls.mono (small_any _) ?_; rintro e w1 ⟨rfl, hb1⟩; obtain ⟨hB1, hb1', hs1, hc10, hc11⟩ := box2s hb1)
        | (go_at_call 13; refine Calls.mono (check_any _ _ l _ (hl.below RRoad.mono hb1')) ?_; rintro e w2 ⟨rfl, hb2⟩; have hb2' := hb1'.trans (hb2.mono hb1'.size); have hc20 := (hb2.cell (p := ⟨w.heap.size, 0, none⟩) hs1).trans hc10; have hc21 := (hb2.cell (p := ⟨w.heap.size, 1, none⟩) hs1).trans hc11; have hs2 : w.heap.size < w2.heap.size := by have := hb2.size; omega)
        | (go_at_call 18; refine Calls.mono (proves_is n (-1) ki _ _ l ts _ (hl.below RRoad.mono hb2') (ht.below RInt.mono hb2') HPn.out) ?_; rintro e w3 ⟨rfl, hb3⟩; have hb3' := hb2'.trans (hb3.mono hb2'.size)))
      go_ret
      exact ⟨rfl, hb3'⟩
    by_cases q2 : n ≤ s
    · have HPn := Lib.hid hPn; clear hPn
      go_enter Try.func4, Try.ntmps4
      go_wp2_with (first
        | (go_at_call 9; refine Calls.mono (small_any _) ?_; rintro e w1 ⟨rfl, hb1⟩; obtain ⟨hB1, hb1', hs1, hc10, hc11⟩ := box2s hb1)
        | (go_at_call 13; refine Calls.mono (check_any _ _ l _ (hl.below RRoad.mono hb1')) ?_; rintro e w2 ⟨rfl, hb2⟩; have hb2' := hb1'.trans (hb2.mono hb1'.size); have hc20 := (hb2.cell (p := ⟨w.heap.size, 0, none⟩) hs1).trans hc10; have hc21 := (hb2.cell (p := ⟨w.heap.size, 1, none⟩) hs1).trans hc11; have hs2 : w.heap.size < w2.heap.size := by have := hb2.size; omega)
        | (go_at_call 18; refine Calls.mono (proves_is n (-1) ki _ _ l ts _ (hl.below RRoad.mono hb2') (ht.below RInt.mono hb2') HPn.out) ?_; rintro e w3 ⟨rfl, hb3⟩; have hb3' := hb2'.trans (hb3.mono hb2'.size)))
      go_ret
      exact ⟨rfl, hb3'⟩
    by_cases q3 : (100 : Int) < (ts.length : Int)
    · have HPn := Lib.hid hPn; clear hPn
      go_enter Try.func4, Try.ntmps4
      go_wp2_with (first
        | (go_at_call 9; refine Calls.mono (small_any _) ?_; rintro e w1 ⟨rfl, hb1⟩; obtain ⟨hB1, hb1', hs1, hc10, hc11⟩ := box2s hb1)
        | (go_at_call 13; refine Calls.mono (check_any _ _ l _ (hl.below RRoad.mono hb1')) ?_; rintro e w2 ⟨rfl, hb2⟩; have hb2' := hb1'.trans (hb2.mono hb1'.size); have hc20 := (hb2.cell (p := ⟨w.heap.size, 0, none⟩) hs1).trans hc10; have hc21 := (hb2.cell (p := ⟨w.heap.size, 1, none⟩) hs1).trans hc11; have hs2 : w.heap.size < w2.heap.size := by have := hb2.size; omega)
        | (go_at_call 18; refine Calls.mono (proves_is n (-1) ki _ _ l ts _ (hl.below RRoad.mono hb2') (ht.below RInt.mono hb2') HPn.out) ?_; rintro e w3 ⟨rfl, hb3⟩; have hb3' := hb2'.trans (hb3.mono hb2'.size)))
      go_ret
      exact ⟨rfl, hb3'⟩
    obtain ⟨N, rfl⟩ : ∃ N : Nat, n = (N : Int) := ⟨n.toNat, by omega⟩
    obtain ⟨x, rfl⟩ : ∃ x : Nat, s = (x : Int) := ⟨s.toNat, by omega⟩
    have hx : x < N := by omega
    have hxi : (x : Int) < (N : Int) := by omega
    have hP1 : Hid (provesL N l x ki (dlist (edges ki false l) N x) = true) := Lib.hid ((provesL_dec HC.out hx).trans (by simp))
    have hP2 := Lib.hid (provesL_dec (ki := ki) (ts := ts) HC.out hx)
    clear hPn
    have hlen : ((dlist (edges ki false l) N x).length : Int) = (N : Int) := by rw [dlist_length]
    go_enter Try.func4, Try.ntmps4
    go_upto_region 4 with (first
      | (go_at_call 9; refine Calls.mono (small_any _) ?_; rintro e w1 ⟨rfl, hb1⟩; obtain ⟨hB1, hb1', hs1, hc10, hc11⟩ := box2s hb1)
      | (go_at_call 13; refine Calls.mono (check_any _ _ l _ (hl.below RRoad.mono hb1')) ?_; rintro e w2 ⟨rfl, hb2⟩; have hb2' := hb1'.trans (hb2.mono hb1'.size); have hc20 := (hb2.cell (p := ⟨w.heap.size, 0, none⟩) hs1).trans hc10; have hc21 := (hb2.cell (p := ⟨w.heap.size, 1, none⟩) hs1).trans hc11; have hs2 : w.heap.size < w2.heap.size := by have := hb2.size; omega))
    go_upto_region 5 with (go_at_call 16; refine Calls.mono (times_any _ _ _ _ l _ (hl.below RRoad.mono hb2')) ?_; rw [timesL_good HC.out hx]; rintro e w3 ⟨v3, rfl, hi3, hb3⟩)
    obtain ⟨tb, tc, rfl, htb, htcc⟩ := hi3.shape
    have hc30 := (hb3.cell (p := ⟨w.heap.size, 0, none⟩) hs2).trans hc20
    have hc31 := (hb3.cell (p := ⟨w.heap.size, 1, none⟩) hs2).trans hc21
    have hb3' := hb2'.trans (hb3.mono hb2'.size)
    have hs3 : w.heap.size < w3.heap.size := by have := hb3.size; omega
    go_wp2_with (go_at_call 18; fail)
    go_at_call 18
    refine Calls.mono (proves_is _ _ _ _ _ l _ _ (hl.below RRoad.mono hb3') hi3 hP1.out) ?_
    rintro e w4 ⟨rfl, hb4⟩
    have hc40 := (hb4.cell (p := ⟨w.heap.size, 0, none⟩) hs3).trans hc30
    have hc41 := (hb4.cell (p := ⟨w.heap.size, 1, none⟩) hs3).trans hc31
    have hb4' := hb3'.trans (hb4.mono hb3'.size)
    have hs4 : w.heap.size < w4.heap.size := by have := hb4.size; omega
    go_wp2_with (go_at_call 18; fail)
    go_at_call 18
    refine Calls.mono (proves_is _ _ _ _ _ l _ _ (hl.below RRoad.mono hb4') (ht.below RInt.mono hb4') hP2.out) ?_
    rintro e w5 ⟨rfl, hb5⟩
    have hb5' := hb4'.trans (hb5.mono hb4'.size)
    go_wp2_with (go_at_call 15; refine Calls.mono (same_any _ _ _ _ _ (ht.below RInt.mono hb5') ((hi3.below RInt.mono hb4).below RInt.mono hb5)) ?_; rintro e w6 ⟨rfl, hb6⟩)
    go_ret
    exact ⟨by simp, hb5'.trans (hb6.mono hb5'.size)⟩
  · have hcb : (chkNet n l != 0) = true := by simpa using hc
    clear hc
    have HPn := Lib.hid hPn; clear hPn
    go_enter Try.func4, Try.ntmps4
    go_wp2_with (first
      | (go_at_call 9; refine Calls.mono (small_any _) ?_; rintro e w1 ⟨rfl, hb1⟩; obtain ⟨hB1, hb1', hs1, hc10, hc11⟩ := box2s hb1)
      | (go_at_call 13; refine Calls.mono (check_any _ _ l _ (hl.below RRoad.mono hb1')) ?_; rintro e w2 ⟨rfl, hb2⟩; have hb2' := hb1'.trans (hb2.mono hb1'.size); have hc20 := (hb2.cell (p := ⟨w.heap.size, 0, none⟩) hs1).trans hc10; have hc21 := (hb2.cell (p := ⟨w.heap.size, 1, none⟩) hs1).trans hc11; have hs2 : w.heap.size < w2.heap.size := by have := hb2.size; omega)
      | (go_at_call 18; refine Calls.mono (proves_is n (-1) ki _ _ l ts _ (hl.below RRoad.mono hb2') (ht.below RInt.mono hb2') HPn.out) ?_; rintro e w3 ⟨rfl, hb3⟩; have hb3' := hb2'.trans (hb3.mono hb2'.size)))
    go_ret
    exact ⟨rfl, hb3'⟩
end Go.Proofs.Ytmmbomkbaebodaa
