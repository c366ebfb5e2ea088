/-
  The walks of Same, Few, later, the reference's Check.
-/
import Derived.Test.YtmmbomkbaebodaaChecks
namespace Go.Proofs.Ytmmbomkbaebodaa
set_option linter.unusedVariables false
set_option linter.unusedSimpArgs false
open Go.RowKit

theorem same_any (va vb : Value) (a b : List Int) (w : World) (ha : IntsAt w va a) (hb : IntsAt w vb b) :
    Calls Try.prog 15 #[va, vb] w fun e w' => e = .returned (B (decide (a = b))) ∧ Below w.heap.size w w' := by
  obtain ⟨aa, ca, rfl, hla, hca⟩ := ha.shape
  obtain ⟨ab, cb, rfl, hlb, hcb⟩ := hb.shape
  unfold maxLen at hca hcb
  by_cases hl : a.length = b.length
  · rw [← hl] at hb ⊢
    have Hl := Lib.hid hl; clear hl
    go_enter Try.func15, Try.ntmps15
    go_wp2
    go_loopw [5] (fun i wr => ∃ j : Nat, j ≤ a.length ∧ i = I j ∧ a.take j = b.take j ∧ Below w.heap.size w wr) (fun i _ => a.length - (intOf i).toNat)
    case atStart => exact ⟨0, by omega, rfl, by simp, Below.refl _ _⟩
    case round =>
      obtain ⟨j, hj, rfl, hp, hB⟩ := hrel
      have Hp := Lib.hid hp; clear hp
      by_cases hlt : j < a.length
      · obtain ⟨ba, oa, x, rfl, hba, hx, g0⟩ := IntsAt.get1 (ha.below RInt.mono hB) hlt
        obtain ⟨bb, ob, y, rfl, hbb, hy, g1⟩ := IntsAt.get1 (hb.below RInt.mono hB) (by rw [← Hl.out]; exact hlt)
        go_wp2
        go_quiet (fail)
        go_wp2
        · have hxy : (x != y) = true := by assumption
          go_ret
          refine ⟨retB ?_, drewN_below hB _⟩
          have h1 := same_step hx.out hy.out Hp.out
          symm; rw [decide_eq_false_iff_not]; rintro rfl
          simp [h1.1 rfl] at hxy
        · have hxy : (x != y) = false := by assumption
          go_roundw
          case rel => exact ⟨j + 1, by omega, by go_num, (same_step hx.out hy.out Hp.out).2 (by simpa using hxy), drewN_below hB _⟩
          case measure => simp [intOf]; omega
      · have e : j = a.length := by omega
        subst e
        go_wp2
        go_ret
        exact ⟨retB (by simp [same_end Hl.out Hp.out]), hB⟩
  · have hne : ((a.length : Int) != (b.length : Int)) = true := by simp; omega
    go_enter Try.func15, Try.ntmps15
    go_wp2
    go_ret
    refine ⟨retB ?_, Below.refl _ _⟩
    symm; rw [decide_eq_false_iff_not]; rintro rfl; exact hl rfl

theorem later_any (x y : Int) (w : World) :
    Calls Try.prog 20 #[I x, I y] w fun e w' => e = .returned (B (laterB x y)) ∧ w = w' := by
  by_cases h1 : x < 0
  · go_enter Try.func20, Try.ntmps20
    go_wp2
    go_ret
    exact ⟨retB (by simp [laterB, h1]), rfl⟩
  · by_cases h2 : 0 ≤ y
    · go_enter Try.func20, Try.ntmps20
      go_wp2
      all_goals
        go_ret
        exact ⟨retB (by simp [laterB, h2]; omega), rfl⟩
    · go_enter Try.func20, Try.ntmps20
      go_wp2
      go_ret
      exact ⟨retB (by simp [laterB]; omega), rfl⟩

theorem few_any (n : Int) (a : Option Addr) (k cap : Nat) (w : World) :
    Calls Try.prog 10 #[.agg #[I n, .slice a k cap]] w fun e w' => e = .returned (B (fewB n k)) ∧ Below w.heap.size w w' := by
  have hb := (Below.refl w.heap.size w).alloc (Nat.le_refl _)
  by_cases h1 : n ≤ 12
  · by_cases h3 : (k : Int) ≤ 40
    all_goals
      go_enter Try.func10, Try.ntmps10
      go_wp2
      go_ret
      exact ⟨retB (by simp [fewB]; omega), hb _⟩
  · by_cases h2 : 100 < n
    · by_cases h3 : (k : Int) ≤ 40
      all_goals
        go_enter Try.func10, Try.ntmps10
        go_wp2
        go_ret
        exact ⟨retB (by simp [fewB]; omega), hb _⟩
    · go_enter Try.func10, Try.ntmps10
      go_wp2
      go_ret
      exact ⟨retB (by simp [fewB]; omega), hb _⟩

set_option maxHeartbeats 2000000 in
theorem Check_any (n : Int) (v : Value) (l : List Rd) (w : World) (hl : RoadsAt w v l) :
    Calls Try.prog 14 #[.agg #[I n, v]] w fun e w' => e = .returned (I (chkNet n l)) ∧ Below w.heap.size w w' := by
  obtain ⟨a, cap, rfl, hlc, hcap⟩ := hl.shape
  unfold maxLen at hcap
  by_cases h0 : n < 0
  · go_enter Try.func14, Try.ntmps14
    go_wp2
    go_ret
    exact ⟨retI (by unfold chkNet; rw [if_pos (by rw [inB_not]; omega)]), (Below.refl _ _).alloc (Nat.le_refl _) _⟩
  · by_cases h1 : 100 < n
    · go_enter Try.func14, Try.ntmps14
      go_wp2
      go_ret
      exact ⟨retI (by unfold chkNet; rw [if_pos (by rw [inB_not]; omega)]), (Below.refl _ _).alloc (Nat.le_refl _) _⟩
    · have hin : inB n 0 100 = true := by rw [inB_iff]; omega
      by_cases hlen : (600 : Int) < (l.length : Int)
      · go_enter Try.func14, Try.ntmps14
        go_wp2
        go_ret
        exact ⟨retI (by unfold chkNet; rw [if_neg (by simp [hin]), if_pos (by omega)]), (Below.refl _ _).alloc (Nat.le_refl _) _⟩
      · have d0 : decide (n < 0) = false := by simpa using h0
        have d1 : decide (100 < n) = false := by simpa using h1
        have h600 : decide ((600 : Int) < (l.length : Int)) = false := by simpa using hlen
        have Hin := Lib.hid hin; clear hin
        go_enter Try.func14, Try.ntmps14
        go_wp2
        go_loopw [3] (fun i wr => ∃ j : Nat, j ≤ l.length ∧ i = I j ∧ chkRoads n (l.drop j) = chkRoads n l ∧ Below (w.heap.size + 1) (w.alloc (.cells #[I n, .slice a l.length cap] 24)) wr) (fun i _ => l.length - (intOf i).toNat)
        case atStart => exact ⟨0, by omega, rfl, rfl, Below.refl _ _⟩
        case round =>
          obtain ⟨j, hj, rfl, hd, hB⟩ := hrel
          obtain ⟨hb, hs, hc0, hc1⟩ := box2 hB
          have Hd := Lib.hid hd; clear hd
          by_cases hlt : j < l.length
          · obtain ⟨b, off, x, rfl, hbl, hx, g0, g1, g2, g3⟩ := RoadsAt.get4 (hl.below RRoad.mono hb) hlt
            go_wp2_with (go_at_call 25; refine (node_any _ _ _ _ _ _).mono ?_; rintro e w' ⟨rfl, rfl⟩)
            all_goals first
              | (go_ret
                 refine ⟨retI (chk_ret Hin.out (by omega) Hd.out hx.out ?_ (by decide)), by repeat (first | exact hb | refine belowA ?_ (by simp))⟩
                 clear g0 g1 g2 g3 hc0 hc1 hb hB hl; grind [chkRoad, inB])
              | (go_roundw
                 case rel =>
                   refine ⟨j + 1, by omega, by go_num, chk_good Hd.out hx.out ?_, by repeat (first | exact hB | refine belowA ?_ (by simp))⟩
                   clear g0 g1 g2 g3 hc0 hc1 hb hB hl; grind [chkRoad, inB]
                 case measure => simp [intOf]; omega)
          · have : j = l.length := by omega
            subst this
            go_wp2
            go_ret
            refine ⟨retI ?_, hb⟩
            rw [chkNet_in Hin.out (by omega), ← Hd.out, chkRoads_end]

end Go.Proofs.Ytmmbomkbaebodaa
