/-
  The walks of the small functions: in, carries, Carries, node, later, and both Checks.
-/
import Derived.Test.YtmmbomkbaebodaaRows
import Derived.Test.YtmmbomkbaebodaaNet
namespace Go.Proofs.Ytmmbomkbaebodaa
set_option linter.unusedVariables false
set_option linter.unusedSimpArgs false
open Go.RowKit

theorem in_any (n lo hi : Int) (w : World) :
    Calls Try.prog 22 #[I n, I lo, I hi] w fun e w' => e = .returned (B (inB n lo hi)) ∧ w = w' := by
  by_cases h1 : lo ≤ n
  · by_cases h2 : n ≤ hi
    all_goals
      go_enter Try.func22, Try.ntmps22
      go_wp2
      go_ret
      exact ⟨retB (by simp [inB, h1, h2]), rfl⟩
  · go_enter Try.func22, Try.ntmps22
    go_wp2
    go_ret
    exact ⟨retB (by simp [inB]; omega), rfl⟩

theorem carries_any (f t m li kilos : Int) (w : World) :
    Calls Try.prog 24 #[.agg #[I f, I t, I m, I li], I kilos] w fun e w' => e = .returned (B (carB li kilos)) ∧ w.alloc (.cells #[I f, I t, I m, I li] 38) = w' := by
  by_cases h1 : li = -1
  · subst h1
    go_enter Try.func24, Try.ntmps24
    go_wp2
    go_ret
    exact ⟨retB (by simp [carB]), rfl⟩
  · have h1' : (li == -1) = false := by simpa using h1
    go_enter Try.func24, Try.ntmps24
    go_wp2
    go_ret
    exact ⟨retB (by simp [carB, h1]), rfl⟩

theorem Carries_any (f t m li kilos : Int) (w : World) :
    Calls Try.prog 26 #[.agg #[I f, I t, I m, I li], I kilos] w fun e w' => e = .returned (B (carB li kilos)) ∧ w.alloc (.cells #[I f, I t, I m, I li] 38) = w' := by
  by_cases h1 : li = -1
  · subst h1
    go_enter Try.func26, Try.ntmps26
    go_wp2
    go_ret
    exact ⟨retB (by simp [carB]), rfl⟩
  · have h1' : (li == -1) = false := by simpa using h1
    go_enter Try.func26, Try.ntmps26
    go_wp2
    go_ret
    exact ⟨retB (by simp [carB, h1]), rfl⟩

theorem node_any (n : Int) (a : Option Addr) (k c : Nat) (x : Int) (w : World) :
    Calls Try.prog 25 #[.agg #[I n, .slice a k c], I x] w fun e w' => e = .returned (B (inB x 0 (n - 1))) ∧ w.alloc (.cells #[I n, .slice a k c] 24) = w' := by
  by_cases h1 : 0 ≤ x
  · by_cases h2 : x < n
    all_goals
      go_enter Try.func25, Try.ntmps25
      go_wp2
      go_ret
      exact ⟨retB (by simp [inB, h1]; omega), rfl⟩
  · go_enter Try.func25, Try.ntmps25
    go_wp2
    go_ret
    exact ⟨retB (by simp [inB]; omega), rfl⟩

theorem check_any (n : Int) (v : Value) (l : List Rd) (w : World) (hl : RoadsAt w v l) :
    Calls Try.prog 13 #[.agg #[I n, v]] w fun e w' => e = .returned (I (chkNet n l)) ∧ Below w.heap.size w w' := by
  obtain ⟨a, cap, rfl, hlc, hcap⟩ := hl.shape
  unfold maxLen at hcap
  by_cases hin : inB n 0 100 = true
  · by_cases hlen : (600 : Int) < (l.length : Int)
    · go_enter Try.func13, Try.ntmps13
      go_wp2_with (go_at_call 22; refine (in_any _ _ _ _).mono ?_; rintro e w' ⟨rfl, rfl⟩)
      go_ret
      exact ⟨retI (by unfold chkNet; rw [if_neg (by simp [hin]), if_pos (by omega)]), (Below.refl _ _).alloc (Nat.le_refl _) _⟩
    · have hn : 0 ≤ n ∧ n ≤ 100 := by rwa [← inB_iff]
      have h600 : decide ((600 : Int) < (l.length : Int)) = false := by simpa using hlen
      go_enter Try.func13, Try.ntmps13
      go_wp2_with (go_at_call 22; refine (in_any _ _ _ _).mono ?_; rintro e w' ⟨rfl, rfl⟩)
      have Hin := Lib.hid hin; clear hin
      go_loopw [18] (fun i wr => ∃ j : Nat, j ≤ l.length ∧ i = I j ∧ chkRoads n (l.drop j) = chkRoads n l ∧ Below (w.heap.size + 1) (w.alloc (.cells #[I n, .slice a l.length cap] 24)) wr) (fun i _ => l.length - (intOf i).toNat)
      case atStart => exact ⟨0, by omega, rfl, rfl, Below.refl _ _⟩
      case round =>
        obtain ⟨j, hj, rfl, hd, hB⟩ := hrel
        obtain ⟨hb, hs, hc0, hc1⟩ := box2 hB
        have Hd := Lib.hid hd; clear hd
        by_cases hlt : j < l.length
        · obtain ⟨b, off, x, rfl, hbl, hx, g0, g1, g2, g3⟩ := RoadsAt.get4 (hl.below RRoad.mono hb) hlt
          go_wp2_with (go_at_call 22; refine (in_any _ _ _ _).mono ?_; rintro e w' ⟨rfl, rfl⟩)
          all_goals first
            | (go_ret
               refine ⟨retI (chk_ret Hin.out (by omega) Hd.out hx.out ?_ (by decide)), hb.alloc hb.size _⟩
               clear g0 g1 g2 g3 hc0 hc1 hb hB hl; grind [chkRoad])
            | (go_roundw
               case rel =>
                 refine ⟨j + 1, by omega, by go_num, chk_good Hd.out hx.out ?_, hB.alloc (by omega) _⟩
                 clear g0 g1 g2 g3 hc0 hc1 hb hB hl; grind [chkRoad]
               case measure => simp [intOf]; omega)
        · have : j = l.length := by omega
          subst this
          go_wp2_with (go_at_call 22; refine (in_any _ _ _ _).mono ?_; rintro e w' ⟨rfl, rfl⟩)
          go_ret
          refine ⟨retI ?_, hb⟩
          rw [chkNet_in Hin.out (by omega), ← Hd.out, chkRoads_end]
  · go_enter Try.func13, Try.ntmps13
    go_wp2_with (go_at_call 22; refine (in_any _ _ _ _).mono ?_; rintro e w' ⟨rfl, rfl⟩)
    go_ret
    exact ⟨retI (by unfold chkNet; rw [if_pos (by simpa using hin)]), (Below.refl _ _).alloc (Nat.le_refl _) _⟩

end Go.Proofs.Ytmmbomkbaebodaa
