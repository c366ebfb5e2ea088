/-
  The reference's Times, for every network; what the reference's Path looks for.
-/
import Derived.Test.YtmmbomkbaebodaaLPathLaw
namespace Go.Proofs.Ytmmbomkbaebodaa
set_option linter.unusedVariables false
set_option linter.unusedSimpArgs false
open Go.RowKit

set_option maxRecDepth 100000 in
set_option maxHeartbeats 4000000 in
theorem rtimes_any (n s ki : Int) (v : Value) (l : List Rd) (w : World) (hl : RoadsAt w v l) :
    Calls Try.prog 17 #[.agg #[I n, v], I s, I ki] w (RetInts w (timesL n l s ki)) := by
  by_cases hc : chkNet n l = 0
  · obtain ⟨h0, h1, h2, h3⟩ := chkNet_zero hc
    obtain ⟨N, rfl⟩ : ∃ N : Nat, n = (N : Int) := ⟨n.toNat, by omega⟩
    by_cases hs : 0 ≤ s ∧ s < N
    · obtain ⟨S, rfl⟩ : ∃ S : Nat, s = (S : Int) := ⟨s.toNat, by omega⟩
      have hS : S < N := by omega
      rw [timesL_good hc hS]
      exact rtimes_good N S v l ki w hl hc hS
    · have hin : inB s 0 ((N : Int) - 1) = false := by rw [inB_not]; omega
      rw [timesL_bad2 hs]
      have hcb : (chkNet N l != 0) = false := by simp [hc]
      have HC := Lib.hid hc; clear hc h3
      obtain ⟨a, cap, rfl, hlc, hcap⟩ := hl.shape
      go_enter Try.func17, Try.ntmps17
      go_wp2_with (first
        | (go_at_call 14; refine (Check_any _ _ l _ (hl.below RRoad.mono ((Below.refl _ _).alloc (Nat.le_refl _) _))).mono ?_; rintro e w1 ⟨rfl, hb1⟩; obtain ⟨hB1, hb1', hs1, hc10, hc11⟩ := box2s hb1)
        | (go_at_call 25; refine (node_any _ _ _ _ _ _).mono ?_; rintro e w' ⟨rfl, rfl⟩))
      go_ret
      exact ⟨_, rfl, ints_nil _, belowA hb1' (Nat.le_refl _)⟩
  · have hcb : (chkNet n l != 0) = true := by simpa using hc
    rw [timesL_bad1 hc]
    clear hc
    obtain ⟨a, cap, rfl, hlc, hcap⟩ := hl.shape
    go_enter Try.func17, Try.ntmps17
    go_wp2_with (first
      | (go_at_call 14; refine (Check_any _ _ l _ (hl.below RRoad.mono ((Below.refl _ _).alloc (Nat.le_refl _) _))).mono ?_; rintro e w1 ⟨rfl, hb1⟩; obtain ⟨hB1, hb1', hs1, hc10, hc11⟩ := box2s hb1))
    go_ret
    exact ⟨_, rfl, ints_nil _, hb1'⟩

/-- The least road from number k on that is on a shortest way, or -1. -/
def Nx (l : List Rd) (ki : Int) (b a k : Nat) (x : Int) : Prop :=
  (x = -1 ∧ ∀ i, k ≤ i → ¬ OkR l ki b a i) ∨ ∃ m : Nat, x = (m : Int) ∧ k ≤ m ∧ OkR l ki b a m ∧ ∀ i, k ≤ i → i < m → ¬ OkR l ki b a i
theorem nx_start (l : List Rd) (ki : Int) (b a : Nat) : Nx l ki b a l.length (-1) := .inl ⟨rfl, fun i hi h => by
  obtain ⟨x, hx, _⟩ := h
  have := (List.getElem?_eq_some_iff.1 hx).1
  omega⟩
theorem nx_miss {l : List Rd} {ki : Int} {b a k : Nat} {x : Int} (h : Nx l ki b a (k + 1) x) (hk : ¬ OkR l ki b a k) : Nx l ki b a k x := by
  rcases h with ⟨h1, h2⟩ | ⟨m, h1, h2, h3, h4⟩
  · refine .inl ⟨h1, fun i hi => ?_⟩
    by_cases e : i = k
    · rw [e]; exact hk
    · exact h2 i (by omega)
  · refine .inr ⟨m, h1, by omega, h3, fun i hi hm => ?_⟩
    by_cases e : i = k
    · rw [e]; exact hk
    · exact h4 i (by omega) hm
theorem nx_hit {l : List Rd} {ki : Int} {b a k : Nat} (hk : OkR l ki b a k) : Nx l ki b a k (k : Int) := .inr ⟨k, rfl, Nat.le_refl _, hk, fun i h1 h2 => by omega⟩
theorem nx_end {l : List Rd} {ki : Int} {b a i : Nat} {x : Int} (h : Nx l ki b a 0 x) (hi : OkR l ki b a i) (hmin : ∀ i', i' < i → ¬ OkR l ki b a i') : x = (i : Int) := by
  rcases h with ⟨_, h2⟩ | ⟨m, h1, _, h3, h4⟩
  · exact absurd hi (h2 i (Nat.zero_le _))
  · have : m = i := by
      rcases Nat.lt_trichotomy m i with h | h | h
      · exact absurd h3 (hmin m h)
      · exact h
      · exact absurd hi (h4 i (Nat.zero_le _) h)
    rw [h1, this]
theorem okR_iff {l : List Rd} {ki : Int} {b a i : Nat} {x : Rd} (hx : l[i]? = some x) : OkR l ki b a i ↔ x.fr = (a : Int) ∧ carB x.li ki = true ∧ ∃ u, dst (edges ki false l) x.to.toNat b = some u ∧ dst (edges ki false l) a b = some (u + x.mi.toNat) := by
  constructor
  · intro h
    obtain ⟨y, u, h1, h2, h3, h4, h5⟩ := h.edge
    rw [hx] at h1
    cases h1
    exact ⟨h2, h3, u, h4, h5⟩
  · rintro ⟨h2, h3, u, h4, h5⟩
    exact ⟨x, hx, h2, h3, u, by rw [lef_eq]; exact h4, by rw [lef_eq]; exact h5⟩
end Go.Proofs.Ytmmbomkbaebodaa
