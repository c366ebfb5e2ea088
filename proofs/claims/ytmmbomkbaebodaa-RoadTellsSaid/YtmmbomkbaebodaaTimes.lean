/-
  Times: of the program by its search, of the reference by going through all roads again and again.
-/
import Derived.Test.YtmmbomkbaebodaaSearch1
import Derived.Test.YtmmbomkbaebodaaSmall
namespace Go.Proofs.Ytmmbomkbaebodaa
set_option linter.unusedVariables false
set_option linter.unusedSimpArgs false
open Go.RowKit

theorem chkRoads_zero {n : Int} {l : List Rd} (h : chkRoads n l = 0) : ∀ r ∈ l, chkRoad n r = 0 := by
  induction l with
  | nil => intro r hr; cases hr
  | cons x l ih =>
    unfold chkRoads at h
    split at h
    · intro r hr
      rcases List.mem_cons.1 hr with rfl | hr
      · assumption
      · exact ih h r hr
    · rename_i hx; exact absurd h hx

theorem chkRoad_zero {n : Int} {r : Rd} (h : chkRoad n r = 0) : 0 ≤ r.fr ∧ r.fr < n ∧ 0 ≤ r.to ∧ r.to < n ∧ r.fr ≠ r.to ∧ 1 ≤ r.mi ∧ r.mi ≤ 1000000 ∧ (r.li = -1 ∨ 1 ≤ r.li ∧ r.li ≤ 1000000) := by
  grind [chkRoad, inB]
theorem chkRoad_of {n : Int} {r : Rd} (h : 0 ≤ r.fr ∧ r.fr < n ∧ 0 ≤ r.to ∧ r.to < n ∧ r.fr ≠ r.to ∧ 1 ≤ r.mi ∧ r.mi ≤ 1000000 ∧ (r.li = -1 ∨ 1 ≤ r.li ∧ r.li ≤ 1000000)) : chkRoad n r = 0 := by
  grind [chkRoad, inB]
theorem chkRoads_of {n : Int} {l : List Rd} (h : ∀ r ∈ l, chkRoad n r = 0) : chkRoads n l = 0 := by
  induction l with
  | nil => rfl
  | cons x l ih => unfold chkRoads; rw [if_pos (h x (List.mem_cons_self ..))]; exact ih fun r hr => h r (List.mem_cons_of_mem _ hr)

theorem chkNet_zero {n : Int} {l : List Rd} (h : chkNet n l = 0) : 0 ≤ n ∧ n ≤ 100 ∧ l.length ≤ 600 ∧ ∀ r ∈ l, chkRoad n r = 0 := by
  unfold chkNet at h
  split at h
  · simp at h
  · rename_i h1
    split at h
    · simp at h
    · have : inB n 0 100 = true := by simpa using h1
      rw [inB_iff] at this
      exact ⟨this.1, this.2, by omega, chkRoads_zero h⟩
theorem chkNet_of {n : Int} {l : List Rd} (h0 : 0 ≤ n) (h1 : n ≤ 100) (h2 : l.length ≤ 600) (h3 : ∀ r ∈ l, chkRoad n r = 0) : chkNet n l = 0 := by
  rw [chkNet_in (inB_iff.2 ⟨h0, h1⟩) h2, chkRoads_of h3]

theorem good_of {N : Nat} {l : List Rd} (h : chkNet N l = 0) : Good N l := by
  obtain ⟨_, h1, h2, h3⟩ := chkNet_zero h
  refine ⟨by omega, h2, fun r hr => ?_⟩
  have := chkRoad_zero (h3 r hr)
  omega

/-- What Times returns. -/
noncomputable def timesL (n : Int) (l : List Rd) (s ki : Int) : List Int := if chkNet n l = 0 ∧ 0 ≤ s ∧ s < n then dlist (edges ki false l) n.toNat s.toNat else []

theorem timesL_good {N S : Nat} {l : List Rd} {ki : Int} (h : chkNet N l = 0) (hs : S < N) : timesL N l S ki = dlist (edges ki false l) N S := by
  unfold timesL; rw [if_pos ⟨h, by omega, by omega⟩]; simp
theorem timesL_bad1 {n s : Int} {l : List Rd} {ki : Int} (h : chkNet n l ≠ 0) : timesL n l s ki = [] := by
  unfold timesL; rw [if_neg (fun x => h x.1)]
theorem timesL_bad2 {n s : Int} {l : List Rd} {ki : Int} (h : ¬ (0 ≤ s ∧ s < n)) : timesL n l s ki = [] := by
  unfold timesL; rw [if_neg (fun x => h x.2)]

theorem ints_nil (w : World) : IntsAt w (.slice none 0 0) [] := ⟨none, 0, rfl, Nat.le_refl _, by unfold maxLen; omega, .inl rfl⟩

theorem times_any (n s ki : Int) (v : Value) (l : List Rd) (w : World) (hl : RoadsAt w v l) :
    Calls Try.prog 16 #[.agg #[I n, v], I s, I ki] w (RetInts w (timesL n l s ki)) := by
  by_cases hc : chkNet n l = 0
  · have hcb : (chkNet n l != 0) = false := by simp [hc]
    obtain ⟨h0, h1, h2, h3⟩ := chkNet_zero hc
    obtain ⟨N, rfl⟩ : ∃ N : Nat, n = (N : Int) := ⟨n.toNat, by omega⟩
    have hG := good_of hc
    have HC := Lib.hid hc; clear hc h3
    by_cases hs : 0 ≤ s ∧ s < N
    · obtain ⟨S, rfl⟩ : ∃ S : Nat, s = (S : Int) := ⟨s.toNat, by omega⟩
      have hin : inB (S : Int) 0 ((N : Int) - 1) = true := by rw [inB_iff]; omega
      have hS : S < N := by omega
      rw [timesL_good HC.out hS]
      obtain ⟨a, cap, rfl, hlc, hcap⟩ := hl.shape
      go_enter Try.func16, Try.ntmps16
      go_wp2_with (first
        | (go_at_call 13; refine (check_any _ _ l _ (hl.below RRoad.mono ((Below.refl _ _).alloc (Nat.le_refl _) _))).mono ?_; rintro e w1 ⟨rfl, hb1⟩; obtain ⟨hz1, hc1, hf1⟩ := bcell hb1; have hb1' := (belowA (o := .cells #[I N, .slice a l.length cap] 24) (Below.refl w.heap.size w) (Nat.le_refl _)).trans (hb1.mono (by simp)))
        | (go_at_call 22; refine (in_any _ _ _ _).mono ?_; rintro e w' ⟨rfl, rfl⟩)
        | (go_at_call 23; refine (search_any N _ l S _ _ _ (hl.below RRoad.mono hb1') hG hS).mono ?_; rintro e w2 ⟨v2, rfl, hi2, hb2⟩))
      go_ret
      exact ⟨_, rfl, hi2, hb1'.trans (hb2.mono hb1'.size)⟩
    · have hin : inB s 0 ((N : Int) - 1) = false := by rw [inB_not]; omega
      rw [timesL_bad2 hs]
      obtain ⟨a, cap, rfl, hlc, hcap⟩ := hl.shape
      go_enter Try.func16, Try.ntmps16
      go_wp2_with (first
        | (go_at_call 13; refine (check_any _ _ l _ (hl.below RRoad.mono ((Below.refl _ _).alloc (Nat.le_refl _) _))).mono ?_; rintro e w1 ⟨rfl, hb1⟩; obtain ⟨hz1, hc1, hf1⟩ := bcell hb1; have hb1' := (belowA (o := .cells #[I N, .slice a l.length cap] 24) (Below.refl w.heap.size w) (Nat.le_refl _)).trans (hb1.mono (by simp)))
        | (go_at_call 22; refine (in_any _ _ _ _).mono ?_; rintro e w' ⟨rfl, rfl⟩))
      go_ret
      exact ⟨_, rfl, ints_nil _, hb1'⟩
  · have hcb : (chkNet n l != 0) = true := by simpa using hc
    rw [timesL_bad1 hc]
    obtain ⟨a, cap, rfl, hlc, hcap⟩ := hl.shape
    have HC := Lib.hid hc; clear hc
    go_enter Try.func16, Try.ntmps16
    go_wp2_with (first
      | (go_at_call 13; refine (check_any _ _ l _ (hl.below RRoad.mono ((Below.refl _ _).alloc (Nat.le_refl _) _))).mono ?_; rintro e w1 ⟨rfl, hb1⟩; obtain ⟨hz1, hc1, hf1⟩ := bcell hb1; have hb1' := (belowA (o := .cells #[I n, .slice a l.length cap] 24) (Below.refl w.heap.size w) (Nat.le_refl _)).trans (hb1.mono (by simp))))
    go_ret
    exact ⟨_, rfl, ints_nil _, hb1'⟩

end Go.Proofs.Ytmmbomkbaebodaa
