/-
  RoadTurned: the walk.
-/
import Derived.Test.YtmmbomkbaebodaaTurnedLaw
namespace Go.Proofs.Ytmmbomkbaebodaa
set_option linter.unusedVariables false
set_option linter.unusedSimpArgs false
open Go.RowKit

set_option maxRecDepth 100000 in
set_option maxHeartbeats 40000000 in
theorem turned_any (n a b ki : Int) (v : Value) (l : List Rd) (w : World) (hl : RoadsAt w v l) :
    Calls Try.prog 8 #[.agg #[I n, v], I a, I b, I ki] w fun e w' => e = .returned (.bool true) ∧ Below w.heap.size w w' := by
  obtain ⟨ad, cap, rfl, hlc, hcap⟩ := hl.shape
  by_cases hc : chkNet n l = 0
  · have hcb : (chkNet n l != 0) = false := by simp [hc]
    obtain ⟨h0, h1, h2, h3⟩ := chkNet_zero hc
    have HC := Lib.hid hc; clear hc h3
    by_cases q1 : a < 0
    · skip
      go_enter Try.func8, Try.ntmps8
      go_wp2_with (first
        | (go_at_call 9; refine Calls.mono (small_any _) ?_; rintro e w1 ⟨rfl, hb1⟩; obtain ⟨hB1, hb1', hs1, hc10, hc11⟩ := box2s hb1)
        | (go_at_call 13; refine Calls.mono (check_any _ _ l _ (hl.below RRoad.mono hb1')) ?_; rintro e w2 ⟨rfl, hb2⟩; have hb2' := hb1'.trans (hb2.mono hb1'.size); have hc20 := (hb2.cell (p := ⟨w.heap.size, 0, none⟩) hs1).trans hc10; have hc21 := (hb2.cell (p := ⟨w.heap.size, 1, none⟩) hs1).trans hc11; have hs2 : w.heap.size < w2.heap.size := by have := hb2.size; omega))
      go_ret
      exact ⟨rfl, hb2'⟩
    by_cases q2 : b < 0
    · skip
      go_enter Try.func8, Try.ntmps8
      go_wp2_with (first
        | (go_at_call 9; refine Calls.mono (small_any _) ?_; rintro e w1 ⟨rfl, hb1⟩; obtain ⟨hB1, hb1', hs1, hc10, hc11⟩ := box2s hb1)
        | (go_at_call 13; refine Calls.mono (check_any _ _ l _ (hl.below RRoad.mono hb1')) ?_; rintro e w2 ⟨rfl, hb2⟩; have hb2' := hb1'.trans (hb2.mono hb1'.size); have hc20 := (hb2.cell (p := ⟨w.heap.size, 0, none⟩) hs1).trans hc10; have hc21 := (hb2.cell (p := ⟨w.heap.size, 1, none⟩) hs1).trans hc11; have hs2 : w.heap.size < w2.heap.size := by have := hb2.size; omega))
      go_ret
      exact ⟨rfl, hb2'⟩
    by_cases q4 : n ≤ a
    · skip
      go_enter Try.func8, Try.ntmps8
      go_wp2_with (first
        | (go_at_call 9; refine Calls.mono (small_any _) ?_; rintro e w1 ⟨rfl, hb1⟩; obtain ⟨hB1, hb1', hs1, hc10, hc11⟩ := box2s hb1)
        | (go_at_call 13; refine Calls.mono (check_any _ _ l _ (hl.below RRoad.mono hb1')) ?_; rintro e w2 ⟨rfl, hb2⟩; have hb2' := hb1'.trans (hb2.mono hb1'.size); have hc20 := (hb2.cell (p := ⟨w.heap.size, 0, none⟩) hs1).trans hc10; have hc21 := (hb2.cell (p := ⟨w.heap.size, 1, none⟩) hs1).trans hc11; have hs2 : w.heap.size < w2.heap.size := by have := hb2.size; omega))
      go_ret
      exact ⟨rfl, hb2'⟩
    by_cases q5 : n ≤ b
    · skip
      go_enter Try.func8, Try.ntmps8
      go_wp2_with (first
        | (go_at_call 9; refine Calls.mono (small_any _) ?_; rintro e w1 ⟨rfl, hb1⟩; obtain ⟨hB1, hb1', hs1, hc10, hc11⟩ := box2s hb1)
        | (go_at_call 13; refine Calls.mono (check_any _ _ l _ (hl.below RRoad.mono hb1')) ?_; rintro e w2 ⟨rfl, hb2⟩; have hb2' := hb1'.trans (hb2.mono hb1'.size); have hc20 := (hb2.cell (p := ⟨w.heap.size, 0, none⟩) hs1).trans hc10; have hc21 := (hb2.cell (p := ⟨w.heap.size, 1, none⟩) hs1).trans hc11; have hs2 : w.heap.size < w2.heap.size := by have := hb2.size; omega))
      go_ret
      exact ⟨rfl, hb2'⟩
    obtain ⟨N, rfl⟩ : ∃ N : Nat, n = (N : Int) := ⟨n.toNat, by omega⟩
    obtain ⟨x, rfl⟩ : ∃ x : Nat, a = (x : Int) := ⟨a.toNat, by omega⟩
    obtain ⟨y, rfl⟩ : ∃ y : Nat, b = (y : Int) := ⟨b.toNat, by omega⟩
    have HT := Lib.hid (chk_turn HC.out)
    have hx : x < N := by omega
    have hy : y < N := by omega
    have hxi : (x : Int) < (N : Int) := by omega
    have hyi : (y : Int) < (N : Int) := by omega
    obtain ⟨i0, hi0, hz0, hz1, hz2⟩ := info_parts info_road
    have d1 : decide ((x : Int) < 0) = false := by simp
    have d2 : decide ((y : Int) < 0) = false := by simp
    have d3 : decide (N ≤ x) = false := by simpa using hx
    have d4 : decide (N ≤ y) = false := by simpa using hy
    go_enter Try.func8, Try.ntmps8
    go_upto_block 0 with (first
      | (go_at_call 9; refine Calls.mono (small_any _) ?_; rintro e w1 ⟨rfl, hb1⟩; obtain ⟨hB1, hb1', hs1, hc10, hc11⟩ := box2s hb1)
      | (go_at_call 13; refine Calls.mono (check_any _ _ l _ (hl.below RRoad.mono hb1')) ?_; rintro e w2 ⟨rfl, hb2⟩; have hb2' := hb1'.trans (hb2.mono hb1'.size); have hc20 := (hb2.cell (p := ⟨w.heap.size, 0, none⟩) hs1).trans hc10; have hc21 := (hb2.cell (p := ⟨w.heap.size, 1, none⟩) hs1).trans hc11; have hs2 : w.heap.size < w2.heap.size := by have := hb2.size; omega))
    clear hB1 hb1 hc10 hc11 hs1 hb1'
    go_cut [11] (fun _ wx => ∃ vt, TurnAt wx w2.heap.size N (l.map turnR) vt ∧ Below w2.heap.size w2 wx)
    case first =>
      go_wp2_with fail
      go_loopw [11] (fun c wr => ∃ (j : Nat) (vt : Value), j ≤ l.length ∧ c = I j ∧ TurnAt wr w2.heap.size N ((l.take j).map turnR) vt ∧ Below w2.heap.size w2 wr) (fun c _ => l.length - (intOf c).toNat)
      case atStart => exact ⟨0, _, by omega, rfl, ⟨heap_alloc_new w2 _, ⟨rfl, .inl ⟨rfl, rfl⟩⟩⟩, (Below.refl _ _).alloc (Nat.le_refl _) _⟩
      case round =>
        obtain ⟨j, vt, hj, rfl, hT, hB⟩ := hrel
        have hc0 := (hB.cell (p := ⟨w.heap.size, 0, none⟩) hs2).trans hc20
        have hc1 := (hB.cell (p := ⟨w.heap.size, 1, none⟩) hs2).trans hc21
        have hTb : w2.heap.size < wr.heap.size := (Array.getElem?_eq_some_iff.1 hT.head).1
        by_cases hlt : j < l.length
        · obtain ⟨rb, off, x4, rfl, hbl, hx4, g0, g1, g2, g3⟩ := RoadsAt.get4 (hl.below RRoad.mono (hb2'.trans (hB.mono hb2'.size))) hlt
          have hji : (j : Int) < (l.length : Int) := by omega
          have hlj : (((l.take j).map turnR)).length = j := by simp; omega
          have hrow := hT.row
          rw [hlj] at hrow
          have Hlj := Lib.hid hlj; clear hlj
          have hcT : wr.cell? ⟨w2.heap.size, 1, none⟩ = some vt := by rw [cell_of_row wr _ 1 _ _ (0, 0) hT.head]; rfl
          have hfT : wr.frozen? ⟨w2.heap.size, 1, none⟩ = false := frozen_of_row wr _ 1 _ _ hT.head
          have HTA := Lib.hid hT; clear hT
          have hog : vt.ownBlock ≠ some w2.heap.size := fun e => by have := (owns_lt hrow e).1; omega
          go_wp2_with (at_builtin; refine wpList_append_lies _ (by rfl) _ _ _ (by rfl) (w2.heap.size + 1) 38 i0 _ 4 32 Try.underlying22 hi0 hz0 hz1 hz2 rfl (by omega) vt j _ (by rfl) (World.ownsRow.alloc (World.ownsRow.alloc hrow _) _) ⟨wr.heap.size + 1, 0, none⟩ 1 1 [I x4.to, I x4.fr, I x4.mi, I x4.li] (by rfl) (by rfl) (World.news_of_block (cs := #[I x4.to, I x4.fr, I x4.mi, I x4.li]) (t := 38) (fr := (0, 0)) (heap_second wr _ _)) (by simp [Value.oneCell']) (by omega) (by unfold maxLen; omega) (by omega) (by simp; omega) (wr.heap.size + 2) (by simp) ?_; intro gg cap' w3 hown3 hgrow3 hat3 hlt3; have kc := (hgrow3.cell_far ⟨w2.heap.size, 1, none⟩ (by simp; omega) (Ne.symm hog)).trans ((World.cell?_of_block (heapK2 wr _ _ _ hTb)).trans hcT); have kf := (hgrow3.frozen_far ⟨w2.heap.size, 1, none⟩ (by simp; omega) (Ne.symm hog)).trans ((World.frozen?_of_block (heapK2 wr _ _ _ hTb)).trans hfT))
          go_roundw
          case rel =>
            refine ⟨j + 1, .slice (some ⟨gg, 0, none⟩) (j + 1) cap', by omega, by go_num, ?_, ?_⟩
            · rw [take_snoc' hx4.out, List.map_append]
              exact turn_step HTA.out (r := turnR x4) (by exact fun k hk => heapK2 wr _ _ k hk) (by simp; omega) (by rw [Hlj.out]; exact hown3) hgrow3
            · exact turn_below hB hTb (fun k hk => (owns_lt hrow hk).1) (by exact fun k hk => heapK2 wr _ _ k hk) (by rfl) (by rfl) (by rfl) (by simp; omega) hgrow3
          case measure => simp [intOf]; omega
        · have e : j = l.length := by omega
          subst e
          go_wp2_with fail
          go_meet
          case rel => exact ⟨vt, by simpa using hT, hB⟩
    case rest =>
      obtain ⟨vt, hT, hB⟩ := hcut
      have hrd := owns_roads hT.row
      have hlt' : (l.map turnR).length = l.length := by simp
      obtain ⟨at3, ct3, rfl, hlc3, hcc3⟩ := hrd.shape
      rw [hlt'] at hrd hT hlc3
      have hc0 := (hB.cell (p := ⟨w.heap.size, 0, none⟩) hs2).trans hc20
      have hc1 := (hB.cell (p := ⟨w.heap.size, 1, none⟩) hs2).trans hc21
      have hTb : w2.heap.size < wc.heap.size := (Array.getElem?_eq_some_iff.1 hT.head).1
      have ht0 : wc.cell? ⟨w2.heap.size, 0, none⟩ = some (I N) := by rw [cell_of_row wc _ 0 _ _ (0, 0) hT.head]; rfl
      have ht1 : wc.cell? ⟨w2.heap.size, 1, none⟩ = some (.slice at3 l.length ct3) := by rw [cell_of_row wc _ 1 _ _ (0, 0) hT.head]; rfl
      have hbC := hb2'.trans (hB.mono hb2'.size)
      have hsC : w.heap.size < wc.heap.size := by omega
      have HTA := Lib.hid hT; clear hT
      go_upto_region 11 with (go_at_call 16; refine Calls.mono (times_any _ _ _ _ l _ (hl.below RRoad.mono hbC)) ?_; rw [timesL_good HC.out hx]; rintro e w3 ⟨v3, rfl, hi3, hb3⟩)
      obtain ⟨tb, toff, tc, rfl, htb, htc⟩ := tl_cell hi3 (by omega)
      have hc30 := (hb3.cell (p := ⟨w.heap.size, 0, none⟩) hsC).trans hc0
      have ht30 := (hb3.cell (p := ⟨w2.heap.size, 0, none⟩) hTb).trans ht0
      have ht31 := (hb3.cell (p := ⟨w2.heap.size, 1, none⟩) hTb).trans ht1
      have hb3' := hbC.trans (hb3.mono hbC.size)
      have hs3 : w.heap.size < w3.heap.size := by have := hb3.size; omega
      have hs3' : w2.heap.size < w3.heap.size := by have := hb3.size; omega
      go_upto_region 12 with (go_at_call 16; refine Calls.mono (times_any _ _ _ _ (l.map turnR) _ (hrd.below RRoad.mono hb3)) ?_; rw [timesL_good HT.out hy]; rintro e w4 ⟨v4, rfl, hi4, hb4⟩)
      obtain ⟨ub, uoff, uc, rfl, hub, huc⟩ := tl_cell hi4 (by omega)
      have hc40 := (hb4.cell (p := ⟨w.heap.size, 0, none⟩) hs3).trans hc30
      have ht40 := (hb4.cell (p := ⟨w2.heap.size, 0, none⟩) hs3').trans ht30
      have ht41 := (hb4.cell (p := ⟨w2.heap.size, 1, none⟩) hs3').trans ht31
      have hb4' := hb3'.trans (hb4.mono hb3'.size)
      have hs4' : w2.heap.size < w4.heap.size := by have := hb4.size; omega
      have htb4 : tb < w4.heap.size := by have := hb4.size; omega
      have fB := (hb4.cell (p := ⟨tb, toff + y, none⟩) htb).trans (htc y hy)
      have sA := huc x hx
      rw [dst_turn] at sA
      have hrd4 := (hrd.below RRoad.mono hb3).below RRoad.mono hb4
      obtain ⟨dv, hdv⟩ : ∃ dv, dv = encT (dst (edges ki false l) x y) := ⟨_, rfl⟩
      rw [← hdv] at fB sA
      clear htc huc hdv
      go_upto_region 14 with fail
      have hext := ext_cell w4
      refine wp_region_ext_lit (by kernel_rfl) (by kernel_rfl) ?_
      repeat (go_big_quiet_step ((go_at_call 13; refine ext_check _ _ (l.map turnR) hrd4 HT.out)))
      refine wpQuiet_nil ?_
      intro w5 hb5
      clear hext
      go_wp2_with fail
      go_ret
      exact ⟨rfl, hb4'.trans (hb5.mono hb4'.size)⟩
  · have hcb : (chkNet n l != 0) = true := by simpa using hc
    clear hc
    go_enter Try.func8, Try.ntmps8
    go_wp2_with (first
      | (go_at_call 9; refine Calls.mono (small_any _) ?_; rintro e w1 ⟨rfl, hb1⟩; obtain ⟨hB1, hb1', hs1, hc10, hc11⟩ := box2s hb1)
      | (go_at_call 13; refine Calls.mono (check_any _ _ l _ (hl.below RRoad.mono hb1')) ?_; rintro e w2 ⟨rfl, hb2⟩; have hb2' := hb1'.trans (hb2.mono hb1'.size); have hc20 := (hb2.cell (p := ⟨w.heap.size, 0, none⟩) hs1).trans hc10; have hc21 := (hb2.cell (p := ⟨w.heap.size, 1, none⟩) hs1).trans hc11; have hs2 : w.heap.size < w2.heap.size := by have := hb2.size; omega))
    go_ret
    exact ⟨rfl, hb2'⟩
end Go.Proofs.Ytmmbomkbaebodaa
