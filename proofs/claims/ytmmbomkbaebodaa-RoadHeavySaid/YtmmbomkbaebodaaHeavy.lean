/-
  RoadHeavy: the walk.
-/
import Derived.Test.YtmmbomkbaebodaaHeavyLaw
import Derived.Deep.RegionLaw
import Derived.Deep.DeepMust
namespace Go.Proofs.Ytmmbomkbaebodaa
set_option linter.unusedVariables false
set_option linter.unusedSimpArgs false
open Go.RowKit

set_option maxRecDepth 100000 in
set_option maxHeartbeats 40000000 in
theorem heavy_any (n s ki mo : Int) (v : Value) (l : List Rd) (x : Rd) (w : World) (hl : RoadsAt w v l) (hreach : l.length * 32 ≤ 140737488351232) :
    Calls Try.prog 6 #[.agg #[I n, v], I s, I ki, I mo, .agg #[I x.fr, I x.to, I x.mi, I x.li]] w fun e w' => e = .returned (.bool true) ∧ Below w.heap.size w w' := by
  obtain ⟨ad, cap, rfl, hlc, hcap⟩ := hl.shape
  unfold maxLen at hcap
  obtain ⟨i0, hi0, hz0, hzz1, hzz2⟩ := info_parts info_road
  go_enter Try.func6, Try.ntmps6
  go_upto_region 3 with (first
    | (go_at_call 9; refine Calls.mono (small_any _) ?_; rintro e w1 ⟨rfl, hb1⟩; obtain ⟨hb1', hs1, hq0, hq1, hx0, hx1, hx2, hx3⟩ := box6 hb1))
  obtain ⟨T, hT⟩ : ∃ T, T = w1.heap.size := ⟨_, rfl⟩
  obtain ⟨wB, hwB⟩ : ∃ wB, wB = w1.alloc (.cells #[I n, .slice ad l.length cap] 24) := ⟨_, rfl⟩
  have hTB : wB.heap[T]? = some (.cells #[I n, .slice ad l.length cap] 24 (0, 0)) := by rw [hwB, hT]; exact heap_alloc_new w1 _
  have hszB : wB.heap.size = T + 1 := by rw [hwB, hT]; simp
  have hbB : Below w.heap.size w wB := by rw [hwB]; exact belowA hb1' (Nat.le_refl _)
  have hsT : w.heap.size + 1 < T := by omega
  have hk : ∀ p, p < w1.heap.size → wB.heap[p]? = w1.heap[p]? := by rw [hwB]; exact fun p hp => Below.heap_alloc w1 _ p hp
  have hq0 := (World.cell?_of_block (a := ⟨w.heap.size, 0, none⟩) (hk _ (by simp; omega))).trans hq0
  have hq1 := (World.cell?_of_block (a := ⟨w.heap.size, 1, none⟩) (hk _ (by simp; omega))).trans hq1
  have hx0 := (World.cell?_of_block (a := ⟨w.heap.size + 1, 0, none⟩) (hk _ (by simp; omega))).trans hx0
  have hx1 := (World.cell?_of_block (a := ⟨w.heap.size + 1, 1, none⟩) (hk _ (by simp; omega))).trans hx1
  have hx2 := (World.cell?_of_block (a := ⟨w.heap.size + 1, 2, none⟩) (hk _ (by simp; omega))).trans hx2
  have hx3 := (World.cell?_of_block (a := ⟨w.heap.size + 1, 3, none⟩) (hk _ (by simp; omega))).trans hx3
  rw [← hwB, ← hT]
  clear hk hwB hb1 hb1' hs1 hT
  have hsT0 : w.heap.size < T := by omega
  have hsT1 : w.heap.size < T + 1 := by omega
  have hrB := hl.below RRoad.mono hbB
  have hsrc : ∀ W : World, (∀ k, k < T + 1 → W.heap[k]? = wB.heap[k]?) → Src W ad l.length 4 (l.flatMap cellsR) := fun W hW => (roads_src hrB).kept (by rw [hszB]; exact hW)
  go_cut [19] (fun _ wx => ∃ u2, wx.heap[T]? = some (.cells #[I n, u2] 24 (0, 0)) ∧ wx.ownsRow 0 38 4 u2 (l ++ [x]).length ((l ++ [x]).flatMap cellsR) ∧ (∀ g, u2.ownBlock = some g → T + 1 ≤ g) ∧ Below T wB wx)
  case first =>
    go_region_law (first
      | (refine step_append_src _ (by rfl) (.tmp 19) (.tmp 21) 22 (by rfl) 0 38 i0 _ 4 32 Try.underlying22 hi0 hz0 hzz1 hzz2 rfl (by omega) _ 0 [] (by rfl) (owns_empty (by rw [← hszB]; first | exact heap_alloc_new wB _ | exact heap_first wB _ _ | exact heap_second wB _ _)) ad l.length cap (l.flatMap cellsR) (by rfl) (hsrc _ (by rw [← hszB]; first | exact fun k hk => Below.heap_alloc wB _ k hk | exact fun k hk => heapK2 wB _ _ k hk)) (cellsR_one l) (by unfold maxLen; omega) (by omega) (Nat.zero_le _) ?_
         intro u1 w2 hown2 hgrow2 hat2
         rw [Nat.zero_add] at hown2
         have kk2 := Lib.hid (grown_kept (w := wB) (B := T + 1) (by rw [← hszB]; first | exact fun k hk => Below.heap_alloc wB _ k hk | exact fun k hk => heapK2 wB _ _ k hk) (by simp; omega) (by intro g hg; simp [Value.ownBlock] at hg; omega) hgrow2)
         have hx0 := (World.cell?_of_block (a := ⟨w.heap.size + 1, 0, none⟩) (kk2.out _ (by simp; omega))).trans hx0
         have hx1 := (World.cell?_of_block (a := ⟨w.heap.size + 1, 1, none⟩) (kk2.out _ (by simp; omega))).trans hx1
         have hx2 := (World.cell?_of_block (a := ⟨w.heap.size + 1, 2, none⟩) (kk2.out _ (by simp; omega))).trans hx2
         have hx3 := (World.cell?_of_block (a := ⟨w.heap.size + 1, 3, none⟩) (kk2.out _ (by simp; omega))).trans hx3
         have hu1 : Hid (∀ g, u1.ownBlock = some g → T + 1 ≤ g) := Lib.hid (by
           intro g hg
           rcases hat2 with e | e
           · rw [e] at hg; simp [Value.ownBlock] at hg; omega
           · rw [e] at hg; simp at hg; omega)
         have hsz2 := hgrow2.size
         simp at hsz2
         clear hat2)
      | (refine step_append_src _ (by rfl) (.tmp 22) (.tmp 24) 22 (by rfl) 0 38 i0 _ 4 32 Try.underlying22 hi0 hz0 hzz1 hzz2 rfl (by omega) u1 l.length ([] ++ l.flatMap cellsR) (by rfl) (by first | exact hown2 | exact ownsRow_of hown2 (fun k hk => Below.heap_alloc w2 _ k hk)) ?_ 1 1 (cellsR x) ?_ ?_ (by simp [cellsR, Value.oneCell']) (by unfold maxLen; omega) (by omega) (Nat.zero_le _) ?_
         rotate_left
         · rfl
         · first
           | exact src_block (heap_alloc_new w2 _) rfl
           | exact src_block ((hgrow2.block _ (by simp; omega) (by simp [Value.ownBlock])).trans (by rw [← hszB]; first | exact heap_second wB _ _ | exact heap_first wB _ _)) rfl
         intro u2 w3 hown3 hgrow3 hat3
         obtain ⟨g2, cp2, rfl, _, _⟩ := hown3.form (by omega)
         have kk3 := Lib.hid (grown_kept (w := wB) (B := T + 1) (by first | exact kk2.out | exact fun k hk => (Below.heap_alloc w2 _ k (by omega)).trans (kk2.out k hk)) (by first | (simp; omega) | omega) hu1.out hgrow3)
         have KO : Hid (w3.os = wB.os ∧ w3.tape = wB.tape ∧ w3.output = wB.output ∧ wB.heap.size ≤ w3.heap.size) := Lib.hid ⟨hgrow3.os.trans hgrow2.os, hgrow3.tape.trans hgrow2.tape, hgrow3.output.trans hgrow2.output, by have := hgrow3.size; first | (simp at this; omega) | omega⟩
         have hu2 : Hid (∀ g, Value.ownBlock (.slice (some ⟨g2, 0, none⟩) (l.length + 1) cp2) = some g → T + 1 ≤ g) := Lib.hid (by
           intro g hg
           rcases hat3 with e | e
           · rw [e] at hg; exact hu1.out g hg
           · rw [e] at hg; simp at hg; omega)
         have kT := (kk3.out T (by omega)).trans hTB
         have kc : w3.cell? ⟨T, 1, none⟩ = some (.slice ad l.length cap) := by rw [cell_of_row w3 T 1 _ _ (0, 0) kT]; rfl
         have kf : w3.frozen? ⟨T, 1, none⟩ = false := frozen_of_row w3 T 1 _ _ kT
         have KT := Lib.hid kT
         clear kT hat3))
    all_goals
      go_wp2_with fail
      go_meet
      case rel => exact wide_done (by omega) KT.out hown3 hu2.out kk3.out KO.out
  case rest =>
    obtain ⟨u2, hT2, hown, hu2, hbT⟩ := hcut
    have hrw := owns_roads hown
    obtain ⟨aw, cw, rfl, hlw, hcw⟩ := hrw.shape
    have hbc : Below w.heap.size w wc := hbB.trans (hbT.mono (by omega))
    have hTc : T < wc.heap.size := (Array.getElem?_eq_some_iff.1 hT2).1
    have t0 : wc.cell? ⟨T, 0, none⟩ = some (I n) := by rw [cell_of_row wc T 0 _ _ (0, 0) hT2]; rfl
    have t1 : wc.cell? ⟨T, 1, none⟩ = some (.slice aw (l ++ [x]).length cw) := by rw [cell_of_row wc T 1 _ _ (0, 0) hT2]; rfl
    have hq0 := (hbT.cell (p := ⟨w.heap.size, 0, none⟩) hsT0).trans hq0
    have hq1 := (hbT.cell (p := ⟨w.heap.size, 1, none⟩) hsT0).trans hq1
    have hx1 := (hbT.cell (p := ⟨w.heap.size + 1, 1, none⟩) hsT).trans hx1
    have hx3 := (hbT.cell (p := ⟨w.heap.size + 1, 3, none⟩) hsT).trans hx3
    clear hx0 hx2 hT2 hown hu2 hTB
    rw [List.length_append, List.length_singleton] at t1 hrw hlw
    obtain ⟨c4, hc4⟩ : ∃ c4, c4 = chkNet n (l ++ [x]) := ⟨_, rfl⟩
    have CHK := fun (W : World) (h : RoadsAt W (.slice aw (l.length + 1) cw) (l ++ [x])) => check_is n _ (l ++ [x]) W h hc4.symm
    have HC4 := Lib.hid hc4; clear hc4
    have CHKH := Lib.hid CHK; clear CHK
    by_cases hc0 : c4 = 0
    · subst hc0
      by_cases q1 : s < 0
      · go_wp2_with (go_at_call 13; refine Calls.mono (CHKH.out _ hrw) ?_; rintro e w4 ⟨rfl, hb4⟩)
        go_ret
        exact ⟨rfl, hbc.trans (hb4.mono hbc.size)⟩
      by_cases q2 : n ≤ s
      · have hc4 : ∀ w4, Below wc.heap.size wc w4 → w4.cell? ⟨w.heap.size, 0, none⟩ = some (I n) := fun w4 hb => (hb.cell (p := ⟨w.heap.size, 0, none⟩) (by simp; omega)).trans hq0
        have HC5 := Lib.hid hc4; clear hc4
        go_wp2_with (go_at_call 13; refine Calls.mono (CHKH.out _ hrw) ?_; rintro e w4 ⟨rfl, hb4⟩; have hq4 := HC5.out _ hb4)
        go_ret
        exact ⟨rfl, hbc.trans (hb4.mono hbc.size)⟩
      obtain ⟨N, rfl⟩ : ∃ N : Nat, n = (N : Int) := ⟨n.toNat, by omega⟩
      obtain ⟨S, rfl⟩ : ∃ S : Nat, s = (S : Int) := ⟨s.toNat, by omega⟩
      have HW := Lib.hid HC4.out.symm
      have HL := Lib.hid (chk_wide HW.out).1
      have HX := Lib.hid (chk_wide HW.out).2
      have hS : S < N := by omega
      have hSi : (S : Int) < (N : Int) := by omega
      have hN := (good_of HL.out).nodes
      have d1 : decide ((S : Int) < 0) = false := by simp
      have d2 : decide (N ≤ S) = false := by simpa using hS
      have hbw4 : ∀ w4, Below wc.heap.size wc w4 → Below w.heap.size w w4 := fun w4 h => hbc.trans (h.mono hbc.size)
      have hmm : (ki < mo ∧ ¬ mo < ki ∧ ¬ mo ≤ ki) ∨ ki = mo ∨ (mo < ki ∧ ¬ ki < mo ∧ ¬ ki ≤ mo) := by omega
      have Hbw := Lib.hid hbw4
      clear hbw4
      rcases hmm with ⟨m1, m2, m3⟩ | rfl | ⟨m1, m2, m3⟩
      · skip
        go_upto_region 6 with (go_at_call 13; refine Calls.mono (CHKH.out _ hrw) ?_; rintro e w4 ⟨rfl, hb4⟩; have hq40 := (hb4.cell (p := ⟨w.heap.size, 0, none⟩) (by simp; omega)).trans hq0; have hq41 := (hb4.cell (p := ⟨w.heap.size, 1, none⟩) (by simp; omega)).trans hq1; have hx41 := (hb4.cell (p := ⟨w.heap.size + 1, 1, none⟩) (by simp; omega)).trans hx1; have hx43 := (hb4.cell (p := ⟨w.heap.size + 1, 3, none⟩) (by simp; omega)).trans hx3; have ht40 := (hb4.cell (p := ⟨T, 0, none⟩) hTc).trans t0; have ht41 := (hb4.cell (p := ⟨T, 1, none⟩) hTc).trans t1; have hs4 := hb4.size)
        have hb4' := Hbw.out _ hb4
        have hs40 : w.heap.size < w4.heap.size := by omega
        have hs41 : w.heap.size + 1 < w4.heap.size := by omega
        have hs4T : T < w4.heap.size := by omega
        go_upto_region 7 with (go_at_call 16; refine Calls.mono (times_any _ _ _ _ l _ (hl.below RRoad.mono hb4')) ?_; rw [timesL_good HL.out hS]; rintro e w5 ⟨v5, rfl, hi5, hb5⟩)
        obtain ⟨ab, ao, ac, rfl, hab, hac⟩ := tl_cell hi5 (by omega)
        have hq50 := (hb5.cell (p := ⟨w.heap.size, 0, none⟩) hs40).trans hq40
        have hq51 := (hb5.cell (p := ⟨w.heap.size, 1, none⟩) hs40).trans hq41
        have hx51 := (hb5.cell (p := ⟨w.heap.size + 1, 1, none⟩) hs41).trans hx41
        have hx53 := (hb5.cell (p := ⟨w.heap.size + 1, 3, none⟩) hs41).trans hx43
        have ht50 := (hb5.cell (p := ⟨T, 0, none⟩) hs4T).trans ht40
        have ht51 := (hb5.cell (p := ⟨T, 1, none⟩) hs4T).trans ht41
        have hs5 := hb5.size
        have hb5' := hb4'.trans (hb5.mono hb4'.size)
        go_upto_region 8 with (go_at_call 16; refine Calls.mono (times_any _ _ _ _ l _ (hl.below RRoad.mono hb5')) ?_; rw [timesL_good HL.out hS]; rintro e w6 ⟨v6, rfl, hi6, hb6⟩)
        obtain ⟨bb, bo, bc, rfl, hbb, hbcc⟩ := tl_cell hi6 (by omega)
        have hq60 := (hb6.cell (p := ⟨w.heap.size, 0, none⟩) (by simp; omega)).trans hq50
        have hx61 := (hb6.cell (p := ⟨w.heap.size + 1, 1, none⟩) (by simp; omega)).trans hx51
        have hx63 := (hb6.cell (p := ⟨w.heap.size + 1, 3, none⟩) (by simp; omega)).trans hx53
        have ht60 := (hb6.cell (p := ⟨T, 0, none⟩) (by simp; omega)).trans ht50
        have ht61 := (hb6.cell (p := ⟨T, 1, none⟩) (by simp; omega)).trans ht51
        have hs6 := hb6.size
        have hb6' := hb5'.trans (hb6.mono hb5'.size)
        go_upto_region 9 with (go_at_call 16; refine Calls.mono (times_any _ _ _ _ (l ++ [x]) _ (((hrw.below RRoad.mono hb4).below RRoad.mono hb5).below RRoad.mono hb6)) ?_; rw [timesL_good HW.out hS]; rintro e w7 ⟨v7, rfl, hi7, hb7⟩)
        obtain ⟨cb, co, cc, rfl, hcb, hccc⟩ := tl_cell hi7 (by omega)
        have hq70 := (hb7.cell (p := ⟨w.heap.size, 0, none⟩) (by simp; omega)).trans hq60
        have hx71 := (hb7.cell (p := ⟨w.heap.size + 1, 1, none⟩) (by simp; omega)).trans hx61
        have hx73 := (hb7.cell (p := ⟨w.heap.size + 1, 3, none⟩) (by simp; omega)).trans hx63
        have hs7 := hb7.size
        have hb7' := hb6'.trans (hb7.mono hb6'.size)
        have hi5' := (hi5.below RInt.mono hb6).below RInt.mono hb7
        have fa : Hid (∀ j, j < N → w7.cell? ⟨ab, ao + j, none⟩ = _) := Lib.hid (fun j hj => (hb7.cell (p := ⟨ab, ao + j, none⟩) (by simp; omega)).trans ((hb6.cell (p := ⟨ab, ao + j, none⟩) hab).trans (hac j hj)))
        have fb : Hid (∀ j, j < N → w7.cell? ⟨bb, bo + j, none⟩ = _) := Lib.hid (fun j hj => (hb7.cell (p := ⟨bb, bo + j, none⟩) hbb).trans (hbcc j hj))
        have fc := Lib.hid hccc
        have hab7 : ab < w7.heap.size := by omega
        have hbb7 : bb < w7.heap.size := by omega
        have hsw7 : w.heap.size + 1 < w7.heap.size := by omega
        clear hac hbcc hccc
        go_wp2_with fail
        go_loopw [16] (fun c wr => ∃ j : Nat, j ≤ N ∧ c = I j ∧ Below w7.heap.size w7 wr) (fun c _ => N - (intOf c).toNat)
        case atStart => exact ⟨0, by omega, rfl, Below.refl _ _⟩
        case round =>
          obtain ⟨j, hj, rfl, hB⟩ := hrel
          have hc0 := (hB.cell (p := ⟨w.heap.size, 0, none⟩) (by simp; omega)).trans hq70
          have hc1 := (hB.cell (p := ⟨w.heap.size + 1, 1, none⟩) hsw7).trans hx71
          have hc3 := (hB.cell (p := ⟨w.heap.size + 1, 3, none⟩) hsw7).trans hx73
          have hBw := hb7'.trans (hB.mono hb7'.size)
          by_cases hlt : j < N
          · have ga := (hB.cell (p := ⟨ab, ao + j, none⟩) hab7).trans (fa.out j hlt)
            have gb := (hB.cell (p := ⟨bb, bo + j, none⟩) hbb7).trans (fb.out j hlt)
            have gc := (hB.cell (p := ⟨cb, co + j, none⟩) hcb).trans (fc.out j hlt)
            have hji : (j : Int) < (N : Int) := by omega
            obtain ⟨va, hva⟩ : ∃ va, va = encT (dst (edges ki false l) S j) := ⟨_, rfl⟩
            obtain ⟨vb, hvb⟩ : ∃ vb, vb = encT (dst (edges mo false l) S j) := ⟨_, rfl⟩
            obtain ⟨vc, hvc⟩ : ∃ vc, vc = encT (dst (edges ki false (l ++ [x])) S j) := ⟨_, rfl⟩
            have H1 : Hid (laterB vb va = true) := Lib.hid (by rw [hva, hvb]; exact later_sub (edges_more (Int.le_of_lt m1) l) S j)
            have H2 : Hid (laterB va vc = true) := Lib.hid (by rw [hva, hvc]; exact later_sub (edges_wide ki l x) S j)
            rw [← hva] at ga
            rw [← hvb] at gb
            rw [← hvc] at gc
            clear hva hvb hvc
            go_wp2_with fail
            go_quiet ((first | (go_at_call 20; exact Calls.quiet_of_same (later_is _ _ _ H1.out)) | (go_at_call 20; exact Calls.quiet_of_same (later_is _ _ _ H2.out))))
            go_wp2_with fail
            go_roundw
            case rel => exact ⟨j + 1, by omega, by go_num, drewN_below hB _⟩
            case measure => simp [intOf]; omega
          · have e : j = N := by omega
            subst e
            by_cases p1 : x.to = (S : Int)
            · have p1b : (x.to == (S : Int)) = true := by simpa using p1
              have he := same_home (ki := ki) (l := l) HX.out p1
              have hi7' := hi7.below RInt.mono hB
              rw [he] at hi7'
              have P1 := Lib.hid p1; clear p1 he
              go_wp2_with (go_at_call 15; refine Calls.mono (same_yes _ _ _ _ (hi5'.below RInt.mono hB) hi7') ?_; rintro e w9 ⟨rfl, hb9⟩)
              go_ret
              exact ⟨rfl, hBw.trans (hb9.mono hBw.size)⟩
            · have p1b : (x.to == (S : Int)) = false := by simpa using p1
              clear p1
              by_cases p2 : x.li = -1
              · have p2b : (x.li != (-1 : Int)) = false := by simpa using p2
                clear p2
                go_wp2_with fail
                go_ret
                exact ⟨rfl, hBw⟩
              · have p2b : (x.li != (-1 : Int)) = true := by simpa using p2
                by_cases p3 : x.li < ki
                · have he := same_light (N := j) (s := S) (ki := ki) (l := l) p2 p3
                  have hi7' := hi7.below RInt.mono hB
                  rw [he] at hi7'
                  clear p2 he
                  go_wp2_with (go_at_call 15; refine Calls.mono (same_yes _ _ _ _ (hi5'.below RInt.mono hB) hi7') ?_; rintro e w9 ⟨rfl, hb9⟩)
                  go_ret
                  exact ⟨rfl, hBw.trans (hb9.mono hBw.size)⟩
                · clear p2
                  go_wp2_with fail
                  go_ret
                  exact ⟨rfl, hBw⟩
      · skip
        go_upto_region 6 with (go_at_call 13; refine Calls.mono (CHKH.out _ hrw) ?_; rintro e w4 ⟨rfl, hb4⟩; have hq40 := (hb4.cell (p := ⟨w.heap.size, 0, none⟩) (by simp; omega)).trans hq0; have hq41 := (hb4.cell (p := ⟨w.heap.size, 1, none⟩) (by simp; omega)).trans hq1; have hx41 := (hb4.cell (p := ⟨w.heap.size + 1, 1, none⟩) (by simp; omega)).trans hx1; have hx43 := (hb4.cell (p := ⟨w.heap.size + 1, 3, none⟩) (by simp; omega)).trans hx3; have ht40 := (hb4.cell (p := ⟨T, 0, none⟩) hTc).trans t0; have ht41 := (hb4.cell (p := ⟨T, 1, none⟩) hTc).trans t1; have hs4 := hb4.size)
        have hb4' := Hbw.out _ hb4
        have hs40 : w.heap.size < w4.heap.size := by omega
        have hs41 : w.heap.size + 1 < w4.heap.size := by omega
        have hs4T : T < w4.heap.size := by omega
        go_upto_region 7 with (go_at_call 16; refine Calls.mono (times_any _ _ _ _ l _ (hl.below RRoad.mono hb4')) ?_; rw [timesL_good HL.out hS]; rintro e w5 ⟨v5, rfl, hi5, hb5⟩)
        obtain ⟨ab, ao, ac, rfl, hab, hac⟩ := tl_cell hi5 (by omega)
        have hq50 := (hb5.cell (p := ⟨w.heap.size, 0, none⟩) hs40).trans hq40
        have hq51 := (hb5.cell (p := ⟨w.heap.size, 1, none⟩) hs40).trans hq41
        have hx51 := (hb5.cell (p := ⟨w.heap.size + 1, 1, none⟩) hs41).trans hx41
        have hx53 := (hb5.cell (p := ⟨w.heap.size + 1, 3, none⟩) hs41).trans hx43
        have ht50 := (hb5.cell (p := ⟨T, 0, none⟩) hs4T).trans ht40
        have ht51 := (hb5.cell (p := ⟨T, 1, none⟩) hs4T).trans ht41
        have hs5 := hb5.size
        have hb5' := hb4'.trans (hb5.mono hb4'.size)
        go_upto_region 8 with (go_at_call 16; refine Calls.mono (times_any _ _ _ _ l _ (hl.below RRoad.mono hb5')) ?_; rw [timesL_good HL.out hS]; rintro e w6 ⟨v6, rfl, hi6, hb6⟩)
        obtain ⟨bb, bo, bc, rfl, hbb, hbcc⟩ := tl_cell hi6 (by omega)
        have hq60 := (hb6.cell (p := ⟨w.heap.size, 0, none⟩) (by simp; omega)).trans hq50
        have hx61 := (hb6.cell (p := ⟨w.heap.size + 1, 1, none⟩) (by simp; omega)).trans hx51
        have hx63 := (hb6.cell (p := ⟨w.heap.size + 1, 3, none⟩) (by simp; omega)).trans hx53
        have ht60 := (hb6.cell (p := ⟨T, 0, none⟩) (by simp; omega)).trans ht50
        have ht61 := (hb6.cell (p := ⟨T, 1, none⟩) (by simp; omega)).trans ht51
        have hs6 := hb6.size
        have hb6' := hb5'.trans (hb6.mono hb5'.size)
        go_upto_region 9 with (go_at_call 16; refine Calls.mono (times_any _ _ _ _ (l ++ [x]) _ (((hrw.below RRoad.mono hb4).below RRoad.mono hb5).below RRoad.mono hb6)) ?_; rw [timesL_good HW.out hS]; rintro e w7 ⟨v7, rfl, hi7, hb7⟩)
        obtain ⟨cb, co, cc, rfl, hcb, hccc⟩ := tl_cell hi7 (by omega)
        have hq70 := (hb7.cell (p := ⟨w.heap.size, 0, none⟩) (by simp; omega)).trans hq60
        have hx71 := (hb7.cell (p := ⟨w.heap.size + 1, 1, none⟩) (by simp; omega)).trans hx61
        have hx73 := (hb7.cell (p := ⟨w.heap.size + 1, 3, none⟩) (by simp; omega)).trans hx63
        have hs7 := hb7.size
        have hb7' := hb6'.trans (hb7.mono hb6'.size)
        have hi5' := (hi5.below RInt.mono hb6).below RInt.mono hb7
        have fa : Hid (∀ j, j < N → w7.cell? ⟨ab, ao + j, none⟩ = _) := Lib.hid (fun j hj => (hb7.cell (p := ⟨ab, ao + j, none⟩) (by simp; omega)).trans ((hb6.cell (p := ⟨ab, ao + j, none⟩) hab).trans (hac j hj)))
        have fb : Hid (∀ j, j < N → w7.cell? ⟨bb, bo + j, none⟩ = _) := Lib.hid (fun j hj => (hb7.cell (p := ⟨bb, bo + j, none⟩) hbb).trans (hbcc j hj))
        have fc := Lib.hid hccc
        have hab7 : ab < w7.heap.size := by omega
        have hbb7 : bb < w7.heap.size := by omega
        have hsw7 : w.heap.size + 1 < w7.heap.size := by omega
        clear hac hbcc hccc
        go_wp2_with fail
        go_loopw [16] (fun c wr => ∃ j : Nat, j ≤ N ∧ c = I j ∧ Below w7.heap.size w7 wr) (fun c _ => N - (intOf c).toNat)
        case atStart => exact ⟨0, by omega, rfl, Below.refl _ _⟩
        case round =>
          obtain ⟨j, hj, rfl, hB⟩ := hrel
          have hc0 := (hB.cell (p := ⟨w.heap.size, 0, none⟩) (by simp; omega)).trans hq70
          have hc1 := (hB.cell (p := ⟨w.heap.size + 1, 1, none⟩) hsw7).trans hx71
          have hc3 := (hB.cell (p := ⟨w.heap.size + 1, 3, none⟩) hsw7).trans hx73
          have hBw := hb7'.trans (hB.mono hb7'.size)
          by_cases hlt : j < N
          · have ga := (hB.cell (p := ⟨ab, ao + j, none⟩) hab7).trans (fa.out j hlt)
            have gb := (hB.cell (p := ⟨bb, bo + j, none⟩) hbb7).trans (fb.out j hlt)
            have gc := (hB.cell (p := ⟨cb, co + j, none⟩) hcb).trans (fc.out j hlt)
            have hji : (j : Int) < (N : Int) := by omega
            obtain ⟨va, hva⟩ : ∃ va, va = encT (dst (edges ki false l) S j) := ⟨_, rfl⟩
            obtain ⟨vb, hvb⟩ : ∃ vb, vb = encT (dst (edges ki false l) S j) := ⟨_, rfl⟩
            obtain ⟨vc, hvc⟩ : ∃ vc, vc = encT (dst (edges ki false (l ++ [x])) S j) := ⟨_, rfl⟩
            have H1 : Hid (laterB vb va = true) := Lib.hid (by rw [hva, hvb]; exact later_sub (edges_more (Int.le_refl _) l) S j)
            have H2 : Hid (laterB va vc = true) := Lib.hid (by rw [hva, hvc]; exact later_sub (edges_wide ki l x) S j)
            rw [← hva] at ga
            rw [← hvb] at gb
            rw [← hvc] at gc
            clear hva hvb hvc
            go_wp2_with fail
            go_quiet ((first | (go_at_call 20; exact Calls.quiet_of_same (later_is _ _ _ H1.out)) | (go_at_call 20; exact Calls.quiet_of_same (later_is _ _ _ H2.out))))
            go_wp2_with fail
            go_roundw
            case rel => exact ⟨j + 1, by omega, by go_num, drewN_below hB _⟩
            case measure => simp [intOf]; omega
          · have e : j = N := by omega
            subst e
            by_cases p1 : x.to = (S : Int)
            · have p1b : (x.to == (S : Int)) = true := by simpa using p1
              have he := same_home (ki := ki) (l := l) HX.out p1
              have hi7' := hi7.below RInt.mono hB
              rw [he] at hi7'
              have P1 := Lib.hid p1; clear p1 he
              go_wp2_with (go_at_call 15; refine Calls.mono (same_yes _ _ _ _ (hi5'.below RInt.mono hB) hi7') ?_; rintro e w9 ⟨rfl, hb9⟩)
              go_ret
              exact ⟨rfl, hBw.trans (hb9.mono hBw.size)⟩
            · have p1b : (x.to == (S : Int)) = false := by simpa using p1
              clear p1
              by_cases p2 : x.li = -1
              · have p2b : (x.li != (-1 : Int)) = false := by simpa using p2
                clear p2
                go_wp2_with fail
                go_ret
                exact ⟨rfl, hBw⟩
              · have p2b : (x.li != (-1 : Int)) = true := by simpa using p2
                by_cases p3 : x.li < ki
                · have he := same_light (N := j) (s := S) (ki := ki) (l := l) p2 p3
                  have hi7' := hi7.below RInt.mono hB
                  rw [he] at hi7'
                  clear p2 he
                  go_wp2_with (go_at_call 15; refine Calls.mono (same_yes _ _ _ _ (hi5'.below RInt.mono hB) hi7') ?_; rintro e w9 ⟨rfl, hb9⟩)
                  go_ret
                  exact ⟨rfl, hBw.trans (hb9.mono hBw.size)⟩
                · clear p2
                  go_wp2_with fail
                  go_ret
                  exact ⟨rfl, hBw⟩
      · skip
        go_upto_region 6 with (go_at_call 13; refine Calls.mono (CHKH.out _ hrw) ?_; rintro e w4 ⟨rfl, hb4⟩; have hq40 := (hb4.cell (p := ⟨w.heap.size, 0, none⟩) (by simp; omega)).trans hq0; have hq41 := (hb4.cell (p := ⟨w.heap.size, 1, none⟩) (by simp; omega)).trans hq1; have hx41 := (hb4.cell (p := ⟨w.heap.size + 1, 1, none⟩) (by simp; omega)).trans hx1; have hx43 := (hb4.cell (p := ⟨w.heap.size + 1, 3, none⟩) (by simp; omega)).trans hx3; have ht40 := (hb4.cell (p := ⟨T, 0, none⟩) hTc).trans t0; have ht41 := (hb4.cell (p := ⟨T, 1, none⟩) hTc).trans t1; have hs4 := hb4.size)
        have hb4' := Hbw.out _ hb4
        have hs40 : w.heap.size < w4.heap.size := by omega
        have hs41 : w.heap.size + 1 < w4.heap.size := by omega
        have hs4T : T < w4.heap.size := by omega
        go_upto_region 7 with (go_at_call 16; refine Calls.mono (times_any _ _ _ _ l _ (hl.below RRoad.mono hb4')) ?_; rw [timesL_good HL.out hS]; rintro e w5 ⟨v5, rfl, hi5, hb5⟩)
        obtain ⟨ab, ao, ac, rfl, hab, hac⟩ := tl_cell hi5 (by omega)
        have hq50 := (hb5.cell (p := ⟨w.heap.size, 0, none⟩) hs40).trans hq40
        have hq51 := (hb5.cell (p := ⟨w.heap.size, 1, none⟩) hs40).trans hq41
        have hx51 := (hb5.cell (p := ⟨w.heap.size + 1, 1, none⟩) hs41).trans hx41
        have hx53 := (hb5.cell (p := ⟨w.heap.size + 1, 3, none⟩) hs41).trans hx43
        have ht50 := (hb5.cell (p := ⟨T, 0, none⟩) hs4T).trans ht40
        have ht51 := (hb5.cell (p := ⟨T, 1, none⟩) hs4T).trans ht41
        have hs5 := hb5.size
        have hb5' := hb4'.trans (hb5.mono hb4'.size)
        go_upto_region 8 with (go_at_call 16; refine Calls.mono (times_any _ _ _ _ l _ (hl.below RRoad.mono hb5')) ?_; rw [timesL_good HL.out hS]; rintro e w6 ⟨v6, rfl, hi6, hb6⟩)
        obtain ⟨bb, bo, bc, rfl, hbb, hbcc⟩ := tl_cell hi6 (by omega)
        have hq60 := (hb6.cell (p := ⟨w.heap.size, 0, none⟩) (by simp; omega)).trans hq50
        have hx61 := (hb6.cell (p := ⟨w.heap.size + 1, 1, none⟩) (by simp; omega)).trans hx51
        have hx63 := (hb6.cell (p := ⟨w.heap.size + 1, 3, none⟩) (by simp; omega)).trans hx53
        have ht60 := (hb6.cell (p := ⟨T, 0, none⟩) (by simp; omega)).trans ht50
        have ht61 := (hb6.cell (p := ⟨T, 1, none⟩) (by simp; omega)).trans ht51
        have hs6 := hb6.size
        have hb6' := hb5'.trans (hb6.mono hb5'.size)
        go_upto_region 9 with (go_at_call 16; refine Calls.mono (times_any _ _ _ _ (l ++ [x]) _ (((hrw.below RRoad.mono hb4).below RRoad.mono hb5).below RRoad.mono hb6)) ?_; rw [timesL_good HW.out hS]; rintro e w7 ⟨v7, rfl, hi7, hb7⟩)
        obtain ⟨cb, co, cc, rfl, hcb, hccc⟩ := tl_cell hi7 (by omega)
        have hq70 := (hb7.cell (p := ⟨w.heap.size, 0, none⟩) (by simp; omega)).trans hq60
        have hx71 := (hb7.cell (p := ⟨w.heap.size + 1, 1, none⟩) (by simp; omega)).trans hx61
        have hx73 := (hb7.cell (p := ⟨w.heap.size + 1, 3, none⟩) (by simp; omega)).trans hx63
        have hs7 := hb7.size
        have hb7' := hb6'.trans (hb7.mono hb6'.size)
        have hi5' := (hi5.below RInt.mono hb6).below RInt.mono hb7
        have fa : Hid (∀ j, j < N → w7.cell? ⟨ab, ao + j, none⟩ = _) := Lib.hid (fun j hj => (hb7.cell (p := ⟨ab, ao + j, none⟩) (by simp; omega)).trans ((hb6.cell (p := ⟨ab, ao + j, none⟩) hab).trans (hac j hj)))
        have fb : Hid (∀ j, j < N → w7.cell? ⟨bb, bo + j, none⟩ = _) := Lib.hid (fun j hj => (hb7.cell (p := ⟨bb, bo + j, none⟩) hbb).trans (hbcc j hj))
        have fc := Lib.hid hccc
        have hab7 : ab < w7.heap.size := by omega
        have hbb7 : bb < w7.heap.size := by omega
        have hsw7 : w.heap.size + 1 < w7.heap.size := by omega
        clear hac hbcc hccc
        go_wp2_with fail
        go_loopw [16] (fun c wr => ∃ j : Nat, j ≤ N ∧ c = I j ∧ Below w7.heap.size w7 wr) (fun c _ => N - (intOf c).toNat)
        case atStart => exact ⟨0, by omega, rfl, Below.refl _ _⟩
        case round =>
          obtain ⟨j, hj, rfl, hB⟩ := hrel
          have hc0 := (hB.cell (p := ⟨w.heap.size, 0, none⟩) (by simp; omega)).trans hq70
          have hc1 := (hB.cell (p := ⟨w.heap.size + 1, 1, none⟩) hsw7).trans hx71
          have hc3 := (hB.cell (p := ⟨w.heap.size + 1, 3, none⟩) hsw7).trans hx73
          have hBw := hb7'.trans (hB.mono hb7'.size)
          by_cases hlt : j < N
          · have ga := (hB.cell (p := ⟨ab, ao + j, none⟩) hab7).trans (fa.out j hlt)
            have gb := (hB.cell (p := ⟨bb, bo + j, none⟩) hbb7).trans (fb.out j hlt)
            have gc := (hB.cell (p := ⟨cb, co + j, none⟩) hcb).trans (fc.out j hlt)
            have hji : (j : Int) < (N : Int) := by omega
            obtain ⟨va, hva⟩ : ∃ va, va = encT (dst (edges mo false l) S j) := ⟨_, rfl⟩
            obtain ⟨vb, hvb⟩ : ∃ vb, vb = encT (dst (edges ki false l) S j) := ⟨_, rfl⟩
            obtain ⟨vc, hvc⟩ : ∃ vc, vc = encT (dst (edges mo false (l ++ [x])) S j) := ⟨_, rfl⟩
            have H1 : Hid (laterB vb va = true) := Lib.hid (by rw [hva, hvb]; exact later_sub (edges_more (Int.le_of_lt m1) l) S j)
            have H2 : Hid (laterB va vc = true) := Lib.hid (by rw [hva, hvc]; exact later_sub (edges_wide mo l x) S j)
            rw [← hva] at ga
            rw [← hvb] at gb
            rw [← hvc] at gc
            clear hva hvb hvc
            go_wp2_with fail
            go_quiet ((first | (go_at_call 20; exact Calls.quiet_of_same (later_is _ _ _ H1.out)) | (go_at_call 20; exact Calls.quiet_of_same (later_is _ _ _ H2.out))))
            go_wp2_with fail
            go_roundw
            case rel => exact ⟨j + 1, by omega, by go_num, drewN_below hB _⟩
            case measure => simp [intOf]; omega
          · have e : j = N := by omega
            subst e
            by_cases p1 : x.to = (S : Int)
            · have p1b : (x.to == (S : Int)) = true := by simpa using p1
              have he := same_home (ki := mo) (l := l) HX.out p1
              have hi7' := hi7.below RInt.mono hB
              rw [he] at hi7'
              have P1 := Lib.hid p1; clear p1 he
              go_wp2_with (go_at_call 15; refine Calls.mono (same_yes _ _ _ _ (hi5'.below RInt.mono hB) hi7') ?_; rintro e w9 ⟨rfl, hb9⟩)
              go_ret
              exact ⟨rfl, hBw.trans (hb9.mono hBw.size)⟩
            · have p1b : (x.to == (S : Int)) = false := by simpa using p1
              clear p1
              by_cases p2 : x.li = -1
              · have p2b : (x.li != (-1 : Int)) = false := by simpa using p2
                clear p2
                go_wp2_with fail
                go_ret
                exact ⟨rfl, hBw⟩
              · have p2b : (x.li != (-1 : Int)) = true := by simpa using p2
                by_cases p3 : x.li < mo
                · have he := same_light (N := j) (s := S) (ki := mo) (l := l) p2 p3
                  have hi7' := hi7.below RInt.mono hB
                  rw [he] at hi7'
                  clear p2 he
                  go_wp2_with (go_at_call 15; refine Calls.mono (same_yes _ _ _ _ (hi5'.below RInt.mono hB) hi7') ?_; rintro e w9 ⟨rfl, hb9⟩)
                  go_ret
                  exact ⟨rfl, hBw.trans (hb9.mono hBw.size)⟩
                · clear p2
                  go_wp2_with fail
                  go_ret
                  exact ⟨rfl, hBw⟩
    · have hcb : (c4 != 0) = true := by simpa using hc0
      clear hc0
      go_wp2_with (go_at_call 13; refine Calls.mono (CHKH.out _ hrw) ?_; rintro e w4 ⟨rfl, hb4⟩)
      go_ret
      exact ⟨rfl, hbc.trans (hb4.mono hbc.size)⟩
end Go.Proofs.Ytmmbomkbaebodaa
