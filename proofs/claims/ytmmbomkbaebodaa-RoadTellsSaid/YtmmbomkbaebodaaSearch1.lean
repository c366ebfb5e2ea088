/-
  The search: the walk.
-/
import Derived.Test.YtmmbomkbaebodaaSearch2
import Derived.Deep.CutBlock
namespace Go.Proofs.Ytmmbomkbaebodaa
set_option linter.unusedVariables false
set_option linter.unusedSimpArgs false
open Go.RowKit

theorem heap2 (w : World) (o1 o2 : Obj) (k : Nat) (hk : k < w.heap.size) : ((w.alloc o1).alloc o2).heap[k]? = w.heap[k]? := by
  rw [Below.heap_alloc _ _ _ (by simp; omega), Below.heap_alloc _ _ _ hk]
theorem next_kept {w W : World} {G n : Nat} {E : List Ed} (h : NextAt w G n E) (hb : ∀ k, k < w.heap.size → W.heap[k]? = w.heap[k]?) : NextAt W G n E := by
  obtain ⟨vs, h1, h2, h3, h4⟩ := h
  exact ⟨vs, by rw [hb G (Array.getElem?_eq_some_iff.1 h1).1]; exact h1, h2, fun i v hv => ⟨ownsRow_kept' (h3 i v hv).1 fun k _ hk => hb k hk, (h3 i v hv).2⟩, h4⟩
theorem next_below {A wr W w1 : World} {B na : Nat} {u x : Value} (hB : Below B A wr) (hG : B < wr.heap.size) (hok : ∀ k, u.ownBlock = some k → B < k) (hW : ∀ k, k < wr.heap.size → W.heap[k]? = wr.heap[k]?)
    (h1 : W.os = wr.os) (h2 : W.tape = wr.tape) (h3 : W.output = wr.output) (h4 : wr.heap.size ≤ W.heap.size) (hgrow : W.grownBy w1 u.ownBlock) : Below B A (w1.setCell ⟨B, na, none⟩ x) := by
  refine hB.trans (Below.setCell (p := ⟨B, na, none⟩) ⟨hgrow.os.trans h1, hgrow.tape.trans h2, hgrow.output.trans h3, Nat.le_trans h4 hgrow.size, fun k hk => ?_⟩ (Nat.le_refl _) _)
  have hk : k < B := hk
  rw [hgrow.block k (by omega) (fun e => by have := hok k e.symm; omega), hW k (by omega)]

set_option maxRecDepth 100000 in
set_option maxHeartbeats 40000000 in
theorem search_any (n : Nat) (v : Value) (l : List Rd) (s : Nat) (ki : Int) (bk : Bool) (w : World) (hl : RoadsAt w v l) (hG : Good n l) (hsn : s < n) :
    Calls Try.prog 23 #[.agg #[I n, v], I s, I ki, B bk] w (RetInts w (dlist (edges ki bk l) n s)) := by
  have hn := hG.nodes
  have hk := hG.len
  have hR := hG.road
  obtain ⟨a, cap, rfl, hlc, hcap⟩ := hl.shape
  have hmk := fun u => run_make1 (P := Try.prog) 50 51 _ _ Try.underlying50 info_slc rfl n (by omega) (by omega) u
  have hmi := fun u => run_make1 (P := Try.prog) 25 3 _ _ Try.underlying25 info_int rfl n (by omega) (by omega) u
  obtain ⟨i0, hi0, hz0, hz1, hz2⟩ := info_parts info_stop
  have HR := Lib.hid hR; clear hR
  go_enter Try.func23, Try.ntmps23
  go_upto_block 0 with fail
  go_cut [27] (fun _ wx => NextAt wx (w.heap.size + 1) n (edges ki bk l) ∧ Below (w.heap.size + 1) (w.alloc (.cells #[I n, .slice a l.length cap] 24)) wx)
  case first =>
   go_wp2_with fail
   go_loopw [27] (fun c wr => ∃ j : Nat, j ≤ l.length ∧ c = I j ∧ NextAt wr (w.heap.size + 1) n (edges ki bk (l.take j)) ∧ Below (w.heap.size + 1) (w.alloc (.cells #[I n, .slice a l.length cap] 24)) wr) (fun c _ => l.length - (intOf c).toNat)
   case atStart => exact ⟨0, by omega, rfl, by simpa [edges_nil] using next_start (w.alloc _) n, (Below.refl _ _).alloc (by simp) _⟩
   case round =>
    obtain ⟨j, hj, rfl, hN, hB⟩ := hrel
    obtain ⟨hb, hs, hc0, hc1⟩ := box2 hB
    by_cases hlt : j < l.length
    · obtain ⟨b, off, x, rfl, hbl, hx, g0, g1, g2, g3⟩ := RoadsAt.get4 (hl.below RRoad.mono hb) hlt
      obtain ⟨r1, r2, r3, r4, r5, r6⟩ := HR.out x (List.mem_of_getElem? hx.out)
      cases bk with
      | false =>
        by_cases hcar : carB x.li ki = true
        · obtain ⟨vs, hvs, hvl, hrow, hdis⟩ := hN
          obtain ⟨na, ha⟩ : ∃ na : Nat, x.fr = (na : Int) := ⟨x.fr.toNat, by omega⟩
          obtain ⟨nb, hto⟩ : ∃ nb : Nat, x.to = (nb : Int) := ⟨x.to.toNat, by omega⟩
          obtain ⟨nm, hm⟩ : ∃ nm : Nat, x.mi = (nm : Int) := ⟨x.mi.toNat, by omega⟩
          obtain ⟨u, hu⟩ : ∃ u, vs[na]? = some u := ⟨_, List.getElem?_eq_getElem (by omega)⟩
          obtain ⟨ho, hog, hok⟩ := hrow na u hu
          have hcu : wr.cell? ⟨w.heap.size + 1, na, none⟩ = some u := by rw [cell_of_row wr _ na _ _ (0, 0) hvs]; simpa using hu
          have hfu : wr.frozen? ⟨w.heap.size + 1, na, none⟩ = false := frozen_of_row wr _ na _ _ hvs
          have hGlt : w.heap.size + 1 < wr.heap.size := (Array.getElem?_eq_some_iff.1 hvs).1
          have ha1 : (na : Int) < (n : Int) := by omega
          have hab := adj_bound ki false l j na hk
          have Hrow := Lib.hid hrow; clear hrow
          have Hdis := Lib.hid hdis; clear hdis
          have HE : Hid (edges ki false (l.take (j + 1)) = edges ki false (l.take j) ++ [⟨na, nb, nm⟩]) := Lib.hid <| by
            rw [take_snoc' hx.out, edges_snoc, edgeOf_yes hcar]; show _ = _; simp [ha, hto, hm]
          go_wp2_with fail
          go_quiet (fail)
          go_wp2_with (go_at_call 24; refine (carries_any _ _ _ _ _ _).mono ?_; rintro e w' ⟨rfl, rfl⟩)
          go_region_law ((refine step_append_lies _ (by rfl) _ _ _ (by rfl) 0 53 i0 _ 2 16 Try.underlying51 hi0 hz0 hz1 hz2 rfl (by omega) u _ _ (by rfl) (ownsRow_of ho (fun k hk => heap3 wr _ _ _ k hk)) ⟨wr.heap.size + 2, 0, none⟩ 1 1 [I nm, I nb] (by rfl) (by rfl) (World.news_of_block (cs := #[I nm, I nb]) (t := 53) (fr := (0, 0)) (heap3n wr _ _ _)) (by simp [Value.oneCell']) (by omega) (by unfold maxLen; omega) (by omega) (by simp) (wr.heap.size + 3) (by simp) ?_; intro gg cap' w1 hown1 hgrow hat hlt2; have kc := (hgrow.cell_far ⟨w.heap.size + 1, na, none⟩ (by simp; omega) (Ne.symm hog)).trans ((World.cell?_of_block (heap3 wr _ _ _ _ hGlt)).trans hcu); have kf := (hgrow.frozen_far ⟨w.heap.size + 1, na, none⟩ (by simp; omega) (Ne.symm hog)).trans ((World.frozen?_of_block (heap3 wr _ _ _ _ hGlt)).trans hfu)))
          all_goals
            go_wp2
            go_roundw
            case rel =>
              refine ⟨j + 1, by omega, by go_num, ?_, ?_⟩
              · rw [HE.out]
                exact next_push hvs hvl Hrow.out Hdis.out hu (by simp) (by exact fun k hk => heap3 wr _ _ _ k hk) hown1 hgrow hat
              · exact next_below hB hGlt hok (by exact fun k hk => heap3 wr _ _ _ k hk) (by rfl) (by rfl) (by rfl) (by simp; omega) hgrow
            case measure => simp [intOf]; omega
        · have hcar' : carB x.li ki = false := by simpa using hcar
          clear hcar
          have HE : Hid (edges ki false (l.take (j + 1)) = edges ki false (l.take j)) := Lib.hid <| by
            rw [take_snoc' hx.out, edges_snoc, edgeOf_no hcar']; simp
          go_wp2_with fail
          go_quiet (fail)
          go_wp2_with (go_at_call 24; refine (carries_any _ _ _ _ _ _).mono ?_; rintro e w' ⟨rfl, rfl⟩)
          go_roundw
          case rel =>
            refine ⟨j + 1, by omega, by go_num, ?_, ?_⟩
            · rw [HE.out]
              exact next_kept hN (fun k hk => heap2 wr _ _ k hk)
            · exact belowA (drewN_below (belowA hB (by simp)) _) (by simp)
          case measure => simp [intOf]; omega
      | true =>
        by_cases hcar : carB x.li ki = true
        · obtain ⟨vs, hvs, hvl, hrow, hdis⟩ := hN
          obtain ⟨na, ha⟩ : ∃ na : Nat, x.to = (na : Int) := ⟨x.to.toNat, by omega⟩
          obtain ⟨nb, hto⟩ : ∃ nb : Nat, x.fr = (nb : Int) := ⟨x.fr.toNat, by omega⟩
          obtain ⟨nm, hm⟩ : ∃ nm : Nat, x.mi = (nm : Int) := ⟨x.mi.toNat, by omega⟩
          obtain ⟨u, hu⟩ : ∃ u, vs[na]? = some u := ⟨_, List.getElem?_eq_getElem (by omega)⟩
          obtain ⟨ho, hog, hok⟩ := hrow na u hu
          have hcu : wr.cell? ⟨w.heap.size + 1, na, none⟩ = some u := by rw [cell_of_row wr _ na _ _ (0, 0) hvs]; simpa using hu
          have hfu : wr.frozen? ⟨w.heap.size + 1, na, none⟩ = false := frozen_of_row wr _ na _ _ hvs
          have hGlt : w.heap.size + 1 < wr.heap.size := (Array.getElem?_eq_some_iff.1 hvs).1
          have ha1 : (na : Int) < (n : Int) := by omega
          have hab := adj_bound ki true l j na hk
          have Hrow := Lib.hid hrow; clear hrow
          have Hdis := Lib.hid hdis; clear hdis
          have HE : Hid (edges ki true (l.take (j + 1)) = edges ki true (l.take j) ++ [⟨na, nb, nm⟩]) := Lib.hid <| by
            rw [take_snoc' hx.out, edges_snoc, edgeOf_yes hcar]; show _ = _; simp [ha, hto, hm]
          go_wp2_with fail
          go_quiet (fail)
          go_wp2_with (go_at_call 24; refine (carries_any _ _ _ _ _ _).mono ?_; rintro e w' ⟨rfl, rfl⟩)
          go_region_law ((refine step_append_lies _ (by rfl) _ _ _ (by rfl) 0 53 i0 _ 2 16 Try.underlying51 hi0 hz0 hz1 hz2 rfl (by omega) u _ _ (by rfl) (ownsRow_of ho (fun k hk => heap3 wr _ _ _ k hk)) ⟨wr.heap.size + 2, 0, none⟩ 1 1 [I nm, I nb] (by rfl) (by rfl) (World.news_of_block (cs := #[I nm, I nb]) (t := 53) (fr := (0, 0)) (heap3n wr _ _ _)) (by simp [Value.oneCell']) (by omega) (by unfold maxLen; omega) (by omega) (by simp) (wr.heap.size + 3) (by simp) ?_; intro gg cap' w1 hown1 hgrow hat hlt2; have kc := (hgrow.cell_far ⟨w.heap.size + 1, na, none⟩ (by simp; omega) (Ne.symm hog)).trans ((World.cell?_of_block (heap3 wr _ _ _ _ hGlt)).trans hcu); have kf := (hgrow.frozen_far ⟨w.heap.size + 1, na, none⟩ (by simp; omega) (Ne.symm hog)).trans ((World.frozen?_of_block (heap3 wr _ _ _ _ hGlt)).trans hfu)))
          all_goals
            go_wp2
            go_roundw
            case rel =>
              refine ⟨j + 1, by omega, by go_num, ?_, ?_⟩
              · rw [HE.out]
                exact next_push hvs hvl Hrow.out Hdis.out hu (by simp) (by exact fun k hk => heap3 wr _ _ _ k hk) hown1 hgrow hat
              · exact next_below hB hGlt hok (by exact fun k hk => heap3 wr _ _ _ k hk) (by rfl) (by rfl) (by rfl) (by simp; omega) hgrow
            case measure => simp [intOf]; omega
        · have hcar' : carB x.li ki = false := by simpa using hcar
          clear hcar
          have HE : Hid (edges ki true (l.take (j + 1)) = edges ki true (l.take j)) := Lib.hid <| by
            rw [take_snoc' hx.out, edges_snoc, edgeOf_no hcar']; simp
          go_wp2_with fail
          go_quiet (fail)
          go_wp2_with (go_at_call 24; refine (carries_any _ _ _ _ _ _).mono ?_; rintro e w' ⟨rfl, rfl⟩)
          go_roundw
          case rel =>
            refine ⟨j + 1, by omega, by go_num, ?_, ?_⟩
            · rw [HE.out]
              exact next_kept hN (fun k hk => heap2 wr _ _ k hk)
            · exact belowA (drewN_below (belowA hB (by simp)) _) (by simp)
          case measure => simp [intOf]; omega
    · have e : j = l.length := by omega
      subst e
      go_wp2_with fail
      go_meet
      case rel => exact ⟨by simpa using hN, hB⟩
  case rest =>
    obtain ⟨hN, hB⟩ := hcut
    obtain ⟨hb0, hs0, hc0, hc1⟩ := box2 hB
    obtain ⟨wr0, hwr0⟩ : ∃ wr0 : World, wr0 = wc := ⟨_, rfl⟩
    subst hwr0
    go_upto_block 2 with fail
    go_cut [60] (fun _ wx => OutAt wx wr0.heap.size n (fun _ => none) ∧ Below wr0.heap.size wr0 wx ∧ wx.heap.size = wr0.heap.size + 1)
    case first =>
      go_wp2_with fail
      go_loopw [60] (fun c wr => ∃ j : Nat, j ≤ n ∧ c = I j ∧ wr.heap[wr0.heap.size]? = some (.cells ((List.range n).map fun v => if v < j then I (-1) else I 0).toArray 3 (0, 0)) ∧ Below wr0.heap.size wr0 wr ∧ wr.heap.size = wr0.heap.size + 1) (fun c _ => n - (intOf c).toNat)
      case atStart =>
        refine ⟨0, by omega, rfl, ?_, (Below.refl _ _).alloc (Nat.le_refl _) _, by simp⟩
        rw [heap_alloc_new]
        congr 2
        apply Array.ext'
        apply List.ext_getElem?
        intro i
        simp [List.getElem?_replicate]
        split <;> simp_all
      case round =>
        obtain ⟨j, hj, rfl, hh, hBb, hsz⟩ := hrel
        have Hsz := Lib.hid hsz; clear hsz
        by_cases hlt : j < n
        · have hcj : wr.cell? ⟨wr0.heap.size, j, none⟩ = some (I 0) := by rw [cell_of_row wr _ j _ _ (0, 0) hh]; simp [hlt]
          have hfj : wr.frozen? ⟨wr0.heap.size, j, none⟩ = false := frozen_of_row wr _ j _ _ hh
          have hji : (j : Int) < (n : Int) := by omega
          go_wp2_with fail
          go_roundw
          case rel =>
            refine ⟨j + 1, by omega, by go_num, ?_, hBb.setCell (p := ⟨_, j, none⟩) (Nat.le_refl _) _, by simpa using Hsz.out⟩
            rw [heap_setCell_same wr _ j _ _ _ hh]
            congr 2
            apply Array.ext'
            apply List.ext_getElem?
            intro i
            simp only [List.setIfInBounds_toArray, List.getElem?_set, List.getElem?_map, List.length_map, List.length_range]
            by_cases hi : i < n
            · by_cases hv : j = i
              · subst hv; simp [hi]
              · simp only [hi, hv, List.getElem?_range, Option.map_some, if_false]
                have : (i < j) = (i < j + 1) := by apply propext; omega
                simp [this]
            · by_cases hv : j = i
              · subst hv; simp [hi]
              · simp [hi, hv]
          case measure => simp [intOf]; omega
        · have e : j = n := by omega
          subst e
          go_wp2_with fail
          go_meet
          case rel =>
            refine ⟨?_, hBb, Hsz.out⟩
            unfold OutAt
            rw [hh]
            congr 3
            apply List.map_congr_left
            intro v hv
            simp [encT, List.mem_range.1 hv]
    case rest =>
      obtain ⟨hO, hBc, hsz⟩ := hcut
      obtain ⟨w2, hw2⟩ : ∃ w2 : World, w2 = wc := ⟨_, rfl⟩
      subst hw2
      go_wp2_with fail
      go_loopg [] (1 + pend (edges ki bk l) n (fun _ => none)) (fun k wr => ∃ T H g cap, k = H.length + pend (edges ki bk l) n T ∧ k ≤ 60001 ∧ Wave (edges ki bk l) s T H ∧ HeapN H H.length ∧ (∀ x ∈ H, x.1 ≤ 200000000) ∧ St wr0 wr wr0.heap.size n T H g cap)
      case atStart =>
        refine ⟨fun _ => none, [(0, s)], wr0.heap.size + 1, 1, by simp, ?_, wave_start _ _, fun c h0 h1 => by simp at h1; omega, by simp, ?_⟩
        · have := pend_le (edges ki bk l) n (fun _ => none) (hG.adj ki bk) hG.nodes
          omega
        · exact st_start hO hBc hsz
      case round =>
        obtain ⟨wo, hwo⟩ : ∃ wo : World, wo = wr := ⟨_, rfl⟩
        subst hwo
        obtain ⟨T, H, g, cap, hk1, hk2, hW, hH, hbd, hSt⟩ := hrel
        by_cases hne : 0 < H.length
        · have hpos : (0 : Int) < (H.length : Int) := by omega
          have HW := Lib.hid hW; clear hW
          have HB := Lib.hid hbd; clear hbd
          have HK := Lib.hid hk1; clear hk1
          have HK2 := Lib.hid hk2; clear hk2
          have HHe := Lib.hid hH; clear hH
          have hqc := hSt.qat.cell
          have hta := assert_stop
          go_upto_region 20 with (first
            | (go_at_call 28; refine (len_any _ _ _ _).mono ?_; rintro e w' ⟨rfl, rfl⟩)
            | (go_at_call 29; refine (heappop_any _ _ _ H _ hSt.qat HHe.out hne (by have := HK.out; have := HK2.out; omega)).mono ?_; rintro e w3 ⟨x, H', rfl, hQ3, hp3, hmin, hH3, hOn⟩; have Hmin := Lib.hid hmin; clear hmin; have HH3 := Lib.hid hH3; clear hH3))
          have hSt3 := hSt.only hOn hQ3 (.inl rfl)
          have hq3 : wr0.heap.size + 1 + 1 < w3.heap.size := (Array.getElem?_eq_some_iff.1 hQ3.head).1
          have hS3 : wr0.heap.size < w3.heap.size := (Array.getElem?_eq_some_iff.1 hSt3.out).1
          have hxH : x ∈ H := hp3.mem_iff.1 (List.mem_cons_self ..)
          have hxn : x.2 < n := way_in (hG.inn ki bk) hsn (HW.out.way x hxH)
          have hxb := HB.out x hxH
          have hlen3 : H'.length + 1 = H.length := by have := hp3.length_eq; simpa using this
          have hcx := hSt3.out.cell hxn
          have hfx := hSt3.out.free x.2
          have hxi : (x.2 : Int) < (n : Int) := by omega
          have Hp3 := Lib.hid hp3; clear hp3
          have Hl3 := Lib.hid hlen3; clear hlen3
          have HxH := Lib.hid hxH; clear hxH
          cases hT : T x.2 with
          | some d =>
            rw [hT] at hcx
            have hd : ((d : Int) != -1) = true := by simp
            have HT := Lib.hid hT; clear hT
            simp only [encT] at hcx
            go_wp2_with fail
            go_roundg (H'.length + pend (edges ki bk l) n T)
            case measure => have := HK.out; have := Hl3.out; omega
            case rel =>
              refine ⟨T, H', g, cap, rfl, by have := HK.out; have := Hl3.out; have := HK2.out; omega, HW.out.skip (t := x.1) (v := x.2) (fun y => by rw [← Hp3.out.mem_iff]; exact List.mem_cons) (by rw [HT.out]; simp), HH3.out, fun y hy => HB.out y (Hp3.out.mem_iff.1 (List.mem_cons_of_mem _ hy)), hSt3.alloc _⟩
          | none =>
            rw [hT] at hcx
            have HT := Lib.hid hT; clear hT
            simp only [encT] at hcx
            have hdx := (Wave.least HW.out (t := x.1) (v := x.2) HxH.out Hmin.out HT.out)
            have hx8 : x.1 ≤ 100000000 := by
              have := dst_bound (hG.posi ki bk) (hG.inn ki bk) (hG.most ki bk) hdx
              have := hG.nodes
              have := Nat.mul_le_mul_right 1000000 hG.nodes
              omega
            have hSt4 := hSt3.settle x.2 x.1
            obtain ⟨vs, hvs, hvl, hrow, _⟩ := hN
            obtain ⟨u, hu⟩ : ∃ u, vs[x.2]? = some u := ⟨_, List.getElem?_eq_getElem (by omega)⟩
            obtain ⟨hown, _, _⟩ := hrow x.2 u hu
            have hGS : w.heap.size + 1 < wr0.heap.size := (Array.getElem?_eq_some_iff.1 hvs).1
            have hG3 : w.heap.size + 1 < w3.heap.size := by omega
            have hcu : w3.cell? ⟨w.heap.size + 1, x.2, none⟩ = some u := (hSt3.below.cell (p := ⟨w.heap.size + 1, x.2, none⟩) hGS).trans ((cell_of_row _ _ x.2 _ _ (0, 0) hvs).trans (by simpa using hu))
            obtain ⟨ua, uc, rfl, hushape⟩ := row_shape hown
            obtain ⟨A, hA⟩ : ∃ A, A = adj (edges ki bk l) x.2 := ⟨_, rfl⟩
            rw [← hA] at hown hushape hcu
            have hab : A.length ≤ 600 := by rw [hA]; exact hG.adj ki bk x.2
            have HA := Lib.hid hA; clear hA
            have Hush := Lib.hid hushape; clear hushape hrow hvl
            have Hvs := Lib.hid hvs; clear hvs hu
            go_wp2_with fail
            go_loopw [105] (fun c wr' => ∃ (j : Nat) (H2 : List Stop) (g2 cap2 : Nat), j ≤ A.length ∧ c = I j ∧ St wr0 wr' wr0.heap.size n (setT T x.2 x.1) H2 g2 cap2 ∧ H2.Perm (H' ++ (A.take j).map (fun y => (x.1 + y.1, y.2))) ∧ HeapN H2 H2.length ∧
                wr'.cell? ⟨w3.heap.size, 0, none⟩ = some (I x.1) ∧ wr'.cell? ⟨w3.heap.size, 1, none⟩ = some (I x.2) ∧ w3.heap.size < wr'.heap.size ∧ w3.heap.size ≠ g2) (fun c _ => A.length - (intOf c).toNat)
            case atStart =>
              refine ⟨0, H', g, cap, by omega, rfl, hSt4.alloc _, by simp, HH3.out, ?_, ?_, by simp, ?_⟩
              · rw [World.cell?_alloc_at _ _ _ _ (by simp)]; rfl
              · rw [World.cell?_alloc_at _ _ _ _ (by simp)]; rfl
              · have := hQ3.row.lt; omega
            case round =>
              obtain ⟨j, H2, g2, cap2, hj, rfl, hS2, hp2, hh2, x0, x1, xlt, xg⟩ := hrel
              have HP2 := Lib.hid hp2; clear hp2
              have HH2 := Lib.hid hh2; clear hh2
              have hl2 : H2.length ≤ 100000 := by
                have h1 := HP2.out.length_eq
                have h2 := HK.out; have h3 := HK2.out; have h4 := Hl3.out
                simp at h1
                omega
              by_cases hlt : j < A.length
              · obtain ⟨y, hy⟩ : ∃ y, A[j]? = some y := ⟨_, List.getElem?_eq_getElem hlt⟩
                obtain ⟨gg, hua, hgg⟩ := Hush.out j y hy
                subst hua
                obtain ⟨c0, c1⟩ := row_cells hown hy
                have d0 := (hS2.below.cell (p := ⟨gg, j * 2, none⟩) hgg).trans c0
                have d1 := (hS2.below.cell (p := ⟨gg, j * 2 + 1, none⟩) hgg).trans c1
                have hSw : wr0.heap.size < wr.heap.size := by omega
                have hym : y.1 ≤ 1000000 := by
                  have hyA := List.mem_of_getElem? hy
                  rw [HA.out] at hyA
                  simp only [adj, List.mem_map, List.mem_filter] at hyA
                  obtain ⟨e, ⟨he, _⟩, rfl⟩ := hyA
                  exact hG.most ki bk e he
                obtain ⟨z, hz⟩ : ∃ z : Nat, (x.1 : Int) + (y.1 : Int) = (z : Int) := ⟨x.1 + y.1, by omega⟩
                have Hy := Lib.hid hy; clear hy
                have hggw : gg < wr.heap.size := by omega
                go_wp2_with (go_at_call 30; refine (heappush_any _ _ _ H2 (z, y.2) _ (hS2.alloc _).qat HH2.out (by omega)).mono ?_; rintro e w5 ⟨rfl, g5, cap5, H5, hQ5, hp5, hh5, hg5, hOn5⟩)
                go_roundw
                case rel =>
                  have hXw : w3.heap.size < (wr.alloc (.cells #[I y.1, I y.2] 53)).heap.size := by simp; omega
                  have hb5 := hOn5.block w3.heap.size hXw (by omega) xg
                  have hb6 : (wr.alloc (.cells #[I y.1, I y.2] 53)).heap[w3.heap.size]? = wr.heap[w3.heap.size]? := Below.heap_alloc _ _ _ xlt
                  refine ⟨j + 1, H5, g5, cap5, by omega, by go_num, (hS2.alloc _).only hOn5 hQ5 hg5, ?_, hh5, ?_, ?_, ?_, ?_⟩
                  · rw [take_snoc' Hy.out, List.map_append]
                    have ez : z = x.1 + y.1 := by omega
                    subst ez
                    exact (hp5.trans (HP2.out.append_right _)).trans (by rw [List.append_assoc]; exact .refl _)
                  · exact (World.cell?_of_block (hb5.trans hb6)).trans x0
                  · exact (World.cell?_of_block (hb5.trans hb6)).trans x1
                  · have := hOn5.size; simp only [World.size_alloc] at this; omega
                  · rcases hg5 with hg5 | hg5
                    · omega
                    · simp only [World.size_alloc] at hg5; omega
                case measure => simp [intOf]; omega
              · have ej : j = A.length := by omega
                subst ej
                go_wp2_with fail
                have hpe : H2.Perm (H' ++ A.map (fun y => (x.1 + y.1, y.2))) := by have := HP2.out; rwa [List.take_length] at this
                have hle : H2.length = H'.length + A.length := by have := hpe.length_eq; simpa using this
                have hpd := pend_set (E := edges ki bk l) (t := x.1) hxn HT.out
                rw [← HA.out] at hpd
                go_roundg (H2.length + pend (edges ki bk l) n (setT T x.2 x.1))
                case measure => have := HK.out; have := Hl3.out; omega
                case rel =>
                  refine ⟨setT T x.2 x.1, H2, g2, cap2, rfl, by have := HK.out; have := Hl3.out; have := HK2.out; omega, ?_, HH2.out, ?_, hS2⟩
                  · refine HW.out.step (t := x.1) (v := x.2) (H' := H') (fun y => by rw [← Hp3.out.mem_iff]; exact List.mem_cons) Hmin.out HT.out (fun y => ?_)
                    rw [hpe.mem_iff, List.mem_append, HA.out, mem_adj]
                  · intro y hy
                    rw [hpe.mem_iff, List.mem_append] at hy
                    rcases hy with hy | hy
                    · exact HB.out y (Hp3.out.mem_iff.1 (List.mem_cons_of_mem _ hy))
                    · rw [HA.out, mem_adj] at hy
                      obtain ⟨e, he, _, rfl⟩ := hy
                      have := hG.most ki bk e he
                      show x.1 + e.m ≤ _
                      omega
        · have hH0 : H = [] := List.eq_nil_of_length_eq_zero (by omega)
          subst hH0
          have hqc := hSt.qat.cell
          go_wp2_with (go_at_call 28; refine (len_any _ _ _ _).mono ?_; rintro e w' ⟨rfl, rfl⟩)
          go_ret
          refine ⟨_, rfl, ?_, ?_⟩
          · have := hSt.out.ints hG.nodes
            have e : ((List.range n).map fun v => encT (T v)) = dlist (edges ki bk l) n s := List.map_congr_left fun v _ => by rw [hW.last v]
            rw [← e]; exact this
          · exact hb0.trans (hSt.below.mono (by omega))

end Go.Proofs.Ytmmbomkbaebodaa
