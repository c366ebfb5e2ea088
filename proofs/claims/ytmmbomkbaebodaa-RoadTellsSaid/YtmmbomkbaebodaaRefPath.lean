/-
  The reference's Path: the walk.
-/
import Derived.Test.YtmmbomkbaebodaaRefMore
import Derived.Test.YtmmbomkbaebodaaAppend
namespace Go.Proofs.Ytmmbomkbaebodaa
set_option linter.unusedVariables false
set_option linter.unusedSimpArgs false
open Go.RowKit

theorem grow_plain {A wr w1 : World} {B : Nat} {u : Value} {o : Obj} (hB : Below B A wr) (hBs : B ≤ wr.heap.size) (hok : ∀ k, u.ownBlock = some k → B ≤ k) (hgrow : (wr.alloc o).grownBy w1 u.ownBlock) : Below B A w1 := by
  refine hB.trans ⟨hgrow.os.trans rfl, hgrow.tape.trans rfl, hgrow.output.trans rfl, ?_, fun k hk => ?_⟩
  · have := hgrow.size
    simp at this; omega
  · rw [hgrow.block k (by simp; omega) (fun e => by have := hok k e.symm; omega)]
    exact Below.heap_alloc wr o k (by omega)

set_option maxRecDepth 100000 in
set_option maxHeartbeats 40000000 in
theorem rpath_any (n a0 b0 ki : Int) (v : Value) (l : List Rd) (w : World) (hl : RoadsAt w v l) :
    Calls Try.prog 12 #[.agg #[I n, v], I a0, I b0, I ki] w (RetPath w (pathL n l a0 b0 ki)) := by
  obtain ⟨a, cap, rfl, hlc, hcap⟩ := hl.shape
  unfold maxLen at hcap
  by_cases hc : chkNet n l = 0
  · have hcb : (chkNet n l != 0) = false := by simp [hc]
    obtain ⟨h0, h1, h2, h3⟩ := chkNet_zero hc
    obtain ⟨N, rfl⟩ : ∃ N : Nat, n = (N : Int) := ⟨n.toNat, by omega⟩
    have hG := good_of hc
    have HC := Lib.hid hc; clear hc h3
    by_cases hs : 0 ≤ a0 ∧ a0 < N
    · obtain ⟨S, rfl⟩ : ∃ S : Nat, a0 = (S : Int) := ⟨a0.toNat, by omega⟩
      have hin : inB (S : Int) 0 ((N : Int) - 1) = true := by rw [inB_iff]; omega
      have hS : S < N := by omega
      by_cases hd : 0 ≤ b0 ∧ b0 < N
      · obtain ⟨D, rfl⟩ : ∃ D : Nat, b0 = (D : Int) := ⟨b0.toNat, by omega⟩
        have hin2 : inB (D : Int) 0 ((N : Int) - 1) = true := by rw [inB_iff]; omega
        have hD : D < N := by omega
        have hDi : (D : Int) < (N : Int) := by omega
        have hn := hG.nodes
        have hk := hG.len
        obtain ⟨i0, hi0, hz0, hz1, hz2⟩ := info_parts info_int1
        go_enter Try.func12, Try.ntmps12
        go_upto_region 3 with (first
          | (go_at_call 14; refine (Check_any _ _ l _ (hl.below RRoad.mono ((Below.refl _ _).alloc (Nat.le_refl _) _))).mono ?_; rintro e w1 ⟨rfl, hb1⟩; obtain ⟨hB1, hb1', hs1, hc10, hc11⟩ := box2s hb1)
          | (go_at_call 25; refine (node_any _ _ _ _ _ _).mono ?_; rintro e w' ⟨rfl, rfl⟩))
        obtain ⟨wA, hwA⟩ : ∃ wA : World, wA = (w1.alloc (.cells #[I N, .slice a l.length cap] 24)).alloc (.cells #[I N, .slice a l.length cap] 24) := ⟨_, rfl⟩
        have hbA1 : Below w1.heap.size w1 wA := by rw [hwA]; exact belowA (belowA (Below.refl _ _) (Nat.le_refl _)) (Nat.le_refl _)
        rw [← hwA]
        clear hwA
        have hcA0 := (hbA1.cell (p := ⟨w.heap.size, 0, none⟩) hs1).trans hc10
        have hcA1 := (hbA1.cell (p := ⟨w.heap.size, 1, none⟩) hs1).trans hc11
        have hbA := hb1'.trans (hbA1.mono hb1'.size)
        have hsA : w.heap.size < wA.heap.size := by have := hbA1.size; omega
        clear hb1 hB1 hb1' hc10 hc11 hbA1 hs1
        cases hL : lef l ki D S with
        | none =>
          have HL := Lib.hid hL; clear hL
          go_wp2_with (go_at_call 17; refine Calls.mono (rtimes_any _ _ _ _ l _ (hl.below RRoad.mono hbA)) ?_; rw [timesL_good HC.out hS]; rintro e w3 ⟨v3, rfl, hi3, hb3⟩; obtain ⟨tb3, to3, tc3, rfl, htb3, htc3⟩ := tl_cell hi3 (by omega); have fD3 := htc3 D hD; rw [← lef_eq, HL.out] at fD3; simp only [encT] at fD3; clear htc3 hi3)
          go_ret2
          rw [pathL_none HC.out hS hD HL.out]
          exact ⟨_, rfl, ints_nil _, hbA.trans (hb3.mono hbA.size)⟩
        | some d =>
          obtain ⟨p, hp, hpl⟩ := path_exists hG ki D d S hL
          have hpn : p.length ≤ 100 := by have := sooner_le (edges ki true l) N D d; omega
          have HL := Lib.hid hL; clear hL
          have HP := Lib.hid hp; clear hp
          go_upto_region 5 with (go_at_call 17; refine Calls.mono (rtimes_any _ _ _ _ l _ (hl.below RRoad.mono hbA)) ?_; rw [timesL_good HC.out hS]; rintro e w3 ⟨v3, rfl, hi3, hb3⟩; obtain ⟨tb3, to3, tc3, rfl, htb3, htc3⟩ := tl_cell hi3 (by omega); have fD3 := htc3 D hD; rw [← lef_eq, HL.out] at fD3; simp only [encT] at fD3; clear htc3 hi3)
          have hb3' := hbA.trans (hb3.mono hbA.size)
          have hc30 := (hb3.cell (p := ⟨w.heap.size, 0, none⟩) hsA).trans hcA0
          have hc31 := (hb3.cell (p := ⟨w.heap.size, 1, none⟩) hsA).trans hcA1
          have hs3 : w.heap.size < w3.heap.size := by have := hb3.size; omega
          clear fD3 htb3 hb3
          go_wp2_with fail
          go_loopg [1, 10] p.length (fun k c v wr => ∃ (at' : Nat) (pre rest : List Nat), c = I at' ∧ at' < N ∧ p = pre ++ rest ∧ rest.length = k ∧ PathR l ki D at' rest ∧ wr.ownsRow 0 3 1 v pre.length ((pre.map fun i : Nat => (i : Int)).map I) ∧ (∀ g, v.ownBlock = some g → w3.heap.size ≤ g) ∧ Below w3.heap.size w3 wr)
          case atStart => exact ⟨S, [], p, rfl, hS, rfl, rfl, HP.out, owns_empty (heap_alloc_new w3 _), by intro g hg; simp [Value.ownBlock] at hg; omega, belowA (Below.refl _ _) (Nat.le_refl _)⟩
          case round =>
            obtain ⟨at', pre, rest, rfl, hat, hpp, hrk, hR, hown, hob, hB2⟩ := hrel
            obtain ⟨wo, hwo⟩ : ∃ wo : World, wo = wr := ⟨_, rfl⟩
            subst hwo
            have HPP := Lib.hid hpp; clear hpp
            have HRK := Lib.hid hrk; clear hrk
            have HOB := Lib.hid hob; clear hob
            have hprel : pre.length ≤ 100 := by have h := congrArg List.length HPP.out; simp at h; omega
            have hco0 := (hB2.cell (p := ⟨w.heap.size, 0, none⟩) hs3).trans hc30
            have hco1 := (hB2.cell (p := ⟨w.heap.size, 1, none⟩) hs3).trans hc31
            have hbo := hb3'.trans (hB2.mono hb3'.size)
            have hso : w.heap.size < wo.heap.size := by have := hB2.size; omega
            cases hR with
            | nil =>
              have hne : ((D : Int) != (D : Int)) = false := by simp
              go_wp2_with fail
              go_ret2
              rw [pathL_some HC.out hS hD HL.out, pathP_eq HP.out]
              refine ⟨_, rfl, ?_, hbo⟩
              have e : p = pre := by have := HPP.out; simpa using this
              show IntsAt _ _ (p.map fun i : Nat => (i : Int))
              rw [e]
              exact owns_ints (by simpa using hown)
            | cons hne hok hmin hx hp' =>
              rename_i ix x0 p'
              obtain ⟨dl, hdl⟩ : ∃ dl, dst (edges ki false l) at' D = some dl := by
                obtain ⟨_, u, _, _, _, _, h5⟩ := hok.edge
                exact ⟨_, h5⟩
              have hneB : ((at' : Int) != (D : Int)) = true := by simp; omega
              have hixl : ix < l.length := (List.getElem?_eq_some_iff.1 hx).1
              have hati : (at' : Int) < (N : Int) := by omega
              have hdlb : dl ≤ 100000000 := by
                have := dst_bound (hG.posi ki false) (hG.inn ki false) (hG.most ki false) hdl
                have := Nat.mul_le_mul_right 1000000 hn
                omega
              have HOK := Lib.hid hok; clear hok
              have HMIN := Lib.hid hmin; clear hmin
              have HNE := Lib.hid hne; clear hne
              have HX := Lib.hid hx; clear hx
              have HP' := Lib.hid hp'; clear hp'
              have HDL := Lib.hid hdl; clear hdl
              have HOWN := Lib.hid hown; clear hown
              have hob0 : Below w3.heap.size w3 wo := hB2
              go_wp2_with (go_at_call 17; refine Calls.mono (rtimes_any _ _ _ _ l _ (hl.below RRoad.mono hbo)) ?_; rw [timesL_good HC.out hat]; rintro e w4 ⟨v4, rfl, hi4, hb4⟩; obtain ⟨tb4, to4, tc4, rfl, htb4, htc4⟩ := tl_cell hi4 (by omega); have fD4 := htc4 D hD; rw [HDL.out] at fD4; simp only [encT] at fD4; have hc40 := (hb4.cell (p := ⟨w.heap.size, 0, none⟩) hso).trans hco0; have hc41 := (hb4.cell (p := ⟨w.heap.size, 1, none⟩) hso).trans hco1; have hb4' := hbo.trans (hb4.mono hbo.size); have hs4 : w.heap.size < w4.heap.size := (by have := hb4.size; omega); clear htc4 hi4)
              go_loopw [12, 13] (fun nx i wr => ∃ k : Nat, k ≤ l.length ∧ i = I ((k : Int) - 1) ∧ ∃ xi : Int, nx = I xi ∧ Nx l ki D at' k xi ∧ Below w4.heap.size w4 wr) (fun _ i _ => (intOf i + 1).toNat)
              case atStart => exact ⟨l.length, Nat.le_refl _, rfl, -1, rfl, nx_start l ki D at', Below.refl _ _⟩
              case round =>
                obtain ⟨k1, hk1, rfl, xi, rfl, hNx, hBr⟩ := hrel
                have HNX := Lib.hid hNx; clear hNx
                have hbr := hb4'.trans (hBr.mono hb4'.size)
                have k40 := (hBr.cell (p := ⟨w.heap.size, 0, none⟩) hs4).trans hc40
                have k41 := (hBr.cell (p := ⟨w.heap.size, 1, none⟩) hs4).trans hc41
                have hsr : w.heap.size < wr.heap.size := by have := hBr.size; omega
                by_cases hk0 : k1 = 0
                · subst hk0
                  have hxi := nx_end HNX.out HOK.out HMIN.out
                  subst hxi
                  have howr := ownsRow_up HOWN.out (fun k hk => (hb4.trans (hBr.mono hb4.size)).block k hk)
                  have HOWR := Lib.hid howr; clear howr
                  have hb3r : Below w3.heap.size w3 wr := hB2.trans ((hb4.trans (hBr.mono hb4.size)).mono hB2.size)
                  obtain ⟨rb, ro, y, rfl, hrbl, hy, gy0, gy1, gy2, gy3⟩ := RoadsAt.get4 hl hixl
                  have hyx : y = x0 := Option.some.inj (hy.out.symm.trans HX.out)
                  subst hyx
                  obtain ⟨q1, q2, q3, q4, q5, q6⟩ := hG.road y (List.mem_of_getElem? hy.out)
                  have hixi : (ix : Int) < (l.length : Int) := by omega
                  have hrb3 : rb < w3.heap.size := by omega
                  clear gy0 gy2 gy3
                  go_wp2_with (at_builtin; refine wpList_append_src _ (by rfl) _ _ _ (by rfl) 0 3 i0 _ 1 8 Try.underlying25 hi0 hz0 hz1 hz2 rfl (by omega) _ _ _ (by rfl) (World.ownsRow.alloc HOWR.out _) (some ⟨wr.heap.size, 0, none⟩) 1 1 [I ix] (by rfl) (src_block (heap_alloc_new wr _) rfl) (by simp [Value.oneCell']) (by unfold maxLen; omega) (by omega) (Nat.zero_le _) ?_; intro u2 w8 hown8 hgrow8 hat8; have hb38 : Below w3.heap.size w3 w8 := grow_plain hb3r hb3r.size HOB.out hgrow8; have k81 := (hb38.cell (p := ⟨w.heap.size, 1, none⟩) hs3).trans hc31; have gy8 := (hb38.cell (p := ⟨rb, ro + ix * 4 + 1, none⟩) hrb3).trans ((hb3'.cell (p := ⟨rb, ro + ix * 4 + 1, none⟩) hrbl).trans gy1))
                  go_roundg p'.length
                  case measure => have := HRK.out; simp at this; omega
                  case rel =>
                    refine ⟨y.to.toNat, pre ++ [ix], p', by rw [Int.toNat_of_nonneg (by omega)], by omega, by rw [HPP.out]; simp, rfl, HP'.out, ?_, ?_, hb38⟩
                    · rw [List.length_append, List.length_singleton, List.map_append, List.map_append]; exact hown8
                    · intro g hg
                      rcases hat8 with e | e
                      · rw [e] at hg; exact HOB.out g hg
                      · rw [e] at hg; have h1 := hb3r.size; simp at hg; omega
                · obtain ⟨k, rfl⟩ : ∃ k, k1 = k + 1 := ⟨k1 - 1, by omega⟩
                  have hkk : ((k + 1 : Nat) : Int) - 1 = (k : Int) := by omega
                  rw [hkk]
                  have hkl : k < l.length := by omega
                  have hki : (k : Int) < (l.length : Int) := by omega
                  clear hkk hk0
                  obtain ⟨b, off, x, rfl, hbl, hx, g0, g1, g2, g3⟩ := RoadsAt.get4 (hl.below RRoad.mono hbr) hkl
                  obtain ⟨r1, r2, r3, r4, r5, r6⟩ := hG.road x (List.mem_of_getElem? hx.out)
                  obtain ⟨nb, hto⟩ : ∃ nb : Nat, x.to = (nb : Int) := ⟨x.to.toNat, by omega⟩
                  obtain ⟨nm, hm⟩ : ∃ nm : Nat, x.mi = (nm : Int) := ⟨x.mi.toNat, by omega⟩
                  have hbN : nb < N := by omega
                  have hnm : (nm : Int) ≤ 1000000 := by omega
                  have hiff := okR_iff (ki := ki) (b := D) (a := at') hx.out
                  rw [hto] at g1 hiff
                  rw [hm] at g2 hiff
                  simp only [Int.toNat_natCast] at hiff
                  have HIFF := Lib.hid hiff; clear hiff
                  have HTO := Lib.hid hto; clear hto
                  have HM := Lib.hid hm; clear hm
                  by_cases hfr : x.fr = (at' : Int)
                  · have hfb : (x.fr != (at' : Int)) = false := by simp [hfr]
                    have HFR := Lib.hid hfr; clear hfr
                    obtain ⟨o, ho⟩ : ∃ o, o = Obj.cells #[I x.fr, I nb, I nm, I x.li] 38 := ⟨_, rfl⟩
                    have hbx : Below wr.heap.size wr (wr.alloc (.cells #[I x.fr, I nb, I nm, I x.li] 38)) := belowA (Below.refl _ _) (Nat.le_refl _)
                    have k50 : (wr.alloc (.cells #[I x.fr, I nb, I nm, I x.li] 38)).cell? ⟨w.heap.size, 0, none⟩ = some (I N) := by rw [World.cell?_alloc_lt _ _ _ hsr]; exact k40
                    have k51 : (wr.alloc (.cells #[I x.fr, I nb, I nm, I x.li] 38)).cell? ⟨w.heap.size, 1, none⟩ = some (.slice (some ⟨b, off, none⟩) l.length cap) := by rw [World.cell?_alloc_lt _ _ _ hsr]; exact k41
                    have xx1 : (wr.alloc (.cells #[I x.fr, I nb, I nm, I x.li] 38)).cell? ⟨wr.heap.size, 1, none⟩ = some (I nb) := by simp
                    have xx2 : (wr.alloc (.cells #[I x.fr, I nb, I nm, I x.li] 38)).cell? ⟨wr.heap.size, 2, none⟩ = some (I nm) := by simp
                    clear ho o
                    by_cases hcar : carB x.li ki = true
                    · cases hun : dst (edges ki false l) nb D with
                      | none =>
                        have hnok : ¬ OkR l ki D at' k := fun h => by
                          obtain ⟨_, _, u, h4, _⟩ := HIFF.out.1 h
                          rw [hun] at h4
                          cases h4
                        have HNOK := Lib.hid hnok; clear hnok
                        have HUN := Lib.hid hun; clear hun
                        go_wp2_with (first | (go_at_call 26; refine Calls.mono (Carries_y _ _ _ _ _ _ _ hcar) ?_; rintro e w6 ⟨rfl, hb6⟩; have hb6' := hbx.trans (hb6.mono hbx.size); have k60 := (hb6.cell (p := ⟨w.heap.size, 0, none⟩) (by simp; omega)).trans k50; have k61 := (hb6.cell (p := ⟨w.heap.size, 1, none⟩) (by simp; omega)).trans k51; have x61 := (hb6.cell (p := ⟨wr.heap.size, 1, none⟩) (by simp)).trans xx1; have x62 := (hb6.cell (p := ⟨wr.heap.size, 2, none⟩) (by simp)).trans xx2; have hs6 : w.heap.size < w6.heap.size := (by have := hb6.size; simp at this; omega); have hs6' : wr.heap.size < w6.heap.size := (by have := hb6.size; simp at this; omega)) | (go_at_call 17; refine Calls.mono (rtimes_any _ _ _ _ l _ (hl.below RRoad.mono (hbr.trans (hb6'.mono hbr.size)))) ?_; rw [timesL_good HC.out hbN]; rintro e w7 ⟨v7, rfl, hi7, hb7⟩; obtain ⟨tb7, to7, tc7, rfl, htb7, htc7⟩ := tl_cell hi7 (by omega); have fD7 := htc7 D hD; rw [HUN.out] at fD7; simp only [encT] at fD7; have x72 := (hb7.cell (p := ⟨wr.heap.size, 2, none⟩) hs6').trans x62; have hb7' := hb6'.trans (hb7.mono hb6'.size); clear htc7 hi7))
                        go_roundw
                        case rel => exact ⟨k, by omega, rfl, _, rfl, nx_miss HNX.out HNOK.out, hBr.trans (hb7'.mono hBr.size)⟩
                        case measure => first | (simp [intOf]; done) | (simp [intOf]; omega)
                      | some du =>
                        have hdu : du ≤ 100000000 := by
                          have := dst_bound (hG.posi ki false) (hG.inn ki false) (hG.most ki false) hun
                          have := Nat.mul_le_mul_right 1000000 hn
                          omega
                        by_cases hsum : du + nm = dl
                        · have hok : OkR l ki D at' k := HIFF.out.2 ⟨HFR.out, hcar, du, hun, by rw [HDL.out, hsum]⟩
                          have hst : ((du : Int) + (nm : Int) == (dl : Int)) = true := by rw [beq_iff_eq]; omega
                          have hsn : (du + nm == dl) = true := by simpa using hsum
                          have hge : decide ((0 : Int) ≤ (du : Int)) = true := by simp
                          have HOKK := Lib.hid hok; clear hok hsum
                          have HUN := Lib.hid hun; clear hun
                          go_wp2_with (first | (go_at_call 26; refine Calls.mono (Carries_y _ _ _ _ _ _ _ hcar) ?_; rintro e w6 ⟨rfl, hb6⟩; have hb6' := hbx.trans (hb6.mono hbx.size); have k60 := (hb6.cell (p := ⟨w.heap.size, 0, none⟩) (by simp; omega)).trans k50; have k61 := (hb6.cell (p := ⟨w.heap.size, 1, none⟩) (by simp; omega)).trans k51; have x61 := (hb6.cell (p := ⟨wr.heap.size, 1, none⟩) (by simp)).trans xx1; have x62 := (hb6.cell (p := ⟨wr.heap.size, 2, none⟩) (by simp)).trans xx2; have hs6 : w.heap.size < w6.heap.size := (by have := hb6.size; simp at this; omega); have hs6' : wr.heap.size < w6.heap.size := (by have := hb6.size; simp at this; omega)) | (go_at_call 17; refine Calls.mono (rtimes_any _ _ _ _ l _ (hl.below RRoad.mono (hbr.trans (hb6'.mono hbr.size)))) ?_; rw [timesL_good HC.out hbN]; rintro e w7 ⟨v7, rfl, hi7, hb7⟩; obtain ⟨tb7, to7, tc7, rfl, htb7, htc7⟩ := tl_cell hi7 (by omega); have fD7 := htc7 D hD; rw [HUN.out] at fD7; simp only [encT] at fD7; have x72 := (hb7.cell (p := ⟨wr.heap.size, 2, none⟩) hs6').trans x62; have hb7' := hb6'.trans (hb7.mono hb6'.size); clear htc7 hi7))
                          go_roundw
                          case rel => exact ⟨k, by omega, rfl, _, rfl, nx_hit HOKK.out, hBr.trans (hb7'.mono hBr.size)⟩
                          case measure => first | (simp [intOf]; done) | (simp [intOf]; omega)
                        · have hnok : ¬ OkR l ki D at' k := fun h => by
                            obtain ⟨_, _, u, h4, h5⟩ := HIFF.out.1 h
                            rw [hun] at h4
                            cases h4
                            rw [HDL.out] at h5
                            exact hsum (Option.some.inj h5).symm
                          have hst : ((du : Int) + (nm : Int) == (dl : Int)) = false := by rw [beq_eq_false_iff_ne]; omega
                          have hsn : (du + nm == dl) = false := by simpa using hsum
                          have hge : decide ((0 : Int) ≤ (du : Int)) = true := by simp
                          have HNOK := Lib.hid hnok; clear hnok hsum
                          have HUN := Lib.hid hun; clear hun
                          go_wp2_with (first | (go_at_call 26; refine Calls.mono (Carries_y _ _ _ _ _ _ _ hcar) ?_; rintro e w6 ⟨rfl, hb6⟩; have hb6' := hbx.trans (hb6.mono hbx.size); have k60 := (hb6.cell (p := ⟨w.heap.size, 0, none⟩) (by simp; omega)).trans k50; have k61 := (hb6.cell (p := ⟨w.heap.size, 1, none⟩) (by simp; omega)).trans k51; have x61 := (hb6.cell (p := ⟨wr.heap.size, 1, none⟩) (by simp)).trans xx1; have x62 := (hb6.cell (p := ⟨wr.heap.size, 2, none⟩) (by simp)).trans xx2; have hs6 : w.heap.size < w6.heap.size := (by have := hb6.size; simp at this; omega); have hs6' : wr.heap.size < w6.heap.size := (by have := hb6.size; simp at this; omega)) | (go_at_call 17; refine Calls.mono (rtimes_any _ _ _ _ l _ (hl.below RRoad.mono (hbr.trans (hb6'.mono hbr.size)))) ?_; rw [timesL_good HC.out hbN]; rintro e w7 ⟨v7, rfl, hi7, hb7⟩; obtain ⟨tb7, to7, tc7, rfl, htb7, htc7⟩ := tl_cell hi7 (by omega); have fD7 := htc7 D hD; rw [HUN.out] at fD7; simp only [encT] at fD7; have x72 := (hb7.cell (p := ⟨wr.heap.size, 2, none⟩) hs6').trans x62; have hb7' := hb6'.trans (hb7.mono hb6'.size); clear htc7 hi7))
                          go_roundw
                          case rel => exact ⟨k, by omega, rfl, _, rfl, nx_miss HNX.out HNOK.out, hBr.trans (hb7'.mono hBr.size)⟩
                          case measure => first | (simp [intOf]; done) | (simp [intOf]; omega)
                    · have hcar : carB x.li ki = false := by simpa using hcar
                      have hnok : ¬ OkR l ki D at' k := fun h => by
                        have h3 := (HIFF.out.1 h).2.1
                        rw [hcar] at h3
                        cases h3
                      have HNOK := Lib.hid hnok; clear hnok
                      go_wp2_with (go_at_call 26; refine Calls.mono (Carries_y _ _ _ _ _ _ _ hcar) ?_; rintro e w6 ⟨rfl, hb6⟩; have hb6' := hbx.trans (hb6.mono hbx.size); have k60 := (hb6.cell (p := ⟨w.heap.size, 0, none⟩) (by simp; omega)).trans k50; have k61 := (hb6.cell (p := ⟨w.heap.size, 1, none⟩) (by simp; omega)).trans k51; have x61 := (hb6.cell (p := ⟨wr.heap.size, 1, none⟩) (by simp)).trans xx1; have x62 := (hb6.cell (p := ⟨wr.heap.size, 2, none⟩) (by simp)).trans xx2; have hs6 : w.heap.size < w6.heap.size := (by have := hb6.size; simp at this; omega); have hs6' : wr.heap.size < w6.heap.size := (by have := hb6.size; simp at this; omega))
                      go_roundw
                      case rel => exact ⟨k, by omega, rfl, _, rfl, nx_miss HNX.out HNOK.out, hBr.trans (hb6'.mono hBr.size)⟩
                      case measure => first | (simp [intOf]; done) | (simp [intOf]; omega)
                  · have hfb : (x.fr != (at' : Int)) = true := by simpa using hfr
                    have hnok : ¬ OkR l ki D at' k := fun h => hfr (HIFF.out.1 h).1
                    have HNOK := Lib.hid hnok; clear hnok hfr
                    go_wp2_with fail
                    have hbx : Below wr.heap.size wr (wr.alloc (.cells #[I x.fr, I nb, I nm, I x.li] 38)) := belowA (Below.refl _ _) (Nat.le_refl _)
                    go_roundw
                    case rel => exact ⟨k, by omega, rfl, _, rfl, nx_miss HNX.out HNOK.out, hBr.trans (hbx.mono hBr.size)⟩
                    case measure => first | (simp [intOf]; done) | (simp [intOf]; omega)
      · have hin2 : inB b0 0 ((N : Int) - 1) = false := by rw [inB_not]; omega
        rw [pathL_bad (fun h => hd h.2.2)]
        go_enter Try.func12, Try.ntmps12
        go_wp2_with (first
          | (go_at_call 14; refine (Check_any _ _ l _ (hl.below RRoad.mono ((Below.refl _ _).alloc (Nat.le_refl _) _))).mono ?_; rintro e w1 ⟨rfl, hb1⟩; obtain ⟨hB1, hb1', hs1, hc10, hc11⟩ := box2s hb1)
          | (go_at_call 25; refine (node_any _ _ _ _ _ _).mono ?_; rintro e w' ⟨rfl, rfl⟩))
        go_ret2
        exact ⟨_, rfl, ints_nil _, belowA (belowA hb1' (Nat.le_refl _)) (Nat.le_refl _)⟩
    · have hin : inB a0 0 ((N : Int) - 1) = false := by rw [inB_not]; omega
      rw [pathL_bad (fun h => hs h.2.1)]
      go_enter Try.func12, Try.ntmps12
      go_wp2_with (first
        | (go_at_call 14; refine (Check_any _ _ l _ (hl.below RRoad.mono ((Below.refl _ _).alloc (Nat.le_refl _) _))).mono ?_; rintro e w1 ⟨rfl, hb1⟩; obtain ⟨hB1, hb1', hs1, hc10, hc11⟩ := box2s hb1)
        | (go_at_call 25; refine (node_any _ _ _ _ _ _).mono ?_; rintro e w' ⟨rfl, rfl⟩))
      go_ret2
      exact ⟨_, rfl, ints_nil _, belowA hb1' (Nat.le_refl _)⟩
  · have hcb : (chkNet n l != 0) = true := by simpa using hc
    rw [pathL_bad (fun h => hc h.1)]
    clear hc
    go_enter Try.func12, Try.ntmps12
    go_wp2_with (first
      | (go_at_call 14; refine (Check_any _ _ l _ (hl.below RRoad.mono ((Below.refl _ _).alloc (Nat.le_refl _) _))).mono ?_; rintro e w1 ⟨rfl, hb1⟩; obtain ⟨hB1, hb1', hs1, hc10, hc11⟩ := box2s hb1)
      | (go_at_call 25; refine (node_any _ _ _ _ _ _).mono ?_; rintro e w' ⟨rfl, rfl⟩))
    go_ret2
    exact ⟨_, rfl, ints_nil _, hb1'⟩
end Go.Proofs.Ytmmbomkbaebodaa
