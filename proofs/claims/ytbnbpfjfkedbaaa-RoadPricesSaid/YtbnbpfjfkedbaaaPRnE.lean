/-
  The walk of road.Path.
-/
import Derived.Test.YtbnbpfjfkedbaaaPRnD
import Derived.Test.YtbnbpfjfkedbaaaPRnC
namespace Go.Proofs.Ytbnbpfjfkedbaaa.Rn
set_option linter.unusedVariables false
set_option linter.unusedSimpArgs false
set_option linter.unusedSectionVars false
set_option maxRecDepth 100000
open Go.RowKit
theorem tl_cell {w : World} {v : Value} {n : Nat} {E : List Ed} {s : Nat} (h : IntsAt w v (dlist E n s)) (hn : 0 < n) : ∃ b off cap, v = .slice (some ⟨b, off, none⟩) n cap ∧ b < w.heap.size ∧ ∀ i, i < n → w.cell? ⟨b, off + i, none⟩ = some (I (encT (dst E s i))) := by
 obtain ⟨a, cap, rfl, _, _⟩ := h.shape
 rw [dlist_length] at h ⊢
 obtain ⟨b, off, rfl, hb, hc⟩ := h.row (by rw [dlist_length]; exact hn)
 exact ⟨b, off, cap, rfl, hb, fun i hi => hc i _ (dlist_get E hi)⟩
theorem ownsRow_up {w W : World} {base : Nat} {e : TypeId} {size : Nat} {v : Value} {n : Nat} {xs : List Value} (h : w.ownsRow base e size v n xs) (hb : ∀ k, k < w.heap.size → W.heap[k]? = w.heap[k]?) : W.ownsRow base e size v n xs := by
 refine ⟨h.1, ?_⟩
 rcases h.2 with hn | ⟨g, cap, cur, rfl, hb', hg, rest⟩
 · exact .inl hn
 · exact .inr ⟨g, cap, cur, rfl, hb', by rw [hb g (Array.getElem?_eq_some_iff.1 hg).1]; exact hg, rest⟩
theorem ownsRow_low {w : World} {base : Nat} {e : TypeId} {size : Nat} {v : Value} {n : Nat} {xs : List Value} (h : w.ownsRow base e size v n xs) : w.ownsRow 0 e size v n xs := by
 refine ⟨h.1, ?_⟩
 rcases h.2 with hn | ⟨g, cap, cur, rfl, hb', rest⟩
 · exact .inl hn
 · exact .inr ⟨g, cap, cur, rfl, Nat.zero_le _, rest⟩
theorem grow_below {A wr w1 : World} {B : Nat} {u : Value} {o : Obj} (hB : Below B A wr) (hBs : B ≤ wr.heap.size) (hok : ∀ k, u.ownBlock = some k → B ≤ k) (hgrow : ((wr.alloc o).drew).grownBy w1 u.ownBlock) : Below B A w1 := by
 refine hB.trans ⟨hgrow.os.trans rfl, hgrow.tape.trans rfl, hgrow.output.trans rfl, ?_, fun k hk => ?_⟩
 · have := hgrow.size
   simp at this; omega
 · rw [hgrow.block k (by simp; omega) (fun e => by have := hok k e.symm; omega)]
   exact Below.heap_alloc wr o k (by omega)
theorem info_int1 : (Try.prog.info? 3).map (fun i => (i.zero, i.size, i.bytes)) = some (some (.int .i64 0), 1, 8) := by kernel_rfl
set_option maxRecDepth 100000 in
set_option maxHeartbeats 40000000 in
theorem path_any (n a0 b0 ki : Int) (v : Value) (l : List Rd) (w : World) (hl : RoadsAt w v l) :
    Calls Try.prog 52 #[.agg #[I n, v], I a0, I b0, I ki] w (RetPath w (pathL n l a0 b0 ki)) := by
 obtain ⟨a, cap, rfl, hlc, hcap⟩ := hl.shape
 by_cases hc : chkNet n l = 0
 · have hcb : (chkNet n l != 0) = false := by simp [hc]
   obtain ⟨h0, h1, h2, h3⟩ := chkNet_zero hc
   obtain ⟨N, rfl⟩ : ∃ N : Nat, n = (N : Int) := ⟨n.toNat, by omega⟩
   have hG := good_of hc
   have HC := Lib.hid hc; clear hc h3
   by_cases hs : 0 ≤ a0 ∧ a0 < N
   · obtain ⟨S, rfl⟩ : ∃ S : Nat, a0 = (S : Int) := ⟨a0.toNat, by omega⟩
     have hin : inB (S : Int) 0 ((N : Int) - 1) = true := by rw [inB_iff]; omega
     have hS : S < N := by omega
     by_cases hd : 0 ≤ b0 ∧ b0 < N
     · obtain ⟨D, rfl⟩ : ∃ D : Nat, b0 = (D : Int) := ⟨b0.toNat, by omega⟩
       have hin2 : inB (D : Int) 0 ((N : Int) - 1) = true := by rw [inB_iff]; omega
       have hD : D < N := by omega
       have hSi : (S : Int) < (N : Int) := by omega
       have hn := hG.nodes
       have hk := hG.len
       obtain ⟨i0, hi0, hz0, hz1, hz2⟩ := info_parts info_int1
       go_enter Try.func52, Try.ntmps52
       go_upto_region 4 with (first
        | (go_at_call 22; refine (check_any _ _ l _ (hl.below RRoad.mono ((Below.refl _ _).alloc (Nat.le_refl _) _))).mono ?_; rintro e w1 ⟨rfl, hb1⟩; obtain ⟨hB1, hb1', hs1, hc10, hc11⟩ := box2s hb1)
        | (go_at_call 55; refine (in_any _ _ _ _).mono ?_; rintro e w' ⟨rfl, rfl⟩)
        | (go_at_call 58; refine (search_any N _ l D _ _ _ (hl.below RRoad.mono hb1') hG hD).mono ?_; rintro e w2 ⟨v2, rfl, hi2, hb2⟩))
       obtain ⟨tb, toff, tc, hv2, htb, htc⟩ := tl_cell hi2 (by omega)
       subst hv2
       have hcS := htc S hS
       have hb2' : Below w.heap.size w w2 := hb1'.trans (hb2.mono hb1'.size)
       have hc20 : w2.cell? ⟨w.heap.size, 0, none⟩ = some (I N) := (hb2.cell (p := ⟨w.heap.size, 0, none⟩) hs1).trans hc10
       have hc21 : w2.cell? ⟨w.heap.size, 1, none⟩ = some (.slice a l.length cap) := (hb2.cell (p := ⟨w.heap.size, 1, none⟩) hs1).trans hc11
       have hs2 : w.heap.size < w2.heap.size := by have := hb2.size; omega
       have HTc : Hid (∀ i, i < N → w2.cell? ⟨tb, toff + i, none⟩ = some (I (encT (lef l ki D i)))) := Lib.hid htc
       cases hL : lef l ki D S with
       | none =>
         have hcS' : w2.cell? ⟨tb, toff + S, none⟩ = some (I (-1)) := by rw [hcS]; show some (I (encT (lef l ki D S))) = _; rw [hL]; rfl
         clear hcS htc
         have HL := Lib.hid hL; clear hL
         go_wp2_with fail
         go_ret2
         rw [pathL_none HC.out hS hD HL.out]
         exact ⟨_, rfl, ints_nil _, hb2'⟩
       | some d =>
         have hcS' : w2.cell? ⟨tb, toff + S, none⟩ = some (I d) := by rw [hcS]; show some (I (encT (lef l ki D S))) = _; rw [hL]; rfl
         clear hcS htc
         have hdm : ((d : Int) == -1) = false := by simp
         obtain ⟨p, hp, hpl⟩ := path_exists hG ki D d S hL
         have hpn : p.length ≤ 100 := by have := sooner_le (edges ki true l) N D d; omega
         have HL := Lib.hid hL; clear hL
         have HP := Lib.hid hp; clear hp
         go_wp2_with fail
         go_loopg [11, 12] p.length (fun k v c wr => ∃ (at' : Nat) (pre rest : List Nat), c = I at' ∧ at' < N ∧ p = pre ++ rest ∧ rest.length = k ∧ PathR l ki D at' rest ∧ wr.ownsRow w2.heap.size 3 1 v pre.length ((pre.map fun i : Nat => (i : Int)).map I) ∧ Below w2.heap.size w2 wr)
         case atStart => exact ⟨S, [], p, rfl, hS, rfl, rfl, HP.out, World.ownsRow_nil _ _ _ _, Below.refl _ _⟩
         case round =>
          obtain ⟨at', pre, rest, rfl, hat, hpp, hrk, hR, hown, hB2⟩ := hrel
          obtain ⟨wo, hwo⟩ : ∃ wo : World, wo = wr := ⟨_, rfl⟩
          subst hwo
          obtain ⟨va, hva⟩ : ∃ va, u11 = va := ⟨_, rfl⟩
          have HPP := Lib.hid hpp; clear hpp
          have HRK := Lib.hid hrk; clear hrk
          have hprel : pre.length ≤ 100 := by have h := congrArg List.length HPP.out; simp at h; omega
          have hc1 : wo.cell? ⟨w.heap.size, 1, none⟩ = some (.slice a l.length cap) := (hB2.cell (p := ⟨w.heap.size, 1, none⟩) hs2).trans hc21
          cases hR with
          | nil =>
            have hne : ((D : Int) != (D : Int)) = false := by simp
            go_wp2_with fail
            go_ret2
            rw [pathL_some HC.out hS hD HL.out, pathP_eq HP.out]
            refine ⟨_, rfl, ?_, hb2'.trans (hB2.mono (by omega))⟩
            have e : p = pre := by have := HPP.out; simpa using this
            show IntsAt _ _ (p.map fun i : Nat => (i : Int))
            rw [e]
            exact owns_ints (by simpa using ownsRow_low hown)
          | cons hne hok hmin hx hp' =>
            rename_i ix x0 p'
            obtain ⟨x1, hx1, hxf, hxc, u, hu, hat'⟩ := hok
            have ex : x1 = x0 := Option.some.inj (hx1.symm.trans hx)
            subst ex
            have hneB : ((at' : Int) != (D : Int)) = true := by simp; omega
            have hixl : ix < l.length := (List.getElem?_eq_some_iff.1 hx).1
            have Hmin := Lib.hid hmin; clear hmin
            have Hne := Lib.hid hne; clear hne
            have Hx0 := Lib.hid hx; clear hx hx1
            have Hp' := Lib.hid hp'; clear hp'
            have Hxf := Lib.hid hxf; clear hxf
            have Hxc := Lib.hid hxc; clear hxc
            have Hu := Lib.hid hu; clear hu
            have Hat := Lib.hid hat'; clear hat'
            have htw2 : w2.heap.size ≤ wo.heap.size := hB2.size
            have hati : (at' : Int) < (N : Int) := by omega
            go_wp2_with fail
            go_loopw [11, 12, 50] (fun v c c5 wr => ∃ j : Nat, j ≤ ix ∧ v = va ∧ c = I at' ∧ c5 = I j ∧ Below wo.heap.size wo wr ∧ wr.ownsRow w2.heap.size 3 1 va pre.length ((pre.map fun i : Nat => (i : Int)).map I)) (fun _ _ c _ => ix - (intOf c).toNat)
            case atStart => exact ⟨0, by omega, hva, rfl, rfl, Below.refl _ _, hva ▸ hown⟩
            case round =>
             obtain ⟨j, hj, rfl, rfl, rfl, hBr, hoj⟩ := hrel
             have hjl : j < l.length := by omega
             obtain ⟨b, off, x, rfl, hbl, hx, g0, g1, g2, g3⟩ := RoadsAt.get4 (hl.below RRoad.mono (hb2'.trans ((hB2.trans (hBr.mono htw2)).mono hb2'.size))) hjl
             obtain ⟨r1, r2, r3, r4, r5, r6⟩ := hG.road x (List.mem_of_getElem? hx.out)
             obtain ⟨nb, hto⟩ : ∃ nb : Nat, x.to = (nb : Int) := ⟨x.to.toNat, by omega⟩
             obtain ⟨nm, hm⟩ : ∃ nm : Nat, x.mi = (nm : Int) := ⟨x.mi.toNat, by omega⟩
             have hbN : nb < N := by omega
             have hbi : (nb : Int) < (N : Int) := by omega
             have hbw : Below w2.heap.size w2 wr := hB2.trans (hBr.mono htw2)
             have hca := (hbw.cell (p := ⟨tb, toff + at', none⟩) htb).trans (HTc.out at' hat)
             have hcb2 := (hbw.cell (p := ⟨tb, toff + nb, none⟩) htb).trans (HTc.out nb hbN)
             rw [Hat.out] at hca
             simp only [encT] at hca
             have hsw : w.heap.size < wr.heap.size := by have := hBr.size; omega
             have htbw : tb < wr.heap.size := by have := hBr.size; omega
             have hwowr : wo.heap.size ≤ wr.heap.size := hBr.size
             by_cases hjx : j = ix
             · subst hjx
               have exx : x = x1 := Option.some.inj (hx.out.symm.trans Hx0.out)
               subst exx
               have hxf : x.fr = (at' : Int) := Hxf.out
               have hfe : ((at' : Int) == (at' : Int)) = true := by simp
               have hcar : carB x.li ki = true := Hxc.out
               have hun : lef l ki D nb = some u := by have := Hu.out; rw [hto] at this; simpa using this
               rw [hun] at hcb2
               simp only [encT] at hcb2
               have hum : ((u : Int) != -1) = true := by simp
               obtain ⟨z, hz⟩ : ∃ z : Nat, (u : Int) + (nm : Int) = (z : Int) := ⟨u + nm, by omega⟩
               have hzz : z = u + x.mi.toNat := by rw [hm]; simp; omega
               rw [← hzz] at hca
               have Hz := Lib.hid hzz; clear hzz
               have Hun := Lib.hid hun; clear hun
               have hu9 : u ≤ 100000000 := by
                have := dst_bound (hG.posi ki true) (hG.inn ki true) (hG.most ki true) Hun.out
                have := Nat.mul_le_mul_right 1000000 hn
                omega
               have hzz2 : ((z : Int) == (z : Int)) = true := by simp
               go_upto_region 12 with fail
               have hext := ext_cell (wr.alloc (.cells #[I at', I nb, I nm, I x.li] 66))
               refine wp_region_ext_lit (by kernel_rfl) (by kernel_rfl) ?_
               repeat (go_big_quiet_step ((go_at_call 87; refine ext_call (carries_y _ _ _ _ _ _ _ (by assumption)))))
               refine wpQuiet_nil ?_
               intro w5 hb5
               have hb6 : Below wr.heap.size wr w5 := (belowA (Below.refl wr.heap.size wr) (Nat.le_refl _)).trans (hb5.mono (by simp))
               clear hext
               have k1 : w5.cell? ⟨wr.heap.size, 1, none⟩ = some (I nb) := (hb5.cell (p := ⟨wr.heap.size, 1, none⟩) (by simp)).trans (by simp [hto])
               have hs5 : wr.heap.size < w5.heap.size := by have := hb5.size; simp at this; omega
               have hoj5 := ownsRow_up hoj (fun k hk => hb6.block k (by omega))
               go_wp2_with fail
               go_region_law ((refine step_append_lies _ (by rfl) _ _ _ (by rfl) w2.heap.size 3 i0 _ 1 8 Try.underlying22 hi0 hz0 hz1 hz2 rfl (by omega) _ _ _ (by rfl) (ownsRow_up hoj5 (fun k hk => Below.heap_alloc w5 _ k hk)).drew ⟨w5.heap.size, 0, none⟩ 1 1 [I j] (by rfl) (by rfl) (World.news_of_block (cs := #[I j]) (t := 3) (fr := (0, 0)) (heap_alloc_new w5 _)) (by simp [Value.oneCell']) (by omega) (by unfold maxLen; omega) (by omega) (by simp; omega) (w5.heap.size + 1) (by simp) ?_; intro gg cap' w6 hown6 hgrow6 hat6 hlt6; have k6 := (hgrow6.cell_far ⟨wr.heap.size, 1, none⟩ (by simp; omega) (fun e => by have := (hoj.lt _ e.symm).2; exact Nat.lt_irrefl _ this)).trans ((World.cell?_of_block (Below.heap_alloc w5 _ wr.heap.size hs5)).trans k1)))
               all_goals
                go_wp2_with fail
                go_roundg p'.length
                case measure => have := HRK.out; simp at this; omega
                case rel =>
                 refine ⟨nb, pre ++ [j], p', rfl, hbN, by rw [HPP.out]; simp, rfl, ?_, ?_, ?_⟩
                 · have := Hp'.out; rw [hto] at this; simpa using this
                 · rw [List.length_append, List.length_singleton, List.map_append, List.map_append]; exact hown6
                 · exact grow_below (hbw.trans (hb6.mono (by omega))) (by omega) (fun k hk => (hoj.lt k hk).1) hgrow6
             · have hjlt : j < ix := by omega
               have hnok := Lib.hid (Hmin.out j hjlt)
               obtain ⟨z, hz⟩ : ∃ z : Nat, z = u + x1.mi.toNat := ⟨_, rfl⟩
               rw [← hz] at hca
               have Hz := Lib.hid hz; clear hz
               by_cases hxf : x.fr = (at' : Int)
               · have hfe : ((at' : Int) == (at' : Int)) = true := by simp
                 cases hcar : carB x.li ki with
                 | false =>
                   go_upto_region 12 with fail
                   have hext := ext_cell (wr.alloc (.cells #[I at', I nb, I nm, I x.li] 66))
                   refine wp_region_ext_lit (by kernel_rfl) (by kernel_rfl) ?_
                   repeat (go_big_quiet_step ((go_at_call 87; refine ext_call (carries_y _ _ _ _ _ _ _ (by assumption)))))
                   refine wpQuiet_nil ?_
                   intro w5 hb5
                   have hb6 : Below wr.heap.size wr w5 := (belowA (Below.refl wr.heap.size wr) (Nat.le_refl _)).trans (hb5.mono (by simp))
                   clear hext
                   go_wp2_with fail
                   go_roundw
                   case rel =>
                    refine ⟨j + 1, by omega, rfl, rfl, by go_num, hBr.trans (hb6.mono hwowr), ownsRow_up hoj (fun k hk => hb6.block k (by omega))⟩
                   case measure => simp [intOf]; omega
                 | true =>
                   cases hun : lef l ki D nb with
                   | none =>
                     rw [hun] at hcb2
                     simp only [encT] at hcb2
                     clear hun
                     go_upto_region 12 with fail
                     have hext := ext_cell (wr.alloc (.cells #[I at', I nb, I nm, I x.li] 66))
                     refine wp_region_ext_lit (by kernel_rfl) (by kernel_rfl) ?_
                     repeat (go_big_quiet_step ((go_at_call 87; refine ext_call (carries_y _ _ _ _ _ _ _ (by assumption)))))
                     refine wpQuiet_nil ?_
                     intro w5 hb5
                     have hb6 : Below wr.heap.size wr w5 := (belowA (Below.refl wr.heap.size wr) (Nat.le_refl _)).trans (hb5.mono (by simp))
                     clear hext
                     go_wp2_with fail
                     go_roundw
                     case rel =>
                      refine ⟨j + 1, by omega, rfl, rfl, by go_num, hBr.trans (hb6.mono hwowr), ownsRow_up hoj (fun k hk => hb6.block k (by omega))⟩
                     case measure => simp [intOf]; omega
                   | some u' =>
                     have hum : ((u' : Int) != -1) = true := by simp
                     have hu9 : u' ≤ 100000000 := by
                      have := dst_bound (hG.posi ki true) (hG.inn ki true) (hG.most ki true) hun
                      have := Nat.mul_le_mul_right 1000000 hn
                      omega
                     have hne2 : ((u' : Int) + (nm : Int) == (z : Int)) = false := by
                      rw [beq_eq_false_iff_ne]
                      intro e
                      refine hnok.out ⟨x, hx.out, hxf, hcar, u', by rw [hto]; simpa using hun, ?_⟩
                      rw [Hat.out, ← Hz.out]
                      congr 1
                      omega
                     rw [hun] at hcb2
                     simp only [encT] at hcb2
                     clear hun
                     go_upto_region 12 with fail
                     have hext := ext_cell (wr.alloc (.cells #[I at', I nb, I nm, I x.li] 66))
                     refine wp_region_ext_lit (by kernel_rfl) (by kernel_rfl) ?_
                     repeat (go_big_quiet_step ((go_at_call 87; refine ext_call (carries_y _ _ _ _ _ _ _ (by assumption)))))
                     refine wpQuiet_nil ?_
                     intro w5 hb5
                     have hb6 : Below wr.heap.size wr w5 := (belowA (Below.refl wr.heap.size wr) (Nat.le_refl _)).trans (hb5.mono (by simp))
                     clear hext
                     go_wp2_with fail
                     go_roundw
                     case rel =>
                      refine ⟨j + 1, by omega, rfl, rfl, by go_num, hBr.trans (hb6.mono hwowr), ownsRow_up hoj (fun k hk => hb6.block k (by omega))⟩
                     case measure => simp [intOf]; omega
               · have hfe : (x.fr == (at' : Int)) = false := by simpa using hxf
                 clear hxf
                 go_upto_region 12 with fail
                 have hext := ext_cell (wr.alloc (.cells #[I x.fr, I nb, I nm, I x.li] 66))
                 refine wp_region_ext_lit (by kernel_rfl) (by kernel_rfl) ?_
                 repeat (go_big_quiet_step ((go_at_call 87; refine ext_call (carries_y _ _ _ _ _ _ _ (by assumption)))))
                 refine wpQuiet_nil ?_
                 intro w5 hb5
                 have hb6 : Below wr.heap.size wr w5 := (belowA (Below.refl wr.heap.size wr) (Nat.le_refl _)).trans (hb5.mono (by simp))
                 clear hext
                 go_wp2_with fail
                 go_roundw
                 case rel =>
                  refine ⟨j + 1, by omega, rfl, rfl, by go_num, hBr.trans (hb6.mono hwowr), ownsRow_up hoj (fun k hk => hb6.block k (by omega))⟩
                 case measure => simp [intOf]; omega
     · have hin2 : inB b0 0 ((N : Int) - 1) = false := by rw [inB_not]; omega
       have hd1 : (0 : Int) ≤ N := by omega
       go_enter Try.func52, Try.ntmps52
       go_wp2_with (first
        | (go_at_call 22; refine (check_any _ _ l _ (hl.below RRoad.mono ((Below.refl _ _).alloc (Nat.le_refl _) _))).mono ?_; rintro e w1 ⟨rfl, hb1⟩; obtain ⟨hB1, hb1', hs1, hc10, hc11⟩ := box2s hb1)
        | (go_at_call 55; refine (in_any _ _ _ _).mono ?_; rintro e w' ⟨rfl, rfl⟩))
       go_ret2
       rw [pathL_bad (fun h => hd h.2.2)]
       exact ⟨_, rfl, ints_nil _, hb1'⟩
   · have hin : inB a0 0 ((N : Int) - 1) = false := by rw [inB_not]; omega
     go_enter Try.func52, Try.ntmps52
     go_wp2_with (first
      | (go_at_call 22; refine (check_any _ _ l _ (hl.below RRoad.mono ((Below.refl _ _).alloc (Nat.le_refl _) _))).mono ?_; rintro e w1 ⟨rfl, hb1⟩; obtain ⟨hB1, hb1', hs1, hc10, hc11⟩ := box2s hb1)
      | (go_at_call 55; refine (in_any _ _ _ _).mono ?_; rintro e w' ⟨rfl, rfl⟩))
     go_ret2
     rw [pathL_bad (fun h => hs h.2.1)]
     exact ⟨_, rfl, ints_nil _, hb1'⟩
 · have hcb : (chkNet n l != 0) = true := by simpa using hc
   have HC := Lib.hid hc; clear hc
   go_enter Try.func52, Try.ntmps52
   go_wp2_with (first
    | (go_at_call 22; refine (check_any _ _ l _ (hl.below RRoad.mono ((Below.refl _ _).alloc (Nat.le_refl _) _))).mono ?_; rintro e w1 ⟨rfl, hb1⟩; obtain ⟨hB1, hb1', hs1, hc10, hc11⟩ := box2s hb1))
   go_ret2
   rw [pathL_bad (fun h => HC.out h.1)]
   exact ⟨_, rfl, ints_nil _, hb1'⟩
theorem lit_below {w w' : World} {o : Obj} (h : Below (w.alloc o).heap.size (w.alloc o) w') : Below w.heap.size w w' := (belowA (Below.refl _ _) (Nat.le_refl _)).trans (h.mono (by simp))
theorem lit_mono (w : World) (o : Obj) : Below w.heap.size w (w.alloc o) := belowA (Below.refl _ _) (Nat.le_refl _)
theorem same_yes (va vb : Value) (a : List Int) (w : World) (ha : IntsAt w va a) (hb : IntsAt w vb a) :
    Calls Try.prog 53 #[va, vb] w fun e w' => e = .returned (.bool true) ∧ Below w.heap.size w w' :=
 (same_any va vb a a w ha hb).mono fun _ _ ⟨he, h⟩ => ⟨by rw [he]; simp, h⟩
theorem proves_is (n s ki : Int) (v vt : Value) (l : List Rd) (ts : List Int) (w : World) (hl : RoadsAt w v l) (ht : IntsAt w vt ts) {r : Bool} (h : provesL n l s ki ts = r) :
    Calls Try.prog 54 #[.agg #[I n, v], I s, I ki, vt] w fun e w' => e = .returned (.bool r) ∧ Below w.heap.size w w' := by
 subst h
 exact proves_any n s ki v vt l ts w hl ht
theorem check_is (n : Int) (v : Value) (l : List Rd) (w : World) (hl : RoadsAt w v l) {r : Int} (h : chkNet n l = r) :
    Calls Try.prog 22 #[.agg #[I n, v]] w fun e w' => e = .returned (I r) ∧ Below w.heap.size w w' := by
 subst h
 exact check_any n v l w hl
theorem exL_chk4 : chkNet 4 exL = 0 := by decide
theorem roads_nil (w : World) : RoadsAt w (.slice none 0 0) [] := ⟨none, 0, rfl, Nat.le_refl _, by unfold maxLen; omega, .inl rfl⟩
set_option maxRecDepth 100000 in
set_option maxHeartbeats 40000000 in
theorem small_any (w : World) : Calls Try.prog 21 #[] w fun e w' => e = .returned (.bool true) ∧ Below w.heap.size w w' := by
 go_enter Try.func21, Try.ntmps21
 go_upto_region 2 with (go_at_call 51; refine (example_any _).mono ?_; rintro e w1 ⟨rfl, rfl⟩)
 have HB := box_at w
 obtain ⟨wa, hwa⟩ : ∃ wa, wa = (((w.alloc (.cells #[I 4, .slice (some ⟨w.heap.size + 1, 0, none⟩) 4 4] 55)).alloc (.cells exCells 66)).alloc (.cells #[I 4, .slice (some ⟨w.heap.size + 1, 0, none⟩) 4 4] 55)) := ⟨_, rfl⟩
 rw [← hwa] at HB ⊢
 clear hwa
 obtain ⟨bb, hbb⟩ : ∃ bb, bb = w.heap.size + 1 + 1 := ⟨_, rfl⟩
 rw [← hbb] at HB ⊢
 clear hbb
 obtain ⟨vb, hvb⟩ : ∃ vb : Addr, vb = ⟨w.heap.size + 1, 0, none⟩ := ⟨_, rfl⟩
 rw [← hvb] at HB ⊢
 clear hvb
 obtain ⟨c0, c1⟩ := And.intro HB.c0 HB.c1
 go_upto_region 3 with (go_at_call 24; refine (times_any 4 0 10000 _ exL _ HB.roads).mono ?_; rintro e w2 ⟨v2, rfl, i2, b2⟩)
 rw [ex1] at i2
 replace HB := HB.mono b2
 clear c0 c1 b2
 obtain ⟨c0, c1⟩ := And.intro HB.c0 HB.c1
 go_upto_region 4 with (go_at_call 24; refine (times_any 4 0 10001 _ exL _ HB.roads).mono ?_; rintro e w3 ⟨v3, rfl, i3, b3⟩)
 rw [ex2] at i3
 have i2 := i2.below RInt.mono b3
 replace HB := HB.mono b3
 clear c0 c1 b3
 obtain ⟨c0, c1⟩ := And.intro HB.c0 HB.c1
 go_upto_region 5 with (go_at_call 52; refine (path_any 4 0 2 10000 _ exL _ HB.roads).mono ?_; rw [ex3]; rintro e w4 ⟨v4, rfl, i4, b4⟩)
 simp only [Option.getD_some] at i4
 have i2 := i2.below RInt.mono b4
 have i3 := i3.below RInt.mono b4
 replace HB := HB.mono b4
 clear c0 c1 b4
 obtain ⟨c0, c1⟩ := And.intro HB.c0 HB.c1
 go_upto_region 6 with (go_at_call 52; refine (path_any 4 0 2 10001 _ exL _ HB.roads).mono ?_; rw [ex4]; rintro e w5 ⟨v5, rfl, i5, b5⟩)
 simp only [Option.getD_some] at i5
 have i2 := i2.below RInt.mono b5
 have i3 := i3.below RInt.mono b5
 have i4 := i4.below RInt.mono b5
 replace HB := HB.mono b5
 clear c0 c1 b5
 obtain ⟨c0, c1⟩ := And.intro HB.c0 HB.c1
 go_upto_region 7 with (go_at_call 52; refine (path_any 4 1 0 10000 _ exL _ HB.roads).mono ?_; rw [ex5]; rintro e w6 ⟨v6, rfl, i6, b6⟩)
 simp only [Option.getD_some] at i6
 have i2 := i2.below RInt.mono b6
 have i3 := i3.below RInt.mono b6
 have i4 := i4.below RInt.mono b6
 have i5 := i5.below RInt.mono b6
 replace HB := HB.mono b6
 clear c0 c1 b6
 obtain ⟨c0, c1⟩ := And.intro HB.c0 HB.c1
 go_upto_region 8 with (go_at_call 52; refine (path_any 4 1 0 10001 _ exL _ HB.roads).mono ?_; rw [ex6]; rintro e w7 ⟨v7, rfl, i7, b7⟩)
 have i2 := i2.below RInt.mono b7
 have i3 := i3.below RInt.mono b7
 have i4 := i4.below RInt.mono b7
 have i5 := i5.below RInt.mono b7
 have i6 := i6.below RInt.mono b7
 replace HB := HB.mono b7
 clear c0 c1 b7
 have c0 := HB.c0
 have c1 := HB.c1
 go_upto_region 10 with (go_at_call 53; fail)
 go_at_call 53
 refine Calls.mono (same_yes _ _ [0, 5, 10, -1] _ (i2.below RInt.mono (lit_mono _ _)) (ints_new [0, 5, 10, -1] (by unfold maxLen; omega) (by rfl) (by rfl))) ?_
 rintro e w8 ⟨rfl, b8⟩
 replace b8 := lit_below b8
 have i2 := i2.below RInt.mono b8
 have i3 := i3.below RInt.mono b8
 have i4 := i4.below RInt.mono b8
 have i5 := i5.below RInt.mono b8
 have i6 := i6.below RInt.mono b8
 replace HB := HB.mono b8
 clear c0 c1 b8
 have c0 := HB.c0
 have c1 := HB.c1
 go_upto_region 10 with (go_at_call 53; fail)
 go_at_call 53
 refine Calls.mono (same_yes _ _ [0, 5, 20, -1] _ (i3.below RInt.mono (lit_mono _ _)) (ints_new [0, 5, 20, -1] (by unfold maxLen; omega) (by rfl) (by rfl))) ?_
 rintro e w9 ⟨rfl, b9⟩
 replace b9 := lit_below b9
 have i2 := i2.below RInt.mono b9
 have i3 := i3.below RInt.mono b9
 have i4 := i4.below RInt.mono b9
 have i5 := i5.below RInt.mono b9
 have i6 := i6.below RInt.mono b9
 replace HB := HB.mono b9
 clear c0 c1 b9
 have c0 := HB.c0
 have c1 := HB.c1
 go_upto_region 11 with (go_at_call 54; fail)
 go_at_call 54
 refine Calls.mono (proves_is 4 0 10000 _ _ exL [0, 5, 10, -1] _ HB.roads i2 ex7) ?_
 rintro e w10 ⟨rfl, b10⟩
 have i2 := i2.below RInt.mono b10
 have i3 := i3.below RInt.mono b10
 have i4 := i4.below RInt.mono b10
 have i5 := i5.below RInt.mono b10
 have i6 := i6.below RInt.mono b10
 replace HB := HB.mono b10
 clear c0 c1 b10
 have c0 := HB.c0
 have c1 := HB.c1
 go_upto_region 11 with (go_at_call 54; fail)
 go_at_call 54
 refine Calls.mono (proves_is 4 0 10000 _ _ exL [0, 5, 9, -1] _ (HB.roads.below RRoad.mono (lit_mono _ _)) (ints_new [0, 5, 9, -1] (by unfold maxLen; omega) (by rfl) (by rfl)) ex8) ?_
 rintro e w11 ⟨rfl, b11⟩
 replace b11 := lit_below b11
 have i2 := i2.below RInt.mono b11
 have i3 := i3.below RInt.mono b11
 have i4 := i4.below RInt.mono b11
 have i5 := i5.below RInt.mono b11
 have i6 := i6.below RInt.mono b11
 replace HB := HB.mono b11
 clear c0 c1 b11
 have c0 := HB.c0
 have c1 := HB.c1
 go_upto_region 11 with (go_at_call 54; fail)
 go_at_call 54
 refine Calls.mono (proves_is 4 0 10000 _ _ exL [0, 5, 10, 30] _ (HB.roads.below RRoad.mono (lit_mono _ _)) (ints_new [0, 5, 10, 30] (by unfold maxLen; omega) (by rfl) (by rfl)) ex9) ?_
 rintro e w12 ⟨rfl, b12⟩
 replace b12 := lit_below b12
 have i2 := i2.below RInt.mono b12
 have i3 := i3.below RInt.mono b12
 have i4 := i4.below RInt.mono b12
 have i5 := i5.below RInt.mono b12
 have i6 := i6.below RInt.mono b12
 replace HB := HB.mono b12
 clear c0 c1 b12
 have c0 := HB.c0
 have c1 := HB.c1
 go_wp2_with (go_at_call 53; fail)
 go_at_call 53
 refine Calls.mono (same_yes _ _ [0, 1] _ (i4.below RInt.mono (lit_mono _ _)) (ints_new [0, 1] (by unfold maxLen; omega) (by rfl) (by rfl))) ?_
 rintro e w13 ⟨rfl, b13⟩
 replace b13 := lit_below b13
 have i2 := i2.below RInt.mono b13
 have i3 := i3.below RInt.mono b13
 have i4 := i4.below RInt.mono b13
 have i5 := i5.below RInt.mono b13
 have i6 := i6.below RInt.mono b13
 replace HB := HB.mono b13
 clear c0 c1 b13
 have c0 := HB.c0
 have c1 := HB.c1
 go_wp2_with (go_at_call 53; fail)
 go_at_call 53
 refine Calls.mono (same_yes _ _ [2] _ (i5.below RInt.mono (lit_mono _ _)) (ints_new [2] (by unfold maxLen; omega) (by rfl) (by rfl))) ?_
 rintro e w14 ⟨rfl, b14⟩
 replace b14 := lit_below b14
 have i2 := i2.below RInt.mono b14
 have i3 := i3.below RInt.mono b14
 have i4 := i4.below RInt.mono b14
 have i5 := i5.below RInt.mono b14
 have i6 := i6.below RInt.mono b14
 replace HB := HB.mono b14
 clear c0 c1 b14
 have c0 := HB.c0
 have c1 := HB.c1
 go_wp2_with (go_at_call 53; fail)
 go_at_call 53
 refine Calls.mono (same_yes _ _ [1, 3] _ (i6.below RInt.mono (lit_mono _ _)) (ints_new [1, 3] (by unfold maxLen; omega) (by rfl) (by rfl))) ?_
 rintro e w15 ⟨rfl, b15⟩
 replace b15 := lit_below b15
 have i2 := i2.below RInt.mono b15
 have i3 := i3.below RInt.mono b15
 have i4 := i4.below RInt.mono b15
 have i5 := i5.below RInt.mono b15
 have i6 := i6.below RInt.mono b15
 replace HB := HB.mono b15
 clear c0 c1 b15
 have c0 := HB.c0
 have c1 := HB.c1
 go_wp2_with (go_at_call 22; fail)
 go_at_call 22
 refine Calls.mono (check_is 4 _ exL _ HB.roads (r := 0) exL_chk4) ?_
 rintro e w16 ⟨rfl, b16⟩
 have i2 := i2.below RInt.mono b16
 have i3 := i3.below RInt.mono b16
 have i4 := i4.below RInt.mono b16
 have i5 := i5.below RInt.mono b16
 have i6 := i6.below RInt.mono b16
 replace HB := HB.mono b16
 clear c0 c1 b16
 have c0 := HB.c0
 have c1 := HB.c1
 go_wp2_with (go_at_call 22; fail)
 go_at_call 22
 refine Calls.mono (check_is 101 _ [] _ (roads_nil _) (r := 1) ex10) ?_
 rintro e w17 ⟨rfl, b17⟩
 have i2 := i2.below RInt.mono b17
 have i3 := i3.below RInt.mono b17
 have i4 := i4.below RInt.mono b17
 have i5 := i5.below RInt.mono b17
 have i6 := i6.below RInt.mono b17
 replace HB := HB.mono b17
 clear c0 c1 b17
 go_wp2_with fail
 go_ret
 exact ⟨rfl, HB.below⟩
end Go.Proofs.Ytbnbpfjfkedbaaa.Rn
