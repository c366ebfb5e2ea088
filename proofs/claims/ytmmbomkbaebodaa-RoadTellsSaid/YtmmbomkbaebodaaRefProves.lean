/-
  The reference's Proves: the walk.
-/
import Derived.Test.YtmmbomkbaebodaaReached
namespace Go.Proofs.Ytmmbomkbaebodaa
set_option linter.unusedVariables false
set_option linter.unusedSimpArgs false
open Go.RowKit

attribute [local go_sem] relOp relAt relUpon

theorem take_all_ok {ts : List Int} {j : Nat} {x : Int} (h : ∀ y ∈ ts.take j, okT y) (hx : ts[j]? = some x) (hok : okT x) : ∀ y ∈ ts.take (j + 1), okT y := by
  intro y hy
  rw [take_snoc' hx] at hy
  rcases List.mem_append.1 hy with hy | hy
  · exact h y hy
  · obtain rfl := List.mem_singleton.1 hy; exact hok
theorem reach_yes {W : World} {R : Prop} (hr : R) (e : Ending) (w' : World) (h : RetIff W R e w') : e = .returned (.bool true) ∧ Below W.heap.size W w' := by
  obtain ⟨b, h1, h2, h3⟩ := h
  rw [h2.2 hr] at h1
  exact ⟨h1, h3⟩
theorem reach_no {W : World} {R : Prop} (hr : ¬ R) (e : Ending) (w' : World) (h : RetIff W R e w') : e = .returned (.bool false) ∧ Below W.heap.size W w' := by
  obtain ⟨b, h1, h2, h3⟩ := h
  have hb : b = false := by
    cases b with
    | false => rfl
    | true => exact absurd (h2.1 rfl) hr
  rw [hb] at h1
  exact ⟨h1, h3⟩
theorem fnd_hit {E : List Ed} {s v : Nat} {T : Nat → Option Nat} (h : Fnd E s T v) : v = s ∨ Hit E T v := by
  rcases h with ⟨h, _⟩ | ⟨e, he, hb, _, u, h1, h2⟩
  · exact .inl h
  · exact .inr ⟨e, he, hb, u, h1, h2⟩
theorem hit_last {E : List Ed} {s v t : Nat} {T : Nat → Option Nat} (h : v = s ∨ Hit E T v) (ht : T v = some t) : v = s ∨ ∃ e ∈ E, e.b = v ∧ ∃ u, T e.a = some u ∧ t = u + e.m := by
  rcases h with h | ⟨e, he, hb, u, h1, h2⟩
  · exact .inl h
  · exact .inr ⟨e, he, hb, u, h1, Option.some.inj (ht.symm.trans h2)⟩
theorem einv_nil (T : Nat → Option Nat) : EInv [] T := fun e he => by cases he

set_option maxRecDepth 100000 in
set_option maxHeartbeats 40000000 in
theorem rproves_any (n s ki : Int) (v vt : Value) (l : List Rd) (ts : List Int) (w : World) (hl : RoadsAt w v l) (ht : IntsAt w vt ts) :
    Calls Try.prog 19 #[.agg #[I n, v], I s, I ki, vt] w fun e w' => e = .returned (B (provesL n l s ki ts)) ∧ Below w.heap.size w w' := by
  obtain ⟨a, cap, rfl, hlc, hcap⟩ := hl.shape
  obtain ⟨at2, ct, rfl, htc, htm⟩ := ht.shape
  unfold maxLen at hcap htm
  by_cases hc : chkNet n l = 0
  · have hcb : (chkNet n l != 0) = false := by simp [hc]
    obtain ⟨h0, h1, h2, h3⟩ := chkNet_zero hc
    have HC := Lib.hid hc; clear hc h3
    by_cases hs : 0 ≤ s ∧ s < n
    · have hin : inB s 0 (n - 1) = true := by rw [inB_iff]; omega
      by_cases hlen : (ts.length : Int) = n
      · obtain ⟨S, rfl⟩ : ∃ S : Nat, s = (S : Int) := ⟨s.toNat, by omega⟩
        subst hlen
        have hS : S < ts.length := by omega
        have hG := good_of HC.out
        have hSi : (S : Int) < (ts.length : Int) := by omega
        obtain ⟨b0, o0, rfl, hb0, hrow⟩ := IntsAt.row ht (by omega)
        have HROW := Lib.hid hrow; clear hrow
        go_enter Try.func19, Try.ntmps19
        go_upto_region 3 with (first
          | (go_at_call 14; refine (Check_any _ _ l _ (hl.below RRoad.mono ((Below.refl _ _).alloc (Nat.le_refl _) _))).mono ?_; rintro e w1 ⟨rfl, hb1⟩; obtain ⟨hB1, hb1', hs1, hc10, hc11⟩ := box2s hb1)
          | (go_at_call 25; refine (node_any _ _ _ _ _ _).mono ?_; rintro e w' ⟨rfl, rfl⟩))
        obtain ⟨wA, hwA⟩ : ∃ wA : World, wA = w1.alloc (.cells #[I (ts.length : Int), .slice a l.length cap] 24) := ⟨_, rfl⟩
        have hbA1 : Below w1.heap.size w1 wA := by rw [hwA]; exact belowA (Below.refl _ _) (Nat.le_refl _)
        rw [← hwA]
        clear hwA
        have hcA0 := (hbA1.cell (p := ⟨w.heap.size, 0, none⟩) hs1).trans hc10
        have hcA1 := (hbA1.cell (p := ⟨w.heap.size, 1, none⟩) hs1).trans hc11
        have hbA := hb1'.trans (hbA1.mono hb1'.size)
        have hsA : w.heap.size < wA.heap.size := by have := hbA1.size; omega
        clear hb1 hB1 hb1' hc10 hc11 hbA1 hs1
        go_wp2_with fail
        go_loopw [9] (fun i wr => ∃ j : Nat, j ≤ ts.length ∧ i = I j ∧ (∀ y ∈ ts.take j, okT y) ∧ wA = wr) (fun i _ => ts.length - (intOf i).toNat)
        case atStart => exact ⟨0, by omega, rfl, by simp, rfl⟩
        case round =>
          obtain ⟨j, hj, rfl, hok, rfl⟩ := hrel
          have HOK := Lib.hid hok; clear hok
          by_cases hlt : j < ts.length
          · obtain ⟨x, hx⟩ : ∃ x, ts[j]? = some x := ⟨_, List.getElem?_eq_getElem hlt⟩
            have fx := (hbA.cell (p := ⟨b0, o0 + j, none⟩) hb0).trans (HROW.out j x hx)
            have hji : (j : Int) < (ts.length : Int) := by omega
            have hm := List.mem_of_getElem? hx
            have HX := Lib.hid hx; clear hx
            have HM := Lib.hid hm; clear hm
            by_cases e1 : x = -1
            · have e1b : (x != (-1 : Int)) = false := by simp [e1]
              have E1 := Lib.hid e1; clear e1
              go_wp2_with fail
              go_roundw
              case rel => exact ⟨j + 1, by omega, by go_num, take_all_ok HOK.out HX.out (.inl E1.out), trivial⟩
              case measure => first | (simp [intOf]; done) | (simp [intOf]; omega)
            · have e1b : (x != (-1 : Int)) = true := by simpa using e1
              by_cases e2 : 0 ≤ x ∧ x ≤ 100000000
              · obtain ⟨e3, e4⟩ := e2
                clear e1
                go_wp2_with fail
                go_roundw
                case rel => exact ⟨j + 1, by omega, by go_num, take_all_ok HOK.out HX.out (.inr ⟨e3, e4⟩), trivial⟩
                case measure => first | (simp [intOf]; done) | (simp [intOf]; omega)
              · have hne : ts ≠ dlist (edges ki false l) ts.length S := fun h => by
                  have hd := dlist_ok (s := S) (hG.posi ki false) (hG.inn ki false) (hG.most ki false) hG.nodes x (by rw [← h]; exact HM.out)
                  rcases hd with hd | hd
                  · exact e1 hd
                  · exact e2 hd
                have HNE := Lib.hid hne; clear hne
                have hcase : x < 0 ∨ (¬ x < 0 ∧ 100000000 < x) := by omega
                clear e1 e2
                rcases hcase with c1 | ⟨c1, c2⟩
                all_goals
                  go_wp2_with fail
                  go_ret
                  exact ⟨retB (proves_no HC.out hS HNE.out), hbA⟩
          · have e : j = ts.length := by omega
            subst e
            obtain ⟨T, hT, hTb⟩ := tl_of (fun y hy => HOK.out y (by rw [List.take_length]; exact hy))
            have HT := Lib.hid hT; clear hT
            have HTB := Lib.hid hTb; clear hTb
            have FT : Hid (∀ v, v < ts.length → w.cell? ⟨b0, o0 + v, none⟩ = some (I (encT (T v)))) := Lib.hid (fun v hv => HROW.out v _ ((congrArg (fun y : List Int => y[v]?) HT.out).trans (tl_get hv)))
            have htT : IntsAt w (.slice (some ⟨b0, o0, none⟩) ts.length ct) (tl ts.length T) := by rw [← HT.out]; exact ht
            have hk600 := hG.len
            go_wp2_with fail
            go_loopw [10] (fun i wr => ∃ j : Nat, j ≤ l.length ∧ i = I j ∧ EInv (edges ki false (l.take j)) T ∧ Below wA.heap.size wA wr) (fun i _ => l.length - (intOf i).toNat)
            case atStart => exact ⟨0, by omega, rfl, by rw [List.take_zero, edges_nil]; exact einv_nil T, Below.refl _ _⟩
            case round =>
              obtain ⟨j, hj, rfl, hE, hB⟩ := hrel
              have HE := Lib.hid hE; clear hE
              have hbr := hbA.trans (hB.mono hbA.size)
              have hc0 := (hB.cell (p := ⟨w.heap.size, 0, none⟩) hsA).trans hcA0
              have hc1 := (hB.cell (p := ⟨w.heap.size, 1, none⟩) hsA).trans hcA1
              have hsr : w.heap.size < wr.heap.size := by have := hB.size; omega
              have hb0r : b0 < wr.heap.size := by omega
              by_cases hlt2 : j < l.length
              · obtain ⟨b, off, x, rfl, hbl, hx, g0, g1, g2, g3⟩ := RoadsAt.get4 (hl.below RRoad.mono hbr) hlt2
                obtain ⟨r1, r2, r3, r4, r5, r6⟩ := hG.road x (List.mem_of_getElem? hx.out)
                obtain ⟨na, ha⟩ : ∃ na : Nat, x.fr = (na : Int) := ⟨x.fr.toNat, by omega⟩
                obtain ⟨nb, hto⟩ : ∃ nb : Nat, x.to = (nb : Int) := ⟨x.to.toNat, by omega⟩
                obtain ⟨nm, hm⟩ : ∃ nm : Nat, x.mi = (nm : Int) := ⟨x.mi.toNat, by omega⟩
                have haN : na < ts.length := by omega
                have hbN : nb < ts.length := by omega
                have hai : (na : Int) < (ts.length : Int) := by omega
                have hbi : (nb : Int) < (ts.length : Int) := by omega
                have hnm : (nm : Int) ≤ 1000000 := by omega
                have hji : (j : Int) < (l.length : Int) := by omega
                have fa := (hbr.cell (p := ⟨b0, o0 + na, none⟩) hb0).trans (FT.out na haN)
                have fb := (hbr.cell (p := ⟨b0, o0 + nb, none⟩) hb0).trans (FT.out nb hbN)
                rw [ha] at g0
                rw [hto] at g1
                rw [hm] at g2
                have HA := Lib.hid ha; clear ha
                have HTO := Lib.hid hto; clear hto
                have HM := Lib.hid hm; clear hm
                cases hcar : carB x.li ki with
                | false =>
                  have HNO : Hid (edgeOf ki false x = []) := Lib.hid (edgeOf_no hcar)
                  go_upto_region 12 with fail
                  refine wp_region_rel (by kernel_rfl) (by kernel_rfl) (by kernel_rfl) ?_
                  repeat
                    (with_reducible apply rel_is
                     · intro wx hx
                       have hc := (bcell hx).2.1
                       try simp only [List.nil_append, List.cons_append]
                       repeat (with_reducible refine reads_is ?_)
                       with_reducible refine reads_nil ?_
                       go_simp
                       first
                           | exact ⟨Grows.refl _, rfl⟩
                           | exact rfl
                           | (go_at_call 26; exact Carries_y _ _ _ _ _ _ _ hcar))
                  with_reducible refine rel_end ?_
                  intro w5 hg5
                  simp only [List.nil_append, List.cons_append]
                  repeat (with_reducible refine final_is ?_)
                  with_reducible refine final_nil ?_
                  go_simp
                  go_wp2_with fail
                  go_roundw
                  case rel =>
                    refine ⟨j + 1, by omega, by go_num, ?_, (hB.alloc hB.size (.cells #[I na, I nb, I nm, I x.li] 38)).trans (Below.mono hg5 (by have := hB.size; simp; omega))⟩
                    rw [take_snoc' hx.out, edges_snoc]
                    rw [HNO.out, List.append_nil]; exact HE.out
                  case measure => first | (simp [intOf]; done) | (simp [intOf]; omega)
                | true =>
                  have hey : edgeOf ki false x = [⟨na, nb, nm⟩] := by rw [edgeOf_yes hcar]; simp [HA.out, HTO.out, HM.out]
                  have hee := edges_hit (List.mem_of_getElem? hx.out) hey
                  have HEY := Lib.hid hey; clear hey
                  have HEE := Lib.hid hee; clear hee
                  cases hTa : T na with
                  | none =>
                    rw [hTa] at fa
                    simp only [encT] at fa
                    have HTa := Lib.hid hTa; clear hTa
                    go_upto_region 12 with fail
                    refine wp_region_rel (by kernel_rfl) (by kernel_rfl) (by kernel_rfl) ?_
                    repeat
                      (with_reducible apply rel_is
                       · intro wx hx
                         have hc := (bcell hx).2.1
                         try simp only [List.nil_append, List.cons_append]
                         repeat (with_reducible refine reads_is ?_)
                         with_reducible refine reads_nil ?_
                         go_simp
                         first
                             | exact ⟨Grows.refl _, rfl⟩
                             | exact rfl
                             | (go_at_call 26; exact Carries_y _ _ _ _ _ _ _ hcar))
                    with_reducible refine rel_end ?_
                    intro w5 hg5
                    simp only [List.nil_append, List.cons_append]
                    repeat (with_reducible refine final_is ?_)
                    with_reducible refine final_nil ?_
                    go_simp
                    go_wp2_with fail
                    go_roundw
                    case rel =>
                      refine ⟨j + 1, by omega, by go_num, ?_, (hB.alloc hB.size (.cells #[I na, I nb, I nm, I x.li] 38)).trans (Below.mono hg5 (by have := hB.size; simp; omega))⟩
                      rw [take_snoc' hx.out, edges_snoc]
                      rw [HEY.out]; exact einv_add HE.out (fun u hu => absurd (HTa.out.symm.trans hu) (by simp))
                    case measure => first | (simp [intOf]; done) | (simp [intOf]; omega)
                  | some da =>
                    rw [hTa] at fa
                    simp only [encT] at fa
                    have hda := HTB.out na da hTa
                    have hge : decide ((0 : Int) ≤ (da : Int)) = true := by simp
                    have hwr : IntKind.i64.wrap ((da : Int) + (nm : Int)) = (da : Int) + (nm : Int) := IntWalk.i64_in _ (by omega)
                    cases hTb : T nb with
                    | none =>
                      rw [hTb] at fb
                      simp only [encT] at fb
                      have hne : ts ≠ dlist (edges ki false l) ts.length S := fun h => not_edge (s := S) (hG.inn ki false) HEE.out hTa (fun t ht => by rw [hTb] at ht; cases ht) (HT.out.symm.trans h)
                      have HNE := Lib.hid hne; clear hne
                      clear hTa hTb
                      go_upto_region 12 with fail
                      refine wp_region_rel (by kernel_rfl) (by kernel_rfl) (by kernel_rfl) ?_
                      repeat
                        (with_reducible apply rel_is
                         · intro wx hx
                           have hc := (bcell hx).2.1
                           try simp only [List.nil_append, List.cons_append]
                           repeat (with_reducible refine reads_is ?_)
                           with_reducible refine reads_nil ?_
                           go_simp
                           first
                               | exact ⟨Grows.refl _, rfl⟩
                               | exact rfl
                               | (go_at_call 26; exact Carries_y _ _ _ _ _ _ _ hcar))
                      with_reducible refine rel_end ?_
                      intro w5 hg5
                      simp only [List.nil_append, List.cons_append]
                      repeat (with_reducible refine final_is ?_)
                      with_reducible refine final_nil ?_
                      go_simp
                      go_wp2_with fail
                      go_ret
                      exact ⟨retB (proves_no HC.out hS HNE.out), hbr.trans ((belowA (Below.refl _ _) (Nat.le_refl _)).trans (Below.mono hg5 (by simp)) |>.mono hbr.size)⟩
                    | some db =>
                      rw [hTb] at fb
                      simp only [encT] at fb
                      have hge2 : decide ((db : Int) < 0) = false := by simp
                      by_cases hsum : da + nm < db
                      · have hs1 : decide (da + nm < db) = true := by simpa using hsum
                        have hs2 : decide ((da : Int) + (nm : Int) < (db : Int)) = true := by simp; omega
                        have hne : ts ≠ dlist (edges ki false l) ts.length S := fun h => not_edge (s := S) (hG.inn ki false) HEE.out hTa (fun t ht => by rw [hTb] at ht; cases ht; exact hsum) (HT.out.symm.trans h)
                        have HNE := Lib.hid hne; clear hne
                        clear hTa hTb hsum
                        go_upto_region 12 with fail
                        refine wp_region_rel (by kernel_rfl) (by kernel_rfl) (by kernel_rfl) ?_
                        repeat
                          (with_reducible apply rel_is
                           · intro wx hx
                             have hc := (bcell hx).2.1
                             try simp only [List.nil_append, List.cons_append]
                             repeat (with_reducible refine reads_is ?_)
                             with_reducible refine reads_nil ?_
                             go_simp
                             first
                                 | exact ⟨Grows.refl _, rfl⟩
                                 | exact rfl
                                 | (go_at_call 26; exact Carries_y _ _ _ _ _ _ _ hcar))
                        with_reducible refine rel_end ?_
                        intro w5 hg5
                        simp only [List.nil_append, List.cons_append]
                        repeat (with_reducible refine final_is ?_)
                        with_reducible refine final_nil ?_
                        go_simp
                        go_wp2_with fail
                        go_ret
                        exact ⟨retB (proves_no HC.out hS HNE.out), hbr.trans ((belowA (Below.refl _ _) (Nat.le_refl _)).trans (Below.mono hg5 (by simp)) |>.mono hbr.size)⟩
                      · have hs1 : decide (da + nm < db) = false := by simpa using hsum
                        have hs2 : decide ((da : Int) + (nm : Int) < (db : Int)) = false := by simp; omega
                        have HS := Lib.hid hsum; clear hsum
                        have HTa := Lib.hid hTa; clear hTa
                        have HTb := Lib.hid hTb; clear hTb
                        go_upto_region 12 with fail
                        refine wp_region_rel (by kernel_rfl) (by kernel_rfl) (by kernel_rfl) ?_
                        repeat
                          (with_reducible apply rel_is
                           · intro wx hx
                             have hc := (bcell hx).2.1
                             try simp only [List.nil_append, List.cons_append]
                             repeat (with_reducible refine reads_is ?_)
                             with_reducible refine reads_nil ?_
                             go_simp
                             first
                                 | exact ⟨Grows.refl _, rfl⟩
                                 | exact rfl
                                 | (go_at_call 26; exact Carries_y _ _ _ _ _ _ _ hcar))
                        with_reducible refine rel_end ?_
                        intro w5 hg5
                        simp only [List.nil_append, List.cons_append]
                        repeat (with_reducible refine final_is ?_)
                        with_reducible refine final_nil ?_
                        go_simp
                        go_wp2_with fail
                        go_roundw
                        case rel =>
                          refine ⟨j + 1, by omega, by go_num, ?_, (hB.alloc hB.size (.cells #[I na, I nb, I nm, I x.li] 38)).trans (Below.mono hg5 (by have := hB.size; simp; omega))⟩
                          rw [take_snoc' hx.out, edges_snoc]
                          rw [HEY.out]; exact einv_add HE.out (fun u hu => ⟨db, HTb.out, by have e1 := Option.some.inj (HTa.out.symm.trans hu); have := HS.out; simp only; omega⟩)
                        case measure => first | (simp [intOf]; done) | (simp [intOf]; omega)
              · have e : j = l.length := by omega
                subst e
                have hEI := HE.out
                rw [List.take_length] at hEI
                have HEI := Lib.hid hEI; clear hEI
                go_wp2_with fail
                go_loopw [12] (fun i wz => ∃ j : Nat, j ≤ ts.length ∧ i = I j ∧ (∀ v, v < j → ∀ t, T v = some t → v = S ∨ Hit (edges ki false l) T v) ∧ Below wA.heap.size wA wz) (fun i _ => ts.length - (intOf i).toNat)
                case atStart => exact ⟨0, by omega, rfl, fun v hv => absurd hv (by omega), hB⟩
                case round =>
                  obtain ⟨j, hj, rfl, hF, hB3⟩ := hrel
                  have HF := Lib.hid hF; clear hF
                  have hbz := hbA.trans (hB3.mono hbA.size)
                  have hc30 := (hB3.cell (p := ⟨w.heap.size, 0, none⟩) hsA).trans hcA0
                  have hc31 := (hB3.cell (p := ⟨w.heap.size, 1, none⟩) hsA).trans hcA1
                  have hsz : w.heap.size < wr.heap.size := by have := hB3.size; omega
                  by_cases hlt3 : j < ts.length
                  · have fj := (hbz.cell (p := ⟨b0, o0 + j, none⟩) hb0).trans (FT.out j hlt3)
                    have hji : (j : Int) < (ts.length : Int) := by omega
                    cases hTj : T j with
                    | none =>
                      rw [hTj] at fj
                      simp only [encT] at fj
                      have HTj := Lib.hid hTj; clear hTj
                      go_wp2_with fail
                      go_roundw
                      case rel =>
                        refine ⟨j + 1, by omega, by go_num, fun v hv t ht => ?_, hB3⟩
                        by_cases hvj : v = j
                        · subst hvj; exact absurd (HTj.out.symm.trans ht) (by simp)
                        · exact HF.out v (by omega) t ht
                      case measure => first | (simp [intOf]; done) | (simp [intOf]; omega)
                    | some tj =>
                      rw [hTj] at fj
                      simp only [encT] at fj
                      have hge : decide ((0 : Int) ≤ (tj : Int)) = true := by simp
                      have RC := fun (W : World) (hW : Below w.heap.size w W) => reached_any ts.length S j tj ki _ _ l T W (hl.below RRoad.mono hW) (htT.below RInt.mono hW) hG hlt3 hTj HTB.out
                      by_cases hr : j = S ∨ Hit (edges ki false l) T j
                      · have RY := Lib.hid (fun (W : World) (hW : Below w.heap.size w W) => (RC W hW).mono (reach_yes hr))
                        have HR := Lib.hid hr; clear hr RC
                        have HTj := Lib.hid hTj; clear hTj
                        go_wp2_with (go_at_call 27; refine Calls.mono (RY.out _ hbz) ?_; rintro e w6 ⟨rfl, hb6⟩)
                        go_roundw
                        case rel =>
                          refine ⟨j + 1, by omega, by go_num, fun v hv t ht => ?_, hB3.trans (hb6.mono hB3.size)⟩
                          by_cases hvj : v = j
                          · subst hvj; exact HR.out
                          · exact HF.out v (by omega) t ht
                        case measure => first | (simp [intOf]; done) | (simp [intOf]; omega)
                      · have RN := Lib.hid (fun (W : World) (hW : Below w.heap.size w W) => (RC W hW).mono (reach_no hr))
                        have hne : ts ≠ dlist (edges ki false l) ts.length S := fun h => not_found (T := T) hS (hG.inn ki false) hlt3 hTj (fun hf => hr (fnd_hit hf)) (HT.out.symm.trans h)
                        have HNE := Lib.hid hne; clear hne hr RC
                        clear hTj
                        go_wp2_with (go_at_call 27; refine Calls.mono (RN.out _ hbz) ?_; rintro e w6 ⟨rfl, hb6⟩)
                        go_ret
                        exact ⟨retB (proves_no HC.out hS HNE.out), hbz.trans (hb6.mono hbz.size)⟩
                  · have e : j = ts.length := by omega
                    subst e
                    have fS := (hbz.cell (p := ⟨b0, o0 + S, none⟩) hb0).trans (FT.out S hS)
                    by_cases hz : T S = some 0
                    · have hyes : ts = dlist (edges ki false l) ts.length S := HT.out.trans (is_dlist (hG.posi ki false) (hG.inn ki false) hz HEI.out (fun v t hv ht => hit_last (HF.out v hv t ht) ht))
                      rw [hz] at fS
                      simp only [encT, Int.ofNat_zero, Int.cast_ofNat_Int] at fS
                      have HY := Lib.hid hyes; clear hyes hz
                      go_wp2_with fail
                      go_ret
                      exact ⟨retB (proves_yes HC.out hS HY.out), hbz⟩
                    · have hno : ts ≠ dlist (edges ki false l) ts.length S := fun h => not_zero (T := T) hS hz (HT.out.symm.trans h)
                      have hzb : (encT (T S) == 0) = false := by
                        rw [beq_eq_false_iff_ne]
                        intro h
                        cases hTS : T S with
                        | none => rw [hTS] at h; simp [encT] at h
                        | some t0 => rw [hTS] at h; simp only [encT] at h; exact hz (by rw [hTS]; congr 1; omega)
                      obtain ⟨z, hzz⟩ : ∃ z, z = encT (T S) := ⟨_, rfl⟩
                      rw [← hzz] at hzb fS
                      have HNE := Lib.hid hno; clear hno hz hzz
                      go_wp2_with fail
                      go_ret
                      exact ⟨retB (proves_no HC.out hS HNE.out), hbz⟩
      · have hlb : ((ts.length : Int) != n) = true := by simpa using hlen
        rw [← proves_bad (n := n) (s := s) (ki := ki) (l := l) (ts := ts) (fun h => hlen h.2.2.2)]
        clear hlen
        go_enter Try.func19, Try.ntmps19
        go_wp2_with (first
          | (go_at_call 14; refine (Check_any _ _ l _ (hl.below RRoad.mono ((Below.refl _ _).alloc (Nat.le_refl _) _))).mono ?_; rintro e w1 ⟨rfl, hb1⟩; obtain ⟨hB1, hb1', hs1, hc10, hc11⟩ := box2s hb1)
          | (go_at_call 25; refine (node_any _ _ _ _ _ _).mono ?_; rintro e w' ⟨rfl, rfl⟩))
        go_ret
        exact ⟨rfl, belowA hb1' (Nat.le_refl _)⟩
    · have hin : inB s 0 (n - 1) = false := by rw [inB_not]; omega
      rw [← proves_bad (n := n) (s := s) (ki := ki) (l := l) (ts := ts) (fun h => hs ⟨h.2.1, h.2.2.1⟩)]
      go_enter Try.func19, Try.ntmps19
      go_wp2_with (first
        | (go_at_call 14; refine (Check_any _ _ l _ (hl.below RRoad.mono ((Below.refl _ _).alloc (Nat.le_refl _) _))).mono ?_; rintro e w1 ⟨rfl, hb1⟩; obtain ⟨hB1, hb1', hs1, hc10, hc11⟩ := box2s hb1)
        | (go_at_call 25; refine (node_any _ _ _ _ _ _).mono ?_; rintro e w' ⟨rfl, rfl⟩))
      go_ret
      exact ⟨rfl, belowA hb1' (Nat.le_refl _)⟩
  · have hcb : (chkNet n l != 0) = true := by simpa using hc
    rw [← proves_bad (n := n) (s := s) (ki := ki) (l := l) (ts := ts) (fun h => hc h.1)]
    clear hc
    go_enter Try.func19, Try.ntmps19
    go_wp2_with (first
      | (go_at_call 14; refine (Check_any _ _ l _ (hl.below RRoad.mono ((Below.refl _ _).alloc (Nat.le_refl _) _))).mono ?_; rintro e w1 ⟨rfl, hb1⟩; obtain ⟨hB1, hb1', hs1, hc10, hc11⟩ := box2s hb1)
      | (go_at_call 25; refine (node_any _ _ _ _ _ _).mono ?_; rintro e w' ⟨rfl, rfl⟩))
    go_ret
    exact ⟨rfl, hb1'⟩
end Go.Proofs.Ytmmbomkbaebodaa
