/-
  RoadTells: the walk.
-/
import Derived.Test.YtmmbomkbaebodaaRefPath
import Derived.Test.YtmmbomkbaebodaaRefProves
namespace Go.Proofs.Ytmmbomkbaebodaa
set_option linter.unusedVariables false
set_option linter.unusedSimpArgs false
open Go.RowKit

attribute [local go_sem] relOp relAt relUpon

set_option maxRecDepth 100000 in
set_option maxHeartbeats 40000000 in
theorem tells_any (n a b ki : Int) (v vt : Value) (l : List Rd) (ts : List Int) (w : World) (hl : RoadsAt w v l) (ht : IntsAt w vt ts) :
    Calls Try.prog 3 #[.agg #[I n, v], I a, I b, I ki, vt] w fun e w' => e = .returned (.bool true) ∧ Below w.heap.size w w' := by
  obtain ⟨ad, cap, rfl, hlc, hcap⟩ := hl.shape
  obtain ⟨at2, ct, rfl, htc, htm⟩ := ht.shape
  unfold maxLen at htm
  have HRP := Lib.hid (fun W h => rpath_any n a b ki (.slice ad l.length cap) l W h)
  have HRT := Lib.hid (fun W h => rtimes_any n a ki (.slice ad l.length cap) l W h)
  have HRV := Lib.hid (fun W h h2 => rproves_any n a ki (.slice ad l.length cap) (.slice at2 ts.length ct) l ts W h h2)
  by_cases hf : fewB n l.length = true
  · by_cases q1 : (110 : Int) < (ts.length : Int)
    · go_enter Try.func3, Try.ntmps3
      go_wp2_with (first
        | (go_at_call 9; refine Calls.mono (small_any _) ?_; rintro e w1 ⟨rfl, hb1⟩; obtain ⟨hB1, hb1', hs1, hc10, hc11⟩ := box2s hb1)
        | (go_at_call 10; refine Calls.mono (few_any _ _ _ _ _) ?_; rw [hf]; rintro e w2 ⟨rfl, hb2⟩; have hb2' := hb1'.trans (hb2.mono hb1'.size)))
      go_ret
      exact ⟨rfl, hb2'⟩
    · go_enter Try.func3, Try.ntmps3
      go_upto_region 4 with (first
        | (go_at_call 9; refine Calls.mono (small_any _) ?_; rintro e w1 ⟨rfl, hb1⟩; obtain ⟨hB1, hb1', hs1, hc10, hc11⟩ := box2s hb1)
        | (go_at_call 10; refine Calls.mono (few_any _ _ _ _ _) ?_; rw [hf]; rintro e w2 ⟨rfl, hb2⟩; have hb2' := hb1'.trans (hb2.mono hb1'.size); have hc20 := (hb2.cell (p := ⟨w.heap.size, 0, none⟩) hs1).trans hc10; have hc21 := (hb2.cell (p := ⟨w.heap.size, 1, none⟩) hs1).trans hc11; have hs2 : w.heap.size < w2.heap.size := by have := hb2.size; omega))
      go_upto_region 5 with (go_at_call 11; refine (path_any _ _ _ _ _ l _ (hl.below RRoad.mono hb2')).mono ?_; rintro e w3 ⟨v3, rfl, i3, hb3⟩)
      have hc30 := (hb3.cell (p := ⟨w.heap.size, 0, none⟩) hs2).trans hc20
      have hc31 := (hb3.cell (p := ⟨w.heap.size, 1, none⟩) hs2).trans hc21
      have hb3' := hb2'.trans (hb3.mono hb2'.size)
      have hs3 : w.heap.size < w3.heap.size := by have := hb3.size; omega
      go_upto_region 6 with (go_at_call 12; refine (HRP.out _ (hl.below RRoad.mono hb3')).mono ?_; rintro e w4 ⟨v4, rfl, i4, hb4⟩)
      have hc40 := (hb4.cell (p := ⟨w.heap.size, 0, none⟩) hs3).trans hc30
      have hc41 := (hb4.cell (p := ⟨w.heap.size, 1, none⟩) hs3).trans hc31
      have hb4' := hb3'.trans (hb4.mono hb3'.size)
      have hs4 : w.heap.size < w4.heap.size := by have := hb4.size; omega
      refine wp_region_rel (by kernel_rfl) (by kernel_rfl) (by kernel_rfl) ?_
      have hl4 := hl.below RRoad.mono hb4'
      have ht4 := ht.below RInt.mono hb4'
      have hi3 := i3.below RInt.mono hb4
      repeat (first
        | (with_reducible apply rel_is
           · intro wx hx
             have hc := (bcell hx).2.1
             try simp only [List.nil_append, List.cons_append]
             repeat (first | with_reducible refine reads_is ?_ | (with_reducible refine reads_skip ?_ ?_; (· decide +kernel)) | (with_reducible refine reads_take ?_ ?_; (· decide +kernel); intro u hu))
             with_reducible refine reads_nil ?_
             go_simp
             first
               | exact ⟨Grows.refl _, rfl⟩
               | (go_at_call 13; exact check_is _ _ l _ (hl4.below RRoad.mono hx) rfl)
               | (go_at_call 14; exact Check_any _ _ l _ (hl4.below RRoad.mono hx))
               | (go_at_call 15; exact same_yes _ _ _ _ (hi3.below RInt.mono hx) (i4.below RInt.mono hx))))
      with_reducible refine rel_end ?_
      intro w5 hg5
      have hc50 := (hg5.cell (p := ⟨w.heap.size, 0, none⟩) hs4).trans hc40
      have hc51 := (hg5.cell (p := ⟨w.heap.size, 1, none⟩) hs4).trans hc41
      simp only [List.nil_append, List.cons_append]
      repeat (first | with_reducible refine final_is ?_ | (with_reducible refine final_of ?_; intro u hu))
      with_reducible refine final_nil ?_
      go_simp
      go_upto_region 8 with fail
      have hb5' := hb4'.trans (hg5.mono hb4'.size)
      have hs5 : w.heap.size < w5.heap.size := by have := hg5.size; omega
      have hl5 := hl4.below RRoad.mono hg5
      have ht5 := ht4.below RInt.mono hg5
      refine wp_region_rel (by kernel_rfl) (by kernel_rfl) (by kernel_rfl) ?_
      repeat (first
        | (with_reducible apply rel_is
           · intro wx hx
             have hc := (bcell hx).2.1
             try simp only [List.nil_append, List.cons_append]
             repeat (first | with_reducible refine reads_is ?_ | (with_reducible refine reads_skip ?_ ?_; (· decide +kernel)) | (with_reducible refine reads_take ?_ ?_; (· decide +kernel); intro u hu))
             with_reducible refine reads_nil ?_
             go_simp
             first
               | exact ⟨Grows.refl _, rfl⟩
               | (go_at_call 18; exact proves_any _ _ _ _ _ l ts _ (hl5.below RRoad.mono hx) (ht5.below RInt.mono hx))
               | (go_at_call 19; exact HRV.out _ (hl5.below RRoad.mono hx) (ht5.below RInt.mono hx))
               | (go_at_call 15; exact same_yes _ _ (timesL n l a ki) _ (by assumption) (by assumption)))
        | (refine rel_of (fun W u => IntsAt W u (timesL n l a ki)) (fun _ _ _ hg h => h.below RInt.mono hg) ?_ ?_
           · intro wx hx
             have hc := (bcell hx).2.1
             try simp only [List.nil_append, List.cons_append]
             repeat (first | with_reducible refine reads_is ?_ | (with_reducible refine reads_skip ?_ ?_; (· decide +kernel)) | (with_reducible refine reads_take ?_ ?_; (· decide +kernel); intro u hu))
             with_reducible refine reads_nil ?_
             go_simp
             first
               | (go_at_call 16; refine (times_any _ _ _ _ l _ (hl5.below RRoad.mono hx)).mono ?_; rintro e w6 ⟨v6, rfl, i6, hb6⟩; exact ⟨_, rfl, hb6, i6⟩)
               | (go_at_call 17; refine (HRT.out _ (hl5.below RRoad.mono hx)).mono ?_; rintro e w6 ⟨v6, rfl, i6, hb6⟩; exact ⟨_, rfl, hb6, i6⟩)))
      with_reducible refine rel_end ?_
      intro w6 hg6
      simp only [List.nil_append, List.cons_append]
      repeat (first | with_reducible refine final_is ?_ | (with_reducible refine final_of ?_; intro u hu))
      with_reducible refine final_nil ?_
      go_simp
      go_wp2_with fail
      go_ret
      exact ⟨rfl, hb5'.trans (hg6.mono hb5'.size)⟩
  · have hf : fewB n l.length = false := by simpa using hf
    go_enter Try.func3, Try.ntmps3
    go_wp2_with (first
      | (go_at_call 9; refine Calls.mono (small_any _) ?_; rintro e w1 ⟨rfl, hb1⟩; obtain ⟨hB1, hb1', hs1, hc10, hc11⟩ := box2s hb1)
      | (go_at_call 10; refine Calls.mono (few_any _ _ _ _ _) ?_; rw [hf]; rintro e w2 ⟨rfl, hb2⟩; have hb2' := hb1'.trans (hb2.mono hb1'.size)))
    go_ret
    exact ⟨rfl, hb2'⟩
end Go.Proofs.Ytmmbomkbaebodaa
