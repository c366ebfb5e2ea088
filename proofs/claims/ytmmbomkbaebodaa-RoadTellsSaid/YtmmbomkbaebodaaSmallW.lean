/-
  The walk of the law's head.
-/
import Derived.Test.YtmmbomkbaebodaaExample
import Derived.Test.YtmmbomkbaebodaaPath
import Derived.Test.YtmmbomkbaebodaaProves
import Derived.Test.YtmmbomkbaebodaaSmall
namespace Go.Proofs.Ytmmbomkbaebodaa
set_option linter.unusedVariables false
set_option linter.unusedSimpArgs false
open Go.RowKit

theorem lit_below {w w' : World} {o : Obj} (h : Below (w.alloc o).heap.size (w.alloc o) w') : Below w.heap.size w w' := (belowA (Below.refl _ _) (Nat.le_refl _)).trans (h.mono (by simp))
theorem lit_mono (w : World) (o : Obj) : Below w.heap.size w (w.alloc o) := belowA (Below.refl _ _) (Nat.le_refl _)
theorem same_yes (va vb : Value) (a : List Int) (w : World) (ha : IntsAt w va a) (hb : IntsAt w vb a) :
    Calls Try.prog 15 #[va, vb] w fun e w' => e = .returned (.bool true) ∧ Below w.heap.size w w' :=
  (same_any va vb a a w ha hb).mono fun _ _ ⟨he, h⟩ => ⟨by rw [he]; simp, h⟩
theorem proves_is (n s ki : Int) (v vt : Value) (l : List Rd) (ts : List Int) (w : World) (hl : RoadsAt w v l) (ht : IntsAt w vt ts) {r : Bool} (h : provesL n l s ki ts = r) :
    Calls Try.prog 18 #[.agg #[I n, v], I s, I ki, vt] w fun e w' => e = .returned (.bool r) ∧ Below w.heap.size w w' := by
  subst h
  exact proves_any n s ki v vt l ts w hl ht
theorem check_is (n : Int) (v : Value) (l : List Rd) (w : World) (hl : RoadsAt w v l) {r : Int} (h : chkNet n l = r) :
    Calls Try.prog 13 #[.agg #[I n, v]] w fun e w' => e = .returned (I r) ∧ Below w.heap.size w w' := by
  subst h
  exact check_any n v l w hl
theorem exL_chk4 : chkNet 4 exL = 0 := by decide
theorem roads_nil (w : World) : RoadsAt w (.slice none 0 0) [] := ⟨none, 0, rfl, Nat.le_refl _, by unfold maxLen; omega, .inl rfl⟩

set_option maxRecDepth 100000 in
set_option maxHeartbeats 40000000 in
theorem small_any (w : World) : Calls Try.prog 9 #[] w fun e w' => e = .returned (.bool true) ∧ Below w.heap.size w w' := by
  go_enter Try.func9, Try.ntmps9
  go_upto_region 2 with (go_at_call 21; refine (example_any _).mono ?_; rintro e w1 ⟨rfl, rfl⟩)
  have HB := box_at w
  obtain ⟨wa, hwa⟩ : ∃ wa, wa = (((w.alloc (.cells #[I 4, .slice (some ⟨w.heap.size + 1, 0, none⟩) 4 4] 24)).alloc (.cells exCells 38)).alloc (.cells #[I 4, .slice (some ⟨w.heap.size + 1, 0, none⟩) 4 4] 24)) := ⟨_, rfl⟩
  rw [← hwa] at HB ⊢
  clear hwa
  obtain ⟨bb, hbb⟩ : ∃ bb, bb = w.heap.size + 1 + 1 := ⟨_, rfl⟩
  rw [← hbb] at HB ⊢
  clear hbb
  obtain ⟨vb, hvb⟩ : ∃ vb : Addr, vb = ⟨w.heap.size + 1, 0, none⟩ := ⟨_, rfl⟩
  rw [← hvb] at HB ⊢
  clear hvb
  obtain ⟨c0, c1⟩ := And.intro HB.c0 HB.c1
  go_upto_region 3 with (go_at_call 16; refine (times_any 4 0 10000 _ exL _ HB.roads).mono ?_; rintro e w2 ⟨v2, rfl, i2, b2⟩)
  rw [ex1] at i2
  replace HB := HB.mono b2
  clear c0 c1 b2
  obtain ⟨c0, c1⟩ := And.intro HB.c0 HB.c1
  go_upto_region 4 with (go_at_call 16; refine (times_any 4 0 10001 _ exL _ HB.roads).mono ?_; rintro e w3 ⟨v3, rfl, i3, b3⟩)
  rw [ex2] at i3
  have i2 := i2.below RInt.mono b3
  replace HB := HB.mono b3
  clear c0 c1 b3
  obtain ⟨c0, c1⟩ := And.intro HB.c0 HB.c1
  go_upto_region 5 with (go_at_call 11; refine (path_any 4 0 2 10000 _ exL _ HB.roads).mono ?_; rw [ex3]; rintro e w4 ⟨v4, rfl, i4, b4⟩)
  simp only [Option.getD_some] at i4
  have i2 := i2.below RInt.mono b4
  have i3 := i3.below RInt.mono b4
  replace HB := HB.mono b4
  clear c0 c1 b4
  obtain ⟨c0, c1⟩ := And.intro HB.c0 HB.c1
  go_upto_region 6 with (go_at_call 11; refine (path_any 4 0 2 10001 _ exL _ HB.roads).mono ?_; rw [ex4]; rintro e w5 ⟨v5, rfl, i5, b5⟩)
  simp only [Option.getD_some] at i5
  have i2 := i2.below RInt.mono b5
  have i3 := i3.below RInt.mono b5
  have i4 := i4.below RInt.mono b5
  replace HB := HB.mono b5
  clear c0 c1 b5
  obtain ⟨c0, c1⟩ := And.intro HB.c0 HB.c1
  go_upto_region 7 with (go_at_call 11; refine (path_any 4 1 0 10000 _ exL _ HB.roads).mono ?_; rw [ex5]; rintro e w6 ⟨v6, rfl, i6, b6⟩)
  simp only [Option.getD_some] at i6
  have i2 := i2.below RInt.mono b6
  have i3 := i3.below RInt.mono b6
  have i4 := i4.below RInt.mono b6
  have i5 := i5.below RInt.mono b6
  replace HB := HB.mono b6
  clear c0 c1 b6
  obtain ⟨c0, c1⟩ := And.intro HB.c0 HB.c1
  go_upto_region 8 with (go_at_call 11; refine (path_any 4 1 0 10001 _ exL _ HB.roads).mono ?_; rw [ex6]; rintro e w7 ⟨v7, rfl, i7, b7⟩)
  have i2 := i2.below RInt.mono b7
  have i3 := i3.below RInt.mono b7
  have i4 := i4.below RInt.mono b7
  have i5 := i5.below RInt.mono b7
  have i6 := i6.below RInt.mono b7
  replace HB := HB.mono b7
  clear c0 c1 b7
  have c0 := HB.c0
  have c1 := HB.c1
  go_upto_region 10 with (go_at_call 15; fail)
  go_at_call 15
  refine Calls.mono (same_yes _ _ [0, 5, 10, -1] _ (i2.below RInt.mono (lit_mono _ _)) (ints_new [0, 5, 10, -1] (by unfold maxLen; omega) (by rfl) (by rfl))) ?_
  rintro e w8 ⟨rfl, b8⟩
  replace b8 := lit_below b8
  have i2 := i2.below RInt.mono b8
  have i3 := i3.below RInt.mono b8
  have i4 := i4.below RInt.mono b8
  have i5 := i5.below RInt.mono b8
  have i6 := i6.below RInt.mono b8
  replace HB := HB.mono b8
  clear c0 c1 b8
  have c0 := HB.c0
  have c1 := HB.c1
  go_upto_region 10 with (go_at_call 15; fail)
  go_at_call 15
  refine Calls.mono (same_yes _ _ [0, 5, 20, -1] _ (i3.below RInt.mono (lit_mono _ _)) (ints_new [0, 5, 20, -1] (by unfold maxLen; omega) (by rfl) (by rfl))) ?_
  rintro e w9 ⟨rfl, b9⟩
  replace b9 := lit_below b9
  have i2 := i2.below RInt.mono b9
  have i3 := i3.below RInt.mono b9
  have i4 := i4.below RInt.mono b9
  have i5 := i5.below RInt.mono b9
  have i6 := i6.below RInt.mono b9
  replace HB := HB.mono b9
  clear c0 c1 b9
  have c0 := HB.c0
  have c1 := HB.c1
  go_upto_region 11 with (go_at_call 18; fail)
  go_at_call 18
  refine Calls.mono (proves_is 4 0 10000 _ _ exL [0, 5, 10, -1] _ HB.roads i2 ex7) ?_
  rintro e w10 ⟨rfl, b10⟩
  have i2 := i2.below RInt.mono b10
  have i3 := i3.below RInt.mono b10
  have i4 := i4.below RInt.mono b10
  have i5 := i5.below RInt.mono b10
  have i6 := i6.below RInt.mono b10
  replace HB := HB.mono b10
  clear c0 c1 b10
  have c0 := HB.c0
  have c1 := HB.c1
  go_upto_region 11 with (go_at_call 18; fail)
  go_at_call 18
  refine Calls.mono (proves_is 4 0 10000 _ _ exL [0, 5, 9, -1] _ (HB.roads.below RRoad.mono (lit_mono _ _)) (ints_new [0, 5, 9, -1] (by unfold maxLen; omega) (by rfl) (by rfl)) ex8) ?_
  rintro e w11 ⟨rfl, b11⟩
  replace b11 := lit_below b11
  have i2 := i2.below RInt.mono b11
  have i3 := i3.below RInt.mono b11
  have i4 := i4.below RInt.mono b11
  have i5 := i5.below RInt.mono b11
  have i6 := i6.below RInt.mono b11
  replace HB := HB.mono b11
  clear c0 c1 b11
  have c0 := HB.c0
  have c1 := HB.c1
  go_upto_region 11 with (go_at_call 18; fail)
  go_at_call 18
  refine Calls.mono (proves_is 4 0 10000 _ _ exL [0, 5, 10, 30] _ (HB.roads.below RRoad.mono (lit_mono _ _)) (ints_new [0, 5, 10, 30] (by unfold maxLen; omega) (by rfl) (by rfl)) ex9) ?_
  rintro e w12 ⟨rfl, b12⟩
  replace b12 := lit_below b12
  have i2 := i2.below RInt.mono b12
  have i3 := i3.below RInt.mono b12
  have i4 := i4.below RInt.mono b12
  have i5 := i5.below RInt.mono b12
  have i6 := i6.below RInt.mono b12
  replace HB := HB.mono b12
  clear c0 c1 b12
  have c0 := HB.c0
  have c1 := HB.c1
  go_wp2_with (go_at_call 15; fail)
  go_at_call 15
  refine Calls.mono (same_yes _ _ [0, 1] _ (i4.below RInt.mono (lit_mono _ _)) (ints_new [0, 1] (by unfold maxLen; omega) (by rfl) (by rfl))) ?_
  rintro e w13 ⟨rfl, b13⟩
  replace b13 := lit_below b13
  have i2 := i2.below RInt.mono b13
  have i3 := i3.below RInt.mono b13
  have i4 := i4.below RInt.mono b13
  have i5 := i5.below RInt.mono b13
  have i6 := i6.below RInt.mono b13
  replace HB := HB.mono b13
  clear c0 c1 b13
  have c0 := HB.c0
  have c1 := HB.c1
  go_wp2_with (go_at_call 15; fail)
  go_at_call 15
  refine Calls.mono (same_yes _ _ [2] _ (i5.below RInt.mono (lit_mono _ _)) (ints_new [2] (by unfold maxLen; omega) (by rfl) (by rfl))) ?_
  rintro e w14 ⟨rfl, b14⟩
  replace b14 := lit_below b14
  have i2 := i2.below RInt.mono b14
  have i3 := i3.below RInt.mono b14
  have i4 := i4.below RInt.mono b14
  have i5 := i5.below RInt.mono b14
  have i6 := i6.below RInt.mono b14
  replace HB := HB.mono b14
  clear c0 c1 b14
  have c0 := HB.c0
  have c1 := HB.c1
  go_wp2_with (go_at_call 15; fail)
  go_at_call 15
  refine Calls.mono (same_yes _ _ [1, 3] _ (i6.below RInt.mono (lit_mono _ _)) (ints_new [1, 3] (by unfold maxLen; omega) (by rfl) (by rfl))) ?_
  rintro e w15 ⟨rfl, b15⟩
  replace b15 := lit_below b15
  have i2 := i2.below RInt.mono b15
  have i3 := i3.below RInt.mono b15
  have i4 := i4.below RInt.mono b15
  have i5 := i5.below RInt.mono b15
  have i6 := i6.below RInt.mono b15
  replace HB := HB.mono b15
  clear c0 c1 b15
  have c0 := HB.c0
  have c1 := HB.c1
  go_wp2_with (go_at_call 13; fail)
  go_at_call 13
  refine Calls.mono (check_is 4 _ exL _ HB.roads (r := 0) exL_chk4) ?_
  rintro e w16 ⟨rfl, b16⟩
  have i2 := i2.below RInt.mono b16
  have i3 := i3.below RInt.mono b16
  have i4 := i4.below RInt.mono b16
  have i5 := i5.below RInt.mono b16
  have i6 := i6.below RInt.mono b16
  replace HB := HB.mono b16
  clear c0 c1 b16
  have c0 := HB.c0
  have c1 := HB.c1
  go_wp2_with (go_at_call 13; fail)
  go_at_call 13
  refine Calls.mono (check_is 101 _ [] _ (roads_nil _) (r := 1) ex10) ?_
  rintro e w17 ⟨rfl, b17⟩
  have i2 := i2.below RInt.mono b17
  have i3 := i3.below RInt.mono b17
  have i4 := i4.below RInt.mono b17
  have i5 := i5.below RInt.mono b17
  have i6 := i6.below RInt.mono b17
  replace HB := HB.mono b17
  clear c0 c1 b17
  go_wp2_with fail
  go_ret
  exact ⟨rfl, HB.below⟩
end Go.Proofs.Ytmmbomkbaebodaa
