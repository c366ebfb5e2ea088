/-
  Boxes of a call's own: what they hold behind calls that make memory; results that lie in cells.
-/
import Derived.Test.YtbnbpfjfkedbaaaPBigA
import Derived.Deep.LoopGhost
namespace Go.Proofs.Ytbnbpfjfkedbaaa
set_option linter.unusedVariables false
set_option linter.unusedSimpArgs false
set_option linter.unusedSectionVars false
open Go.RowKit
section
variable {w W : World} {o1 o2 o3 o4 o5 o6 : Obj}
theorem boxes1 (h : Below (w.alloc o1).heap.size (w.alloc o1) W) : w.heap.size + 0 < W.heap.size ∧ Below w.heap.size w W ∧ W.heap[w.heap.size]? = some o1 := by
 have hs := h.size
 simp at hs
 have hall : ∀ i, i < 1 → W.heap[w.heap.size + i]? = (w.alloc o1).heap[w.heap.size + i]? := fun i hi => h.block _ (by simp; omega)
 have hb : Below w.heap.size w (w.alloc o1) := ((Below.refl _ _).alloc (Nat.le_refl _) _)
 refine ⟨by omega, hb.trans (h.mono hb.size), ?_⟩
 · refine (hall 0 (by omega)).trans ?_
   have := heap_alloc_new w o1
   simpa using this
theorem boxes2 (h : Below ((w.alloc o1).alloc o2).heap.size ((w.alloc o1).alloc o2) W) : w.heap.size + 1 < W.heap.size ∧ Below w.heap.size w W ∧ W.heap[w.heap.size]? = some o1 ∧ W.heap[w.heap.size + 1]? = some o2 := by
 have hs := h.size
 simp at hs
 have hall : ∀ i, i < 2 → W.heap[w.heap.size + i]? = ((w.alloc o1).alloc o2).heap[w.heap.size + i]? := fun i hi => h.block _ (by simp; omega)
 have hb : Below w.heap.size w ((w.alloc o1).alloc o2) := ((((Below.refl _ _).alloc (Nat.le_refl _) _)).alloc (by simp) _)
 refine ⟨by omega, hb.trans (h.mono hb.size), ?_, ?_⟩
 · refine (hall 0 (by omega)).trans ?_
   rw [Below.heap_alloc _ _ _ (by simp <;> omega)]
   have := heap_alloc_new w o1
   simpa using this
 · refine (hall 1 (by omega)).trans ?_
   have := heap_alloc_new (w.alloc o1) o2
   simpa using this
theorem boxes3 (h : Below (((w.alloc o1).alloc o2).alloc o3).heap.size (((w.alloc o1).alloc o2).alloc o3) W) : w.heap.size + 2 < W.heap.size ∧ Below w.heap.size w W ∧ W.heap[w.heap.size]? = some o1 ∧ W.heap[w.heap.size + 1]? = some o2 ∧ W.heap[w.heap.size + 2]? = some o3 := by
 have hs := h.size
 simp at hs
 have hall : ∀ i, i < 3 → W.heap[w.heap.size + i]? = (((w.alloc o1).alloc o2).alloc o3).heap[w.heap.size + i]? := fun i hi => h.block _ (by simp; omega)
 have hb : Below w.heap.size w (((w.alloc o1).alloc o2).alloc o3) := ((((((Below.refl _ _).alloc (Nat.le_refl _) _)).alloc (by simp) _)).alloc (by simp <;> omega) _)
 refine ⟨by omega, hb.trans (h.mono hb.size), ?_, ?_, ?_⟩
 · refine (hall 0 (by omega)).trans ?_
   rw [Below.heap_alloc _ _ _ (by simp <;> omega), Below.heap_alloc _ _ _ (by simp <;> omega)]
   have := heap_alloc_new w o1
   simpa using this
 · refine (hall 1 (by omega)).trans ?_
   rw [Below.heap_alloc _ _ _ (by simp <;> omega)]
   have := heap_alloc_new (w.alloc o1) o2
   simpa using this
 · refine (hall 2 (by omega)).trans ?_
   have := heap_alloc_new ((w.alloc o1).alloc o2) o3
   simpa using this
theorem boxes4 (h : Below ((((w.alloc o1).alloc o2).alloc o3).alloc o4).heap.size ((((w.alloc o1).alloc o2).alloc o3).alloc o4) W) : w.heap.size + 3 < W.heap.size ∧ Below w.heap.size w W ∧ W.heap[w.heap.size]? = some o1 ∧ W.heap[w.heap.size + 1]? = some o2 ∧ W.heap[w.heap.size + 2]? = some o3 ∧ W.heap[w.heap.size + 3]? = some o4 := by
 have hs := h.size
 simp at hs
 have hall : ∀ i, i < 4 → W.heap[w.heap.size + i]? = ((((w.alloc o1).alloc o2).alloc o3).alloc o4).heap[w.heap.size + i]? := fun i hi => h.block _ (by simp; omega)
 have hb : Below w.heap.size w ((((w.alloc o1).alloc o2).alloc o3).alloc o4) := ((((((((Below.refl _ _).alloc (Nat.le_refl _) _)).alloc (by simp) _)).alloc (by simp <;> omega) _)).alloc (by simp <;> omega) _)
 refine ⟨by omega, hb.trans (h.mono hb.size), ?_, ?_, ?_, ?_⟩
 · refine (hall 0 (by omega)).trans ?_
   rw [Below.heap_alloc _ _ _ (by simp <;> omega), Below.heap_alloc _ _ _ (by simp <;> omega), Below.heap_alloc _ _ _ (by simp <;> omega)]
   have := heap_alloc_new w o1
   simpa using this
 · refine (hall 1 (by omega)).trans ?_
   rw [Below.heap_alloc _ _ _ (by simp <;> omega), Below.heap_alloc _ _ _ (by simp <;> omega)]
   have := heap_alloc_new (w.alloc o1) o2
   simpa using this
 · refine (hall 2 (by omega)).trans ?_
   rw [Below.heap_alloc _ _ _ (by simp <;> omega)]
   have := heap_alloc_new ((w.alloc o1).alloc o2) o3
   simpa using this
 · refine (hall 3 (by omega)).trans ?_
   have := heap_alloc_new (((w.alloc o1).alloc o2).alloc o3) o4
   simpa using this
end
section
variable {W : World} {g : Nat} {T : TypeId} {c0 c1 c2 c3 c4 : Value}
theorem cells2 (h : W.heap[g]? = some (.cells #[c0, c1] T (0, 0))) : W.cell? ⟨g, 0, none⟩ = some c0 ∧ W.cell? ⟨g, 1, none⟩ = some c1 ∧ (∀ i, W.frozen? ⟨g, i, none⟩ = false) :=
 ⟨by rw [cell_of_row W _ 0 _ _ (0, 0) h]; rfl, by rw [cell_of_row W _ 1 _ _ (0, 0) h]; rfl, fun i => frozen_of_row W g i _ _ h⟩
theorem cells4 (h : W.heap[g]? = some (.cells #[c0, c1, c2, c3] T (0, 0))) : W.cell? ⟨g, 0, none⟩ = some c0 ∧ W.cell? ⟨g, 1, none⟩ = some c1 ∧ W.cell? ⟨g, 2, none⟩ = some c2 ∧ W.cell? ⟨g, 3, none⟩ = some c3 ∧ (∀ i, W.frozen? ⟨g, i, none⟩ = false) :=
 ⟨by rw [cell_of_row W _ 0 _ _ (0, 0) h]; rfl, by rw [cell_of_row W _ 1 _ _ (0, 0) h]; rfl, by rw [cell_of_row W _ 2 _ _ (0, 0) h]; rfl, by rw [cell_of_row W _ 3 _ _ (0, 0) h]; rfl, fun i => frozen_of_row W g i _ _ h⟩
theorem set4 (h : W.heap[g]? = some (.cells #[c0, c1, c2, c3] T (0, 0))) (v0 v1 v2 v3 : Value) : ((((W.setCell ⟨g, 0, none⟩ v0).setCell ⟨g, 1, none⟩ v1).setCell ⟨g, 2, none⟩ v2).setCell ⟨g, 3, none⟩ v3).heap[g]? = some (.cells #[v0, v1, v2, v3] T (0, 0)) := by
 rw [heap_setCell_same _ g 3 _ _ v3 (heap_setCell_same _ g 2 _ _ v2 (heap_setCell_same _ g 1 _ _ v1 (heap_setCell_same W g 0 _ _ v0 h)))]; rfl
theorem below_set4 {w : World} {B : Nat} (h : Below B w W) (hg : B ≤ g) (v0 v1 v2 v3 : Value) : Below B w ((((W.setCell ⟨g, 0, none⟩ v0).setCell ⟨g, 1, none⟩ v1).setCell ⟨g, 2, none⟩ v2).setCell ⟨g, 3, none⟩ v3) := (((h.setCell (p := ⟨g, 0, none⟩) hg v0).setCell (p := ⟨g, 1, none⟩) hg v1).setCell (p := ⟨g, 2, none⟩) hg v2).setCell (p := ⟨g, 3, none⟩) hg v3
end
def FracV (w : World) (v : Value) (f : FracD) : Prop := ∃ d e, v = .agg #[I f.p.s, d, I f.q.s, e] ∧ IntsAt w d f.p.d ∧ IntsAt w e f.q.d
def FracF (w : World) (v : Value) (f : FracD) : Prop := ∃ d e, v = .agg #[I f.p.s, d, I f.q.s, e] ∧ IntsAt w d f.p.d ∧ IntsAt w e f.q.d ∧ Typed w d ∧ Typed w e
theorem FracV.below {w W : World} {v : Value} {f : FracD} (h : FracV w v f) (hb : Below w.heap.size w W) : FracV W v f := by
 obtain ⟨d, e, rfl, h1, h2⟩ := h
 exact ⟨d, e, rfl, h1.below RInt.mono hb, h2.below RInt.mono hb⟩
theorem FracF.below {w W : World} {v : Value} {f : FracD} (h : FracF w v f) (hb : Below w.heap.size w W) : FracF W v f := by
 obtain ⟨d, e, rfl, h1, h2, h3, h4⟩ := h
 exact ⟨d, e, rfl, h1.below RInt.mono hb, h2.below RInt.mono hb, h3.below hb, h4.below hb⟩
theorem FracV.mono (f : FracD) : ∀ w w' v, Grows w w' → FracV w v f → FracV w' v f := fun _ _ _ hg h => h.below hg
theorem FracF.mono (f : FracD) : ∀ w w' v, Grows w w' → FracF w v f → FracF w' v f := fun _ _ _ hg h => h.below hg
theorem fracF_zero (w : World) : FracF w (.agg #[I 0, .slice none 0 0, I 0, .slice none 0 0]) zF := ⟨_, _, rfl, ints_nil' w, ints_nil' w, Typed.nil w, Typed.nil w⟩
theorem FracF.set {w : World} {v u : Value} {x : FracD} {g i : Nat} {cs : Array Value} {T : TypeId} {fr : Nat × Nat} (h : FracF w v x) (hg : w.heap[g]? = some (.cells cs T fr)) (hT : T ≠ 3) : FracF (w.setCell ⟨g, i, none⟩ u) v x := by
 obtain ⟨d, e, rfl, h1, h2, h3, h4⟩ := h
 obtain ⟨h5, hne⟩ := typed_set (i := i) (x := u) h3 hg hT
 obtain ⟨h6, hne2⟩ := typed_set (i := i) (x := u) h4 hg hT
 exact ⟨d, e, rfl, ints_grown h1 grown_one hne, ints_grown h2 grown_one hne2, h5, h6⟩
theorem FracF.set4 {w : World} {v v0 v1 v2 v3 : Value} {x : FracD} {g : Nat} {c0 c1 c2 c3 : Value} {T : TypeId} (h : FracF w v x) (hg : w.heap[g]? = some (.cells #[c0, c1, c2, c3] T (0, 0))) (hT : T ≠ 3) :
    FracF ((((w.setCell ⟨g, 0, none⟩ v0).setCell ⟨g, 1, none⟩ v1).setCell ⟨g, 2, none⟩ v2).setCell ⟨g, 3, none⟩ v3) v x :=
 (((h.set hg hT).set (heap_setCell_same w g 0 _ _ v0 hg) hT).set (heap_setCell_same _ g 1 _ _ v1 (heap_setCell_same w g 0 _ _ v0 hg)) hT).set (heap_setCell_same _ g 2 _ _ v2 (heap_setCell_same _ g 1 _ _ v1 (heap_setCell_same w g 0 _ _ v0 hg))) hT
theorem FracF.set2 {w : World} {v v0 v1 : Value} {x : FracD} {g : Nat} {c0 c1 : Value} {T : TypeId} (h : FracF w v x) (hg : w.heap[g]? = some (.cells #[c0, c1] T (0, 0))) (hT : T ≠ 3) :
    FracF ((w.setCell ⟨g, 0, none⟩ v0).setCell ⟨g, 1, none⟩ v1) v x :=
 (h.set hg hT).set (heap_setCell_same w g 0 _ _ v0 hg) hT
theorem BigF.set4 {w : World} {v v0 v1 v2 v3 : Value} {x : BigD} {g : Nat} {c0 c1 c2 c3 : Value} {T : TypeId} (h : BigF w v x) (hg : w.heap[g]? = some (.cells #[c0, c1, c2, c3] T (0, 0))) (hT : T ≠ 3) :
    BigF ((((w.setCell ⟨g, 0, none⟩ v0).setCell ⟨g, 1, none⟩ v1).setCell ⟨g, 2, none⟩ v2).setCell ⟨g, 3, none⟩ v3) v x :=
 (((h.set hg hT).set (heap_setCell_same w g 0 _ _ v0 hg) hT).set (heap_setCell_same _ g 1 _ _ v1 (heap_setCell_same w g 0 _ _ v0 hg)) hT).set (heap_setCell_same _ g 2 _ _ v2 (heap_setCell_same _ g 1 _ _ v1 (heap_setCell_same w g 0 _ _ v0 hg))) hT
def RetFrac (w : World) (f : FracD) (e : Ending) (w' : World) : Prop := ∃ v, e = .returned v ∧ FracF w' v f ∧ Below w.heap.size w w'
def FracE (w : World) (v : Value) (f : FracD) (e : Int) : Prop := ∃ u, v = .tuple #[u, I e] ∧ FracF w u f
theorem FracE.mono (f : FracD) (e : Int) : ∀ w w' v, Grows w w' → FracE w v f e → FracE w' v f e := fun _ _ _ hg ⟨u, hv, h⟩ => ⟨u, hv, h.below hg⟩
def RetFracE (w : World) (f : FracD) (r : Int) (e : Ending) (w' : World) : Prop := ∃ v, e = .returned v ∧ FracE w' v f r ∧ Below w.heap.size w w'
attribute [local go_sem] relOp relAt relUpon
def sameB (x y : BigD) : Bool := x.s == y.s && decide (x.d = y.d)
theorem take_eq_snoc {a b : List Int} {j : Nat} {x y : Int} (h : a.take j = b.take j) (hx : a[j]? = some x) (hy : b[j]? = some y) (e : x = y) : a.take (j + 1) = b.take (j + 1) := by
 obtain ⟨h1, rfl⟩ := List.getElem?_eq_some_iff.1 hx
 obtain ⟨h2, rfl⟩ := List.getElem?_eq_some_iff.1 hy
 rw [List.take_succ_eq_append_getElem h1, List.take_succ_eq_append_getElem h2, h, e]
set_option maxRecDepth 100000 in
set_option maxHeartbeats 4000000 in
theorem equal_any (va vb : Value) (a b : List Int) (w : World) (ha : IntsAt w va a) (hb : IntsAt w vb b) :
    Calls Try.prog 86 #[va, vb] w fun e w' => e = .returned (B (decide (a = b))) ∧ Below w.heap.size w w' := by
 obtain ⟨A, ca, rfl, hla, hca⟩ := ha.shape
 obtain ⟨B', cb, rfl, hlb, hcb⟩ := hb.shape
 unfold maxLen at hca hcb
 by_cases hl : a.length = b.length
 · have Hl := Lib.hid hl
   have hl1 : a.length ≤ b.length := by omega
   have hl2 : b.length ≤ a.length := by omega
   clear hl
   go_enter Try.func86, Try.ntmps86
   go_wp2_with fail
   go_loopw [13] (fun i wr => ∃ m : Nat, m ≤ a.length ∧ i = I m ∧ a.take m = b.take m ∧ Below w.heap.size w wr) (fun i _ => a.length - (intOf i).toNat)
   case atStart => exact ⟨0, by omega, rfl, rfl, Below.refl _ _⟩
   case round =>
    obtain ⟨m, hm, rfl, hd, hB⟩ := hrel
    have Hd := Lib.hid hd; clear hd
    by_cases hlt : m < a.length
    · obtain ⟨bx, ox, x, rfl, hbx, hx, hcx⟩ := IntsAt.get1 (ha.below RInt.mono hB) (i := m) (by omega)
      obtain ⟨by_, oy, y, rfl, hby, hy, hcy⟩ := IntsAt.get1 (hb.below RInt.mono hB) (i := m) (by omega)
      have hki : (0 : Int) ≤ (m : Int) := by omega
      have hka : (m : Int) < (a.length : Int) := by omega
      have hkb : (m : Int) < (b.length : Int) := by omega
      by_cases hxy : x = y
      · subst hxy
        have hxx : (x != x) = false := by simp
        go_wp2_with fail
        go_quiet (fail)
        go_wp2_with fail
        go_roundw
        case rel => exact ⟨m + 1, by omega, by go_num, take_eq_snoc Hd.out hx.out hy.out rfl, drewN_below hB _⟩
        case measure => simp [intOf]; omega
      · have hxx : (x != y) = true := by simpa using hxy
        have E : Hid (false = decide (a = b)) := Lib.hid <| by
         symm
         refine decide_eq_false fun e => hxy ?_
         have h1 := hx.out
         rw [e, hy.out] at h1
         exact (Option.some.inj h1).symm
        go_wp2_with fail
        go_quiet (fail)
        go_wp2_with fail
        go_ret
        exact ⟨retB E.out, drewN_below hB _⟩
    · have e : m = a.length := by omega
      subst e
      have E : Hid (true = decide (a = b)) := Lib.hid <| by
       symm
       refine decide_eq_true ?_
       have := Hd.out
       rwa [List.take_length, List.take_of_length_le (by omega)] at this
      go_wp2_with fail
      go_ret
      exact ⟨retB E.out, hB⟩
 · have hl' : ((a.length : Int) != (b.length : Int)) = true := by simp; omega
   have E : Hid (false = decide (a = b)) := Lib.hid (decide_eq_false fun e => hl (by rw [e])).symm
   have hl3 := Lib.hid hl; clear hl
   go_enter Try.func86, Try.ntmps86
   go_wp2_with fail
   go_ret
   exact ⟨retB E.out, Below.refl _ _⟩
set_option maxRecDepth 100000 in
theorem same_big (x y : BigD) (vx vy : Value) (w : World) (hx : BigV w vx x) (hy : BigV w vy y) :
    Calls Try.prog 49 #[vx, vy] w fun e w' => e = .returned (B (sameB x y)) ∧ Below w.heap.size w w' := by
 obtain ⟨dx, rfl, ix⟩ := hx
 obtain ⟨dy, rfl, iy⟩ := hy
 obtain ⟨A, ca, rfl, hla, hca⟩ := ix.shape
 obtain ⟨B', cb, rfl, hlb, hcb⟩ := iy.shape
 obtain ⟨s, l⟩ := x
 obtain ⟨t, m⟩ := y
 simp only at *
 have HE := Lib.hid (fun W h1 h2 => equal_any (.slice A l.length ca) (.slice B' m.length cb) l m W h1 h2)
 by_cases hs : s = t
 · subst hs
   have hss : (s == s) = true := by simp
   go_enter Try.func49, Try.ntmps49
   go_wp2_with (go_at_call 86; refine (HE.out _ (ix.below RInt.mono (below2 _ _ _)) (iy.below RInt.mono (below2 _ _ _))).mono ?_; rintro e w1 ⟨rfl, hb1⟩)
   go_ret
   exact ⟨retB (by unfold sameB; rw [hss]; rfl), (below2 w _ _).trans (hb1.mono (below2 w _ _).size)⟩
 · have hss : (s == t) = false := by simpa using hs
   go_enter Try.func49, Try.ntmps49
   go_wp2_with fail
   go_ret
   exact ⟨retB (by unfold sameB; rw [hss]; rfl), below2 w _ _⟩
theorem ofZ_parts (a : Int) : (ofZ a).s = a.sign ∧ (ofZ a).d = digs a.natAbs := ⟨rfl, rfl⟩
theorem sgnd_neg (a : Int) : sgnd (-a.sign) (digs a.natAbs) = ofZ (-a) := by
 refine sgnd_digs _ ?_ ?_
 · have := Int.sign_mul_natAbs a; grind
 · rcases Int.lt_trichotomy a 0 with h | h | h
   · rw [Int.sign_eq_neg_one_of_neg h]; exact .inl rfl
   · subst h; right; right; rfl
   · rw [Int.sign_eq_one_of_pos h]; exact .inr (.inl rfl)
set_option maxRecDepth 100000 in
set_option maxHeartbeats 8000000 in
theorem Neg_ok (a : Int) (va : Value) (w : World) (ha : BigZ w va a) (la : (szZ a : Int) ≤ 4398046511104) : Calls Try.prog 70 #[va] w (RetBig w (ofZ (-a))) := by
 obtain ⟨da, rfl, ia⟩ := ha
 obtain ⟨A, ca, rfl, hla, hca⟩ := ia.shape
 have HA := Lib.hid (fun W h => right_ok a (.agg #[I (ofZ a).s, .slice A (ofZ a).d.length ca]) W h)
 obtain ⟨sba1, sba2⟩ := sign_bounds a
 have sbn : IntKind.i64.wrap (-a.sign) = -a.sign := IntWalk.i64_in _ (by omega)
 have Hia := Lib.hid ia
 have HS := Lib.hid (sgnd_neg a)
 have hsa : (ofZ a).s = a.sign := rfl
 have hda : (ofZ a).d = digs a.natAbs := rfl
 simp only [hsa, hda] at *
 clear hsa hda ia
 go_enter Try.func70, Try.ntmps70
 go_upto_region 3 with (go_at_call 72; fail)
 go_at_call 72
 refine (HA.out _ ⟨_, rfl, Hia.out.below RInt.mono (below2 _ _ _)⟩).mono ?_
 rintro e w1 ⟨rfl, hb1⟩
 obtain ⟨hs1, hb1', k0, k1⟩ := boxes2 hb1
 have K1 := Lib.hid k1
 obtain ⟨a0, a1, af⟩ := cells2 k0
 clear k0 k1
 have Hia1 := Lib.hid (Hia.out.below RInt.mono hb1')
 have hsz0 : w.heap.size < w1.heap.size := by omega
 go_upto_region 3 with fail
 refine wp_region_rel_seq 7 (by kernel_rfl) (by kernel_rfl) (by kernel_rfl) (by kernel_rfl) (by kernel_rfl) ?_
 simp only [List.take_succ_cons, List.take_zero]
 repeat (with_reducible apply rel_is
         · intro wx hx
           have hc := (bcell hx).2.1
           try simp only [List.nil_append, List.cons_append]
           repeat (first | with_reducible refine reads_is ?_ | (with_reducible refine reads_skip ?_ ?_; (· decide +kernel)))
           with_reducible refine reads_nil ?_
           go_simp
           exact ⟨Grows.refl _, rfl⟩)
 refine rel_of (fun W u => IntsAt W u (digs a.natAbs) ∧ Typed W u) (fun _ _ _ hg h => ⟨h.1.below RInt.mono hg, h.2.below hg⟩) ?_ ?_
 · intro wx hx
   have hc := (bcell hx).2.1
   try simp only [List.nil_append, List.cons_append]
   repeat (with_reducible refine reads_is ?_)
   with_reducible refine reads_nil ?_
   go_simp
   go_at_call 104
   refine (clone_any _ _ _ (Hia1.out.below RInt.mono hx) (by have := la; unfold szZ at this; omega)).mono ?_
   rintro e w3 ⟨v3, rfl, ho, hb3⟩
   exact ⟨_, rfl, hb3, ho.ints, ho.typed⟩
 refine rel_of (fun W u => BigF W u (ofZ (-a))) (BigF.mono _) ?_ ?_
 · intro wx hx
   have hc := (bcell hx).2.1
   try simp only [List.nil_append, List.cons_append]
   repeat (with_reducible refine reads_is ?_)
   (with_reducible refine reads_take ?_ ?_; (· decide +kernel))
   intro u12 hu12
   repeat (with_reducible refine reads_is ?_)
   with_reducible refine reads_nil ?_
   go_simp
   go_at_call 77
   refine (signed_any _ _ _ _ hu12.1 hu12.2).mono ?_
   rintro e w3 ⟨v3, rfl, ho, hb3⟩
   rw [HS.out] at ho
   exact ⟨_, rfl, hb3, ho⟩
 with_reducible refine rel_end ?_
 intro w6 hg6
 simp only [List.nil_append, List.cons_append]
 repeat (with_reducible refine final_is ?_)
 with_reducible refine final_of ?_
 intro u12 hu12
 repeat (with_reducible refine final_is ?_)
 with_reducible refine final_of ?_
 intro u13 hu13
 repeat (with_reducible refine final_is ?_)
 have kr6 := (hg6.block _ hs1).trans K1.out
 have Kr6 := Lib.hid kr6
 obtain ⟨r0, r1, rf⟩ := cells2 kr6
 have hu6 := Lib.hid hu13
 obtain ⟨d6, e6, hi6, hty6⟩ := hu13
 obtain ⟨A6, c6, e7, hl6, hc6⟩ := hi6.shape
 subst e7
 subst e6
 clear hi6 hty6 kr6
 with_reducible refine final_nil ?_
 simp only [List.drop_succ_cons, List.drop_zero]
 go_frame
 go_wp2_with fail
 exact end_cell rfl (by rfl) rfl (set2 Kr6.out _ _) Try.underlying26 rfl (by kernel_rfl) ⟨_, rfl, hu6.out.set2 Kr6.out (by decide), below_set2 (hb1'.trans (hg6.mono hb1'.size)) (by omega) _ _⟩
theorem sign_cases (a : Int) : (a < 0 ∧ a.sign = -1 ∧ (a.natAbs : Int) = -a) ∨ (a = 0 ∧ a.sign = 0 ∧ (a.natAbs : Int) = 0) ∨ (0 < a ∧ a.sign = 1 ∧ (a.natAbs : Int) = a) := by
 rcases Int.lt_trichotomy a 0 with h | h | h
 · exact .inl ⟨h, Int.sign_eq_neg_one_of_neg h, by omega⟩
 · subst h; exact .inr (.inl ⟨rfl, rfl, rfl⟩)
 · exact .inr (.inr ⟨h, Int.sign_eq_one_of_pos h, by omega⟩)
theorem sgnd_add {a b : Int} (h : 0 ≤ a.sign * b.sign) : sgnd (orI a.sign b.sign) (digs ((a.natAbs : Int) + b.natAbs).toNat) = ofZ (a + b) := by
 rcases sign_cases a with ⟨h1, h2, h3⟩ | ⟨h1, h2, h3⟩ | ⟨h1, h2, h3⟩ <;> rcases sign_cases b with ⟨k1, k2, k3⟩ | ⟨k1, k2, k3⟩ | ⟨k1, k2, k3⟩ <;> rw [h2, k2] at h ⊢ <;> first
  | (exfalso; revert h; decide)
  | (refine sgnd_digs _ ?_ ?_
     · rw [orI]; first | (rw [if_pos rfl]; omega) | (rw [if_neg (by decide)]; omega)
     · rw [orI]; first | (rw [if_pos rfl]; first | exact .inl rfl | exact .inr (.inl rfl) | (right; right; omega)) | (rw [if_neg (by decide)]; first | exact .inl rfl | exact .inr (.inl rfl)))
theorem sgnd_sub1 {a b : Int} (h : ¬ 0 ≤ a.sign * b.sign) (hlt : (a.natAbs : Int) < b.natAbs) : sgnd b.sign (digs (b.natAbs - a.natAbs)) = ofZ (a + b) := by
 rcases sign_cases a with ⟨h1, h2, h3⟩ | ⟨h1, h2, h3⟩ | ⟨h1, h2, h3⟩ <;> rcases sign_cases b with ⟨k1, k2, k3⟩ | ⟨k1, k2, k3⟩ | ⟨k1, k2, k3⟩ <;> rw [h2, k2] at h <;> rw [k2] <;> first
  | (exfalso; revert h; decide)
  | (refine sgnd_digs _ (by omega) ?_; first | exact .inl rfl | exact .inr (.inl rfl))
theorem sgnd_sub2 {a b : Int} (h : ¬ 0 ≤ a.sign * b.sign) (hlt : ¬ (a.natAbs : Int) < b.natAbs) : sgnd a.sign (digs (a.natAbs - b.natAbs)) = ofZ (a + b) := by
 rcases sign_cases a with ⟨h1, h2, h3⟩ | ⟨h1, h2, h3⟩ | ⟨h1, h2, h3⟩ <;> rcases sign_cases b with ⟨k1, k2, k3⟩ | ⟨k1, k2, k3⟩ | ⟨k1, k2, k3⟩ <;> rw [h2, k2] at h <;> rw [h2] <;> first
  | (exfalso; revert h; decide)
  | (refine sgnd_digs _ (by omega) ?_; first | exact .inl rfl | exact .inr (.inl rfl))
theorem ints2 (w : World) (x y : Int) : IntsAt (w.alloc (.cells #[I x, I y] 3)) (.slice (some ⟨w.heap.size, 0, none⟩) 2 2) [x, y] := by
 refine IArr.all (base := 0) (o := [x, y]) ?_ (Nat.zero_le _) (by unfold maxLen; simp)
 unfold IArr
 rw [heap_alloc_new]; rfl
set_option maxRecDepth 100000 in
set_option maxHeartbeats 8000000 in
theorem Add_pos (a b : Int) (va vb : Value) (w : World) (ha : BigZ w va a) (hb : BigZ w vb b) (la : (szZ a : Int) ≤ 4398046511104) (lb : (szZ b : Int) ≤ 4398046511104) (hs : 0 ≤ a.sign * b.sign) :
    Calls Try.prog 48 #[va, vb] w (RetBigE w (ofZ (a + b)) 0) := by
 obtain ⟨da, rfl, ia⟩ := ha
 obtain ⟨db, rfl, ib⟩ := hb
 obtain ⟨A, ca, rfl, hla, hca⟩ := ia.shape
 obtain ⟨B', cb, rfl, hlb, hcb⟩ := ib.shape
 obtain ⟨sb1, sb2⟩ := sign_mul_bounds a b
 obtain ⟨sba1, sba2⟩ := sign_bounds a
 obtain ⟨sbb1, sbb2⟩ := sign_bounds b
 have sbw : IntKind.i64.wrap (a.sign * b.sign) = a.sign * b.sign := IntWalk.i64_in _ (by omega)
 have HA := Lib.hid (fun W h => right_ok a (.agg #[I (ofZ a).s, .slice A (ofZ a).d.length ca]) W h)
 have HB := Lib.hid (fun W h => right_ok b (.agg #[I (ofZ b).s, .slice B' (ofZ b).d.length cb]) W h)
 have Hia := Lib.hid ia
 have Hib := Lib.hid ib
 have hd := fun W h1 h2 => add_any (.slice A (ofZ a).d.length ca) (.slice B' (ofZ b).d.length cb) (ofZ a).d (ofZ b).d W h1 h2 (norm_digs a.natAbs).1 (norm_digs b.natAbs).1 (by rw [szB_ofZ]; omega) (by rw [szB_ofZ]; omega)
 rw [(ofZ_parts a).2, (ofZ_parts b).2, val_digs, val_digs] at hd
 have HD := Lib.hid hd; clear hd
 have HS := Lib.hid (sgnd_add hs)
 have hsa : (ofZ a).s = a.sign := rfl
 have hsb : (ofZ b).s = b.sign := rfl
 have hda : (ofZ a).d = digs a.natAbs := rfl
 have hdb : (ofZ b).d = digs b.natAbs := rfl
 simp only [hsa, hsb, hda, hdb] at *
 clear hsa hsb hda hdb ia ib
 go_enter Try.func48, Try.ntmps48
 go_upto_region 3 with (go_at_call 72; fail)
 go_at_call 72
 refine (HA.out _ ⟨_, rfl, Hia.out.below RInt.mono (below3 _ _ _ _)⟩).mono ?_
 rintro e w1 ⟨rfl, hb1⟩
 obtain ⟨hs1, hb1', k0, k1, k2⟩ := boxes3 hb1
 have hk1 := cells2 k0
 have hk2 := cells2 k1
 go_upto_region 3 with (go_at_call 72; fail)
 go_at_call 72
 refine (HB.out _ ⟨_, rfl, Hib.out.below RInt.mono hb1'⟩).mono ?_
 rintro e w2 ⟨rfl, hb2⟩
 have hb12 := hb1.trans (hb2.mono hb1.size)
 clear hs1 hb1' hk1 hk2 k0 k1 k2
 obtain ⟨hs2, hb2', k0, k1, k2⟩ := boxes3 hb12
 have Hia2 := Lib.hid (Hia.out.below RInt.mono hb2')
 have Hib2 := Lib.hid (Hib.out.below RInt.mono hb2')
 obtain ⟨a0, a1, af⟩ := cells2 k0
 obtain ⟨b0, b1, bf⟩ := cells2 k1
 have hsz0 : w.heap.size < w2.heap.size := by omega
 have hsz1 : w.heap.size + 1 < w2.heap.size := by omega
 have Kr := Lib.hid k2
 clear k0 k1 k2
 go_upto_region 4 with fail
 refine wp_region_rel_seq 15 (by kernel_rfl) (by kernel_rfl) (by kernel_rfl) (by kernel_rfl) (by kernel_rfl) ?_
 simp only [List.take_succ_cons, List.take_zero]
 repeat (with_reducible apply rel_is
         · intro wx hx
           have hc := (bcell hx).2.1
           try simp only [List.nil_append, List.cons_append]
           repeat (first | with_reducible refine reads_is ?_ | (with_reducible refine reads_skip ?_ ?_; (· decide +kernel)))
           with_reducible refine reads_nil ?_
           go_simp
           exact ⟨Grows.refl _, rfl⟩)
 refine rel_of (fun W u => IntsAt W u [a.sign, b.sign]) (fun _ _ _ hg h => h.below RInt.mono hg) ?_ ?_
 · intro wx hx
   have hc := (bcell hx).2.1
   try simp only [List.nil_append, List.cons_append]
   repeat (with_reducible refine reads_is ?_)
   with_reducible refine reads_nil ?_
   go_simp
   first | exact ⟨below_alloc _ _, ints2 _ _ _⟩ | exact ints2 _ _ _ | trace_state
 apply rel_is (v := I (orI a.sign b.sign))
 · intro wx hx
   have hc := (bcell hx).2.1
   try simp only [List.nil_append, List.cons_append]
   repeat (with_reducible refine reads_is ?_)
   (with_reducible refine reads_take ?_ ?_; (· decide +kernel))
   intro u29 hu29
   repeat (with_reducible refine reads_is ?_)
   with_reducible refine reads_nil ?_
   go_simp
   go_at_call 83
   exact (or_any _ _ _ _ hu29).mono fun _ _ h => ⟨h.1, h.2 ▸ Grows.refl _⟩
 repeat (with_reducible apply rel_is
         · intro wx hx
           have hc := (bcell hx).2.1
           try simp only [List.nil_append, List.cons_append]
           repeat (first | with_reducible refine reads_is ?_ | (with_reducible refine reads_skip ?_ ?_; (· decide +kernel)))
           with_reducible refine reads_nil ?_
           go_simp
           exact ⟨Grows.refl _, rfl⟩)
 refine rel_of (fun W u => IntsAt W u (digs ((a.natAbs : Int) + b.natAbs).toNat) ∧ Typed W u) (fun _ _ _ hg h => ⟨h.1.below RInt.mono hg, h.2.below hg⟩) ?_ ?_
 · intro wx hx
   have hc := (bcell hx).2.1
   try simp only [List.nil_append, List.cons_append]
   repeat (with_reducible refine reads_is ?_)
   (with_reducible refine reads_skip ?_ ?_; (· decide +kernel))
   repeat (with_reducible refine reads_is ?_)
   with_reducible refine reads_nil ?_
   go_simp
   go_at_call 84
   refine (HD.out _ (Hia2.out.below RInt.mono hx) (Hib2.out.below RInt.mono hx)).mono ?_
   rintro e w3 ⟨v3, rfl, ho, hb3⟩
   exact ⟨_, rfl, hb3, ho.ints, ho.typed⟩
 refine rel_of (fun W u => BigF W u (ofZ (a + b))) (BigF.mono _) ?_ ?_
 · intro wx hx
   have hc := (bcell hx).2.1
   try simp only [List.nil_append, List.cons_append]
   repeat (with_reducible refine reads_is ?_)
   (with_reducible refine reads_skip ?_ ?_; (· decide +kernel))
   repeat (with_reducible refine reads_is ?_)
   (with_reducible refine reads_take ?_ ?_; (· decide +kernel))
   intro u35 hu35
   repeat (with_reducible refine reads_is ?_)
   with_reducible refine reads_nil ?_
   go_simp
   go_at_call 77
   refine (signed_any _ _ _ _ hu35.1 hu35.2).mono ?_
   rintro e w3 ⟨v3, rfl, ho, hb3⟩
   rw [HS.out] at ho
   exact ⟨_, rfl, hb3, ho⟩
 refine rel_of (fun W u => BigE W u (ofZ (a + b)) 0) (BigE.mono _ _) ?_ ?_
 · intro wx hx
   have hc := (bcell hx).2.1
   try simp only [List.nil_append, List.cons_append]
   repeat (with_reducible refine reads_is ?_)
   (with_reducible refine reads_skip ?_ ?_; (· decide +kernel))
   repeat (with_reducible refine reads_is ?_)
   (with_reducible refine reads_skip ?_ ?_; (· decide +kernel))
   repeat (with_reducible refine reads_is ?_)
   (with_reducible refine reads_take ?_ ?_; (· decide +kernel))
   intro u36 hu36
   repeat (with_reducible refine reads_is ?_)
   with_reducible refine reads_nil ?_
   go_simp
   go_at_call 82
   refine (checked_yes _ _ _ hu36).mono ?_
   rintro e w3 ⟨v3, rfl, ho, hb3⟩
   exact ⟨_, rfl, hb3, ho⟩
 refine rel_of (fun W u => BigF W u (ofZ (a + b))) (BigF.mono _) ?_ ?_
 · intro wx hx
   have hc := (bcell hx).2.1
   try simp only [List.nil_append, List.cons_append]
   repeat (with_reducible refine reads_is ?_)
   (with_reducible refine reads_skip ?_ ?_; (· decide +kernel))
   repeat (with_reducible refine reads_is ?_)
   (with_reducible refine reads_skip ?_ ?_; (· decide +kernel))
   repeat (with_reducible refine reads_is ?_)
   (with_reducible refine reads_skip ?_ ?_; (· decide +kernel))
   repeat (with_reducible refine reads_is ?_)
   (with_reducible refine reads_take ?_ ?_; (· decide +kernel))
   intro u37 hu37
   repeat (with_reducible refine reads_is ?_)
   obtain ⟨u1, he, hu1⟩ := hu37
   with_reducible refine reads_nil ?_
   go_simp
   (first | exact ⟨Grows.refl _, hu1⟩ | exact Grows.refl _)
 apply rel_is (v := I 0)
 · intro wx hx
   have hc := (bcell hx).2.1
   try simp only [List.nil_append, List.cons_append]
   repeat (with_reducible refine reads_is ?_)
   (with_reducible refine reads_skip ?_ ?_; (· decide +kernel))
   repeat (with_reducible refine reads_is ?_)
   (with_reducible refine reads_skip ?_ ?_; (· decide +kernel))
   repeat (with_reducible refine reads_is ?_)
   (with_reducible refine reads_skip ?_ ?_; (· decide +kernel))
   repeat (with_reducible refine reads_is ?_)
   (with_reducible refine reads_take ?_ ?_; (· decide +kernel))
   intro u37 hu37
   repeat (with_reducible refine reads_is ?_)
   (with_reducible refine reads_skip ?_ ?_; (· decide +kernel))
   repeat (with_reducible refine reads_is ?_)
   obtain ⟨u1, he, hu1⟩ := hu37
   with_reducible refine reads_nil ?_
   go_simp
   (first | exact ⟨Grows.refl _, rfl⟩ | exact Grows.refl _)
 with_reducible refine rel_end ?_
 intro w6 hg6
 simp only [List.nil_append, List.cons_append]
 repeat (with_reducible refine final_is ?_)
 with_reducible refine final_of ?_
 intro u29 hu29
 repeat (with_reducible refine final_is ?_)
 with_reducible refine final_of ?_
 intro u35 hu35
 repeat (with_reducible refine final_is ?_)
 with_reducible refine final_of ?_
 intro u36 hu36
 repeat (with_reducible refine final_is ?_)
 with_reducible refine final_of ?_
 intro u37 hu37
 repeat (with_reducible refine final_is ?_)
 with_reducible refine final_of ?_
 intro u38 hu38
 repeat (with_reducible refine final_is ?_)
 have kr6 := (hg6.block _ hs2).trans Kr.out
 have Kr6 := Lib.hid kr6
 obtain ⟨r0, r1, rf⟩ := cells2 kr6
 have hu6 := Lib.hid hu38
 obtain ⟨d6, e6, hi6, hty6⟩ := hu38
 obtain ⟨A6, c6, e7, hl6, hc6⟩ := hi6.shape
 subst e7
 subst e6
 clear hi6 hty6 kr6
 with_reducible refine final_nil ?_
 simp only [List.drop_succ_cons, List.drop_zero]
 go_frame
 go_wp2_with fail
 exact end_cell_tmp rfl (by rfl) (by rfl) rfl (set2 Kr6.out _ _) Try.underlying26 rfl (by kernel_rfl) ⟨_, rfl, ⟨_, rfl, hu6.out.set2 Kr6.out (by decide)⟩, below_set2 (hb2'.trans (hg6.mono hb2'.size)) (by omega) _ _⟩
set_option maxRecDepth 100000 in
set_option maxHeartbeats 8000000 in
theorem Add_less (a b : Int) (va vb : Value) (w : World) (ha : BigZ w va a) (hb : BigZ w vb b) (la : (szZ a : Int) ≤ 4398046511104) (lb : (szZ b : Int) ≤ 4398046511104) (hs : ¬ 0 ≤ a.sign * b.sign) (hlt : (a.natAbs : Int) < b.natAbs) :
    Calls Try.prog 48 #[va, vb] w (RetBigE w (ofZ (a + b)) 0) := by
 obtain ⟨da, rfl, ia⟩ := ha
 obtain ⟨db, rfl, ib⟩ := hb
 obtain ⟨A, ca, rfl, hla, hca⟩ := ia.shape
 obtain ⟨B', cb, rfl, hlb, hcb⟩ := ib.shape
 obtain ⟨sb1, sb2⟩ := sign_mul_bounds a b
 obtain ⟨sba1, sba2⟩ := sign_bounds a
 obtain ⟨sbb1, sbb2⟩ := sign_bounds b
 have sbw : IntKind.i64.wrap (a.sign * b.sign) = a.sign * b.sign := IntWalk.i64_in _ (by omega)
 have HA := Lib.hid (fun W h => right_ok a (.agg #[I (ofZ a).s, .slice A (ofZ a).d.length ca]) W h)
 have HB := Lib.hid (fun W h => right_ok b (.agg #[I (ofZ b).s, .slice B' (ofZ b).d.length cb]) W h)
 have Hia := Lib.hid ia
 have Hib := Lib.hid ib
 have hc := fun W h1 h2 => compare_any (.slice A (ofZ a).d.length ca) (.slice B' (ofZ b).d.length cb) (ofZ a).d (ofZ b).d W h1 h2 (norm_digs a.natAbs) (norm_digs b.natAbs)
 rw [(ofZ_parts a).2, (ofZ_parts b).2, val_digs, val_digs, sign_lt hlt] at hc
 have HC := Lib.hid hc; clear hc
 have hd := fun W h1 h2 => sub_any (.slice B' (ofZ b).d.length cb) (.slice A (ofZ a).d.length ca) (ofZ b).d (ofZ a).d W h1 h2 (norm_digs b.natAbs).1 (norm_digs a.natAbs).1 (by rw [szB_ofZ, szB_ofZ]; exact szZ_mono (by omega)) (by rw [(ofZ_parts a).2, (ofZ_parts b).2, val_digs, val_digs]; omega) (by rw [szB_ofZ]; omega)
 rw [(ofZ_parts a).2, (ofZ_parts b).2, val_digs, val_digs, show ((b.natAbs : Int) - a.natAbs).toNat = b.natAbs - a.natAbs by omega] at hd
 have HD := Lib.hid hd; clear hd
 have HS := Lib.hid (sgnd_sub1 hs hlt)
 have hsa : (ofZ a).s = a.sign := rfl
 have hsb : (ofZ b).s = b.sign := rfl
 have hda : (ofZ a).d = digs a.natAbs := rfl
 have hdb : (ofZ b).d = digs b.natAbs := rfl
 simp only [hsa, hsb, hda, hdb] at *
 clear hsa hsb hda hdb ia ib
 go_enter Try.func48, Try.ntmps48
 go_upto_region 3 with (go_at_call 72; fail)
 go_at_call 72
 refine (HA.out _ ⟨_, rfl, Hia.out.below RInt.mono (below3 _ _ _ _)⟩).mono ?_
 rintro e w1 ⟨rfl, hb1⟩
 obtain ⟨hs1, hb1', k0, k1, k2⟩ := boxes3 hb1
 have hk1 := cells2 k0
 have hk2 := cells2 k1
 go_upto_region 3 with (go_at_call 72; fail)
 go_at_call 72
 refine (HB.out _ ⟨_, rfl, Hib.out.below RInt.mono hb1'⟩).mono ?_
 rintro e w2 ⟨rfl, hb2⟩
 have hb12 := hb1.trans (hb2.mono hb1.size)
 clear hs1 hb1' hk1 hk2 k0 k1 k2
 obtain ⟨hs2, hb2', k0, k1, k2⟩ := boxes3 hb12
 have Hia2 := Lib.hid (Hia.out.below RInt.mono hb2')
 have Hib2 := Lib.hid (Hib.out.below RInt.mono hb2')
 obtain ⟨a0, a1, af⟩ := cells2 k0
 obtain ⟨b0, b1, bf⟩ := cells2 k1
 have hsz0 : w.heap.size < w2.heap.size := by omega
 have hsz1 : w.heap.size + 1 < w2.heap.size := by omega
 have Kr := Lib.hid k2
 clear k0 k1 k2
 go_upto_region 6 with (go_at_call 81; fail)
 go_at_call 81
 refine (HC.out _ Hia2.out Hib2.out).mono ?_
 rintro e wc ⟨rfl, hbc⟩
 have hcc := bcell hbc
 have a0 := (hbc.cell (p := ⟨w.heap.size, 0, none⟩) hsz0).trans a0
 have a1 := (hbc.cell (p := ⟨w.heap.size, 1, none⟩) hsz0).trans a1
 have b0 := (hbc.cell (p := ⟨w.heap.size + 1, 0, none⟩) hsz1).trans b0
 have b1 := (hbc.cell (p := ⟨w.heap.size + 1, 1, none⟩) hsz1).trans b1
 have hsz0 : w.heap.size < wc.heap.size := by have := hbc.size; omega
 have hsz1 : w.heap.size + 1 < wc.heap.size := by have := hbc.size; omega
 have Kr := Lib.hid ((hbc.block _ hs2).trans Kr.out)
 have hs2 : w.heap.size + 2 < wc.heap.size := by have := hbc.size; omega
 have Hia2 := Lib.hid (Hia2.out.below RInt.mono hbc)
 have Hib2 := Lib.hid (Hib2.out.below RInt.mono hbc)
 have hb2' := hb2'.trans (hbc.mono hb2'.size)
 go_upto_region 6 with fail
 refine wp_region_rel_seq 11 (by kernel_rfl) (by kernel_rfl) (by kernel_rfl) (by kernel_rfl) (by kernel_rfl) ?_
 simp only [List.take_succ_cons, List.take_zero]
 repeat (with_reducible apply rel_is
         · intro wx hx
           have hc := (bcell hx).2.1
           try simp only [List.nil_append, List.cons_append]
           repeat (first | with_reducible refine reads_is ?_ | (with_reducible refine reads_skip ?_ ?_; (· decide +kernel)))
           with_reducible refine reads_nil ?_
           go_simp
           exact ⟨Grows.refl _, rfl⟩)
 refine rel_of (fun W u => IntsAt W u (digs (b.natAbs - a.natAbs)) ∧ Typed W u) (fun _ _ _ hg h => ⟨h.1.below RInt.mono hg, h.2.below hg⟩) ?_ ?_
 · intro wx hx
   have hc := (bcell hx).2.1
   try simp only [List.nil_append, List.cons_append]
   repeat (with_reducible refine reads_is ?_)
   with_reducible refine reads_nil ?_
   go_simp
   go_at_call 85
   refine (HD.out _ (Hib2.out.below RInt.mono hx) (Hia2.out.below RInt.mono hx)).mono ?_
   rintro e w3 ⟨v3, rfl, ho, hb3⟩
   exact ⟨_, rfl, hb3, ho.ints, ho.typed⟩
 refine rel_of (fun W u => BigF W u (ofZ (a + b))) (BigF.mono _) ?_ ?_
 · intro wx hx
   have hc := (bcell hx).2.1
   try simp only [List.nil_append, List.cons_append]
   repeat (with_reducible refine reads_is ?_)
   (with_reducible refine reads_take ?_ ?_; (· decide +kernel))
   intro u53 hu53
   repeat (with_reducible refine reads_is ?_)
   with_reducible refine reads_nil ?_
   go_simp
   go_at_call 77
   refine (signed_any _ _ _ _ hu53.1 hu53.2).mono ?_
   rintro e w3 ⟨v3, rfl, ho, hb3⟩
   rw [HS.out] at ho
   exact ⟨_, rfl, hb3, ho⟩
 refine rel_of (fun W u => BigE W u (ofZ (a + b)) 0) (BigE.mono _ _) ?_ ?_
 · intro wx hx
   have hc := (bcell hx).2.1
   try simp only [List.nil_append, List.cons_append]
   repeat (with_reducible refine reads_is ?_)
   (with_reducible refine reads_skip ?_ ?_; (· decide +kernel))
   repeat (with_reducible refine reads_is ?_)
   (with_reducible refine reads_take ?_ ?_; (· decide +kernel))
   intro u54 hu54
   repeat (with_reducible refine reads_is ?_)
   with_reducible refine reads_nil ?_
   go_simp
   go_at_call 82
   refine (checked_yes _ _ _ hu54).mono ?_
   rintro e w3 ⟨v3, rfl, ho, hb3⟩
   exact ⟨_, rfl, hb3, ho⟩
 refine rel_of (fun W u => BigF W u (ofZ (a + b))) (BigF.mono _) ?_ ?_
 · intro wx hx
   have hc := (bcell hx).2.1
   try simp only [List.nil_append, List.cons_append]
   repeat (with_reducible refine reads_is ?_)
   (with_reducible refine reads_skip ?_ ?_; (· decide +kernel))
   repeat (with_reducible refine reads_is ?_)
   (with_reducible refine reads_skip ?_ ?_; (· decide +kernel))
   repeat (with_reducible refine reads_is ?_)
   (with_reducible refine reads_take ?_ ?_; (· decide +kernel))
   intro u55 hu55
   repeat (with_reducible refine reads_is ?_)
   obtain ⟨u1, he, hu1⟩ := hu55
   with_reducible refine reads_nil ?_
   go_simp
   (first | exact ⟨Grows.refl _, hu1⟩ | exact Grows.refl _)
 apply rel_is (v := I 0)
 · intro wx hx
   have hc := (bcell hx).2.1
   try simp only [List.nil_append, List.cons_append]
   repeat (with_reducible refine reads_is ?_)
   (with_reducible refine reads_skip ?_ ?_; (· decide +kernel))
   repeat (with_reducible refine reads_is ?_)
   (with_reducible refine reads_skip ?_ ?_; (· decide +kernel))
   repeat (with_reducible refine reads_is ?_)
   (with_reducible refine reads_take ?_ ?_; (· decide +kernel))
   intro u55 hu55
   repeat (with_reducible refine reads_is ?_)
   (with_reducible refine reads_skip ?_ ?_; (· decide +kernel))
   repeat (with_reducible refine reads_is ?_)
   obtain ⟨u1, he, hu1⟩ := hu55
   with_reducible refine reads_nil ?_
   go_simp
   (first | exact ⟨Grows.refl _, rfl⟩ | exact Grows.refl _)
 with_reducible refine rel_end ?_
 intro w6 hg6
 simp only [List.nil_append, List.cons_append]
 repeat (with_reducible refine final_is ?_)
 with_reducible refine final_of ?_
 intro u53 hu53
 repeat (with_reducible refine final_is ?_)
 with_reducible refine final_of ?_
 intro u54 hu54
 repeat (with_reducible refine final_is ?_)
 with_reducible refine final_of ?_
 intro u55 hu55
 repeat (with_reducible refine final_is ?_)
 with_reducible refine final_of ?_
 intro u56 hu56
 repeat (with_reducible refine final_is ?_)
 have kr6 := (hg6.block _ hs2).trans Kr.out
 have Kr6 := Lib.hid kr6
 obtain ⟨r0, r1, rf⟩ := cells2 kr6
 have hu6 := Lib.hid hu56
 obtain ⟨d6, e6, hi6, hty6⟩ := hu56
 obtain ⟨A6, c6, e7, hl6, hc6⟩ := hi6.shape
 subst e7
 subst e6
 clear hi6 hty6 kr6
 with_reducible refine final_nil ?_
 simp only [List.drop_succ_cons, List.drop_zero]
 go_frame
 go_wp2_with fail
 exact end_cell_tmp rfl (by rfl) (by rfl) rfl (set2 Kr6.out _ _) Try.underlying26 rfl (by kernel_rfl) ⟨_, rfl, ⟨_, rfl, hu6.out.set2 Kr6.out (by decide)⟩, below_set2 (hb2'.trans (hg6.mono hb2'.size)) (by omega) _ _⟩
set_option maxRecDepth 100000 in
set_option maxHeartbeats 8000000 in
theorem Add_ge (a b : Int) (va vb : Value) (w : World) (ha : BigZ w va a) (hb : BigZ w vb b) (la : (szZ a : Int) ≤ 4398046511104) (lb : (szZ b : Int) ≤ 4398046511104) (hs : ¬ 0 ≤ a.sign * b.sign) (hlt : ¬ (a.natAbs : Int) < b.natAbs) :
    Calls Try.prog 48 #[va, vb] w (RetBigE w (ofZ (a + b)) 0) := by
 obtain ⟨da, rfl, ia⟩ := ha
 obtain ⟨db, rfl, ib⟩ := hb
 obtain ⟨A, ca, rfl, hla, hca⟩ := ia.shape
 obtain ⟨B', cb, rfl, hlb, hcb⟩ := ib.shape
 obtain ⟨sb1, sb2⟩ := sign_mul_bounds a b
 obtain ⟨sba1, sba2⟩ := sign_bounds a
 obtain ⟨sbb1, sbb2⟩ := sign_bounds b
 have sbw : IntKind.i64.wrap (a.sign * b.sign) = a.sign * b.sign := IntWalk.i64_in _ (by omega)
 have HA := Lib.hid (fun W h => right_ok a (.agg #[I (ofZ a).s, .slice A (ofZ a).d.length ca]) W h)
 have HB := Lib.hid (fun W h => right_ok b (.agg #[I (ofZ b).s, .slice B' (ofZ b).d.length cb]) W h)
 have Hia := Lib.hid ia
 have Hib := Lib.hid ib
 have hc := fun W h1 h2 => compare_any (.slice A (ofZ a).d.length ca) (.slice B' (ofZ b).d.length cb) (ofZ a).d (ofZ b).d W h1 h2 (norm_digs a.natAbs) (norm_digs b.natAbs)
 rw [(ofZ_parts a).2, (ofZ_parts b).2, val_digs, val_digs] at hc
 have hsg := sign_nn (x := (a.natAbs : Int) - b.natAbs) (by omega)
 generalize ((a.natAbs : Int) - b.natAbs).sign = sg at hc hsg
 have HC := Lib.hid hc; clear hc
 have hd := fun W h1 h2 => sub_any (.slice A (ofZ a).d.length ca) (.slice B' (ofZ b).d.length cb) (ofZ a).d (ofZ b).d W h1 h2 (norm_digs a.natAbs).1 (norm_digs b.natAbs).1 (by rw [szB_ofZ, szB_ofZ]; exact szZ_mono (by omega)) (by rw [(ofZ_parts a).2, (ofZ_parts b).2, val_digs, val_digs]; omega) (by rw [szB_ofZ]; omega)
 rw [(ofZ_parts a).2, (ofZ_parts b).2, val_digs, val_digs, show ((a.natAbs : Int) - b.natAbs).toNat = a.natAbs - b.natAbs by omega] at hd
 have HD := Lib.hid hd; clear hd
 have HS := Lib.hid (sgnd_sub2 hs hlt)
 have hsa : (ofZ a).s = a.sign := rfl
 have hsb : (ofZ b).s = b.sign := rfl
 have hda : (ofZ a).d = digs a.natAbs := rfl
 have hdb : (ofZ b).d = digs b.natAbs := rfl
 simp only [hsa, hsb, hda, hdb] at *
 clear hsa hsb hda hdb ia ib
 go_enter Try.func48, Try.ntmps48
 go_upto_region 3 with (go_at_call 72; fail)
 go_at_call 72
 refine (HA.out _ ⟨_, rfl, Hia.out.below RInt.mono (below3 _ _ _ _)⟩).mono ?_
 rintro e w1 ⟨rfl, hb1⟩
 obtain ⟨hs1, hb1', k0, k1, k2⟩ := boxes3 hb1
 have hk1 := cells2 k0
 have hk2 := cells2 k1
 go_upto_region 3 with (go_at_call 72; fail)
 go_at_call 72
 refine (HB.out _ ⟨_, rfl, Hib.out.below RInt.mono hb1'⟩).mono ?_
 rintro e w2 ⟨rfl, hb2⟩
 have hb12 := hb1.trans (hb2.mono hb1.size)
 clear hs1 hb1' hk1 hk2 k0 k1 k2
 obtain ⟨hs2, hb2', k0, k1, k2⟩ := boxes3 hb12
 have Hia2 := Lib.hid (Hia.out.below RInt.mono hb2')
 have Hib2 := Lib.hid (Hib.out.below RInt.mono hb2')
 obtain ⟨a0, a1, af⟩ := cells2 k0
 obtain ⟨b0, b1, bf⟩ := cells2 k1
 have hsz0 : w.heap.size < w2.heap.size := by omega
 have hsz1 : w.heap.size + 1 < w2.heap.size := by omega
 have Kr := Lib.hid k2
 clear k0 k1 k2
 go_upto_region 7 with (go_at_call 81; fail)
 go_at_call 81
 refine (HC.out _ Hia2.out Hib2.out).mono ?_
 rintro e wc ⟨rfl, hbc⟩
 have hcc := bcell hbc
 have a0 := (hbc.cell (p := ⟨w.heap.size, 0, none⟩) hsz0).trans a0
 have a1 := (hbc.cell (p := ⟨w.heap.size, 1, none⟩) hsz0).trans a1
 have b0 := (hbc.cell (p := ⟨w.heap.size + 1, 0, none⟩) hsz1).trans b0
 have b1 := (hbc.cell (p := ⟨w.heap.size + 1, 1, none⟩) hsz1).trans b1
 have hsz0 : w.heap.size < wc.heap.size := by have := hbc.size; omega
 have hsz1 : w.heap.size + 1 < wc.heap.size := by have := hbc.size; omega
 have Kr := Lib.hid ((hbc.block _ hs2).trans Kr.out)
 have hs2 : w.heap.size + 2 < wc.heap.size := by have := hbc.size; omega
 have Hia2 := Lib.hid (Hia2.out.below RInt.mono hbc)
 have Hib2 := Lib.hid (Hib2.out.below RInt.mono hbc)
 have hb2' := hb2'.trans (hbc.mono hb2'.size)
 go_upto_region 7 with fail
 refine wp_region_rel_seq 11 (by kernel_rfl) (by kernel_rfl) (by kernel_rfl) (by kernel_rfl) (by kernel_rfl) ?_
 simp only [List.take_succ_cons, List.take_zero]
 repeat (with_reducible apply rel_is
         · intro wx hx
           have hc := (bcell hx).2.1
           try simp only [List.nil_append, List.cons_append]
           repeat (first | with_reducible refine reads_is ?_ | (with_reducible refine reads_skip ?_ ?_; (· decide +kernel)))
           with_reducible refine reads_nil ?_
           go_simp
           exact ⟨Grows.refl _, rfl⟩)
 refine rel_of (fun W u => IntsAt W u (digs (a.natAbs - b.natAbs)) ∧ Typed W u) (fun _ _ _ hg h => ⟨h.1.below RInt.mono hg, h.2.below hg⟩) ?_ ?_
 · intro wx hx
   have hc := (bcell hx).2.1
   try simp only [List.nil_append, List.cons_append]
   repeat (with_reducible refine reads_is ?_)
   with_reducible refine reads_nil ?_
   go_simp
   go_at_call 85
   refine (HD.out _ (Hia2.out.below RInt.mono hx) (Hib2.out.below RInt.mono hx)).mono ?_
   rintro e w3 ⟨v3, rfl, ho, hb3⟩
   exact ⟨_, rfl, hb3, ho.ints, ho.typed⟩
 refine rel_of (fun W u => BigF W u (ofZ (a + b))) (BigF.mono _) ?_ ?_
 · intro wx hx
   have hc := (bcell hx).2.1
   try simp only [List.nil_append, List.cons_append]
   repeat (with_reducible refine reads_is ?_)
   (with_reducible refine reads_take ?_ ?_; (· decide +kernel))
   intro u64 hu64
   repeat (with_reducible refine reads_is ?_)
   with_reducible refine reads_nil ?_
   go_simp
   go_at_call 77
   refine (signed_any _ _ _ _ hu64.1 hu64.2).mono ?_
   rintro e w3 ⟨v3, rfl, ho, hb3⟩
   rw [HS.out] at ho
   exact ⟨_, rfl, hb3, ho⟩
 refine rel_of (fun W u => BigE W u (ofZ (a + b)) 0) (BigE.mono _ _) ?_ ?_
 · intro wx hx
   have hc := (bcell hx).2.1
   try simp only [List.nil_append, List.cons_append]
   repeat (with_reducible refine reads_is ?_)
   (with_reducible refine reads_skip ?_ ?_; (· decide +kernel))
   repeat (with_reducible refine reads_is ?_)
   (with_reducible refine reads_take ?_ ?_; (· decide +kernel))
   intro u65 hu65
   repeat (with_reducible refine reads_is ?_)
   with_reducible refine reads_nil ?_
   go_simp
   go_at_call 82
   refine (checked_yes _ _ _ hu65).mono ?_
   rintro e w3 ⟨v3, rfl, ho, hb3⟩
   exact ⟨_, rfl, hb3, ho⟩
 refine rel_of (fun W u => BigF W u (ofZ (a + b))) (BigF.mono _) ?_ ?_
 · intro wx hx
   have hc := (bcell hx).2.1
   try simp only [List.nil_append, List.cons_append]
   repeat (with_reducible refine reads_is ?_)
   (with_reducible refine reads_skip ?_ ?_; (· decide +kernel))
   repeat (with_reducible refine reads_is ?_)
   (with_reducible refine reads_skip ?_ ?_; (· decide +kernel))
   repeat (with_reducible refine reads_is ?_)
   (with_reducible refine reads_take ?_ ?_; (· decide +kernel))
   intro u66 hu66
   repeat (with_reducible refine reads_is ?_)
   obtain ⟨u1, he, hu1⟩ := hu66
   with_reducible refine reads_nil ?_
   go_simp
   (first | exact ⟨Grows.refl _, hu1⟩ | exact Grows.refl _)
 apply rel_is (v := I 0)
 · intro wx hx
   have hc := (bcell hx).2.1
   try simp only [List.nil_append, List.cons_append]
   repeat (with_reducible refine reads_is ?_)
   (with_reducible refine reads_skip ?_ ?_; (· decide +kernel))
   repeat (with_reducible refine reads_is ?_)
   (with_reducible refine reads_skip ?_ ?_; (· decide +kernel))
   repeat (with_reducible refine reads_is ?_)
   (with_reducible refine reads_take ?_ ?_; (· decide +kernel))
   intro u66 hu66
   repeat (with_reducible refine reads_is ?_)
   (with_reducible refine reads_skip ?_ ?_; (· decide +kernel))
   repeat (with_reducible refine reads_is ?_)
   obtain ⟨u1, he, hu1⟩ := hu66
   with_reducible refine reads_nil ?_
   go_simp
   (first | exact ⟨Grows.refl _, rfl⟩ | exact Grows.refl _)
 with_reducible refine rel_end ?_
 intro w6 hg6
 simp only [List.nil_append, List.cons_append]
 repeat (with_reducible refine final_is ?_)
 with_reducible refine final_of ?_
 intro u64 hu64
 repeat (with_reducible refine final_is ?_)
 with_reducible refine final_of ?_
 intro u65 hu65
 repeat (with_reducible refine final_is ?_)
 with_reducible refine final_of ?_
 intro u66 hu66
 repeat (with_reducible refine final_is ?_)
 with_reducible refine final_of ?_
 intro u67 hu67
 repeat (with_reducible refine final_is ?_)
 have kr6 := (hg6.block _ hs2).trans Kr.out
 have Kr6 := Lib.hid kr6
 obtain ⟨r0, r1, rf⟩ := cells2 kr6
 have hu6 := Lib.hid hu67
 obtain ⟨d6, e6, hi6, hty6⟩ := hu67
 obtain ⟨A6, c6, e7, hl6, hc6⟩ := hi6.shape
 subst e7
 subst e6
 clear hi6 hty6 kr6
 with_reducible refine final_nil ?_
 simp only [List.drop_succ_cons, List.drop_zero]
 go_frame
 go_wp2_with fail
 exact end_cell_tmp rfl (by rfl) (by rfl) rfl (set2 Kr6.out _ _) Try.underlying26 rfl (by kernel_rfl) ⟨_, rfl, ⟨_, rfl, hu6.out.set2 Kr6.out (by decide)⟩, below_set2 (hb2'.trans (hg6.mono hb2'.size)) (by omega) _ _⟩
theorem Add_ok (a b : Int) (va vb : Value) (w : World) (ha : BigZ w va a) (hb : BigZ w vb b) (la : (szZ a : Int) ≤ 4398046511104) (lb : (szZ b : Int) ≤ 4398046511104) :
    Calls Try.prog 48 #[va, vb] w (RetBigE w (ofZ (a + b)) 0) := by
 by_cases hs : 0 ≤ a.sign * b.sign
 · exact Add_pos a b va vb w ha hb la lb hs
 · by_cases hlt : (a.natAbs : Int) < b.natAbs
   · exact Add_less a b va vb w ha hb la lb hs hlt
   · exact Add_ge a b va vb w ha hb la lb hs hlt
attribute [local go_sem] relOp relAt relUpon and_mask_u
theorem sgnd_one (n : Nat) : sgnd 1 (digs n) = ofZ n := sgnd_digs _ (by omega) (.inl rfl)
theorem digs_le {a b : Nat} (h : a ≤ b) : (digs a).length ≤ (digs b).length := length_digs_le (by have := lt_length_digs b; omega)
set_option maxRecDepth 100000 in
set_option maxHeartbeats 8000000 in
theorem Gcd_ok (a b : Int) (va vb : Value) (w : World) (ha : BigZ w va a) (hb : BigZ w vb b) (la : (szZ a : Int) ≤ 2199023255552) (lb : (szZ b : Int) ≤ 2199023255552) :
    Calls Try.prog 73 #[va, vb] w (RetBigE w (ofZ (Nat.gcd a.natAbs b.natAbs : Nat)) 0) := by
 obtain ⟨da, rfl, ia⟩ := ha
 obtain ⟨db, rfl, ib⟩ := hb
 obtain ⟨A, ca, rfl, hla, hca⟩ := ia.shape
 obtain ⟨B', cb, rfl, hlb, hcb⟩ := ib.shape
 obtain ⟨sb1, sb2⟩ := sign_mul_bounds a b
 obtain ⟨sba1, sba2⟩ := sign_bounds a
 obtain ⟨sbb1, sbb2⟩ := sign_bounds b
 have sbw : IntKind.i64.wrap (a.sign * b.sign) = a.sign * b.sign := IntWalk.i64_in _ (by omega)
 have HA := Lib.hid (fun W h => right_ok a (.agg #[I (ofZ a).s, .slice A (ofZ a).d.length ca]) W h)
 have HB := Lib.hid (fun W h => right_ok b (.agg #[I (ofZ b).s, .slice B' (ofZ b).d.length cb]) W h)
 have Hia := Lib.hid ia
 have Hib := Lib.hid ib
 have hsa : (ofZ a).s = a.sign := rfl
 have hsb : (ofZ b).s = b.sign := rfl
 have hda : (ofZ a).d = digs a.natAbs := rfl
 have hdb : (ofZ b).d = digs b.natAbs := rfl
 simp only [hsa, hsb, hda, hdb] at *
 clear hsa hsb hda hdb ia ib
 go_enter Try.func73, Try.ntmps73
 go_upto_region 3 with (go_at_call 72; fail)
 go_at_call 72
 refine (HA.out _ ⟨_, rfl, Hia.out.below RInt.mono (below3 _ _ _ _)⟩).mono ?_
 rintro e w1 ⟨rfl, hb1⟩
 obtain ⟨hs1, hb1', k0, k1, k2⟩ := boxes3 hb1
 have hk1 := cells2 k0
 have hk2 := cells2 k1
 go_upto_region 3 with (go_at_call 72; fail)
 go_at_call 72
 refine (HB.out _ ⟨_, rfl, Hib.out.below RInt.mono hb1'⟩).mono ?_
 rintro e w2 ⟨rfl, hb2⟩
 have hb12 := hb1.trans (hb2.mono hb1.size)
 clear hs1 hb1' hk1 hk2 k0 k1 k2
 obtain ⟨hs2, hb2', k0, k1, k2⟩ := boxes3 hb12
 have Hia2 := Lib.hid (Hia.out.below RInt.mono hb2')
 have Hib2 := Lib.hid (Hib.out.below RInt.mono hb2')
 obtain ⟨a0, a1, af⟩ := cells2 k0
 obtain ⟨b0, b1, bf⟩ := cells2 k1
 have hsz0 : w.heap.size < w2.heap.size := by omega
 have hsz1 : w.heap.size + 1 < w2.heap.size := by omega
 have Kr := Lib.hid k2
 clear k0 k1 k2
 go_upto_region 3 with fail
 refine wp_region_rel_seq 7 (by kernel_rfl) (by kernel_rfl) (by kernel_rfl) (by kernel_rfl) (by kernel_rfl) ?_
 simp only [List.take_succ_cons, List.take_zero]
 repeat (with_reducible apply rel_is
         · intro wx hx
           have hc := (bcell hx).2.1
           try simp only [List.nil_append, List.cons_append]
           repeat (first | with_reducible refine reads_is ?_ | (with_reducible refine reads_skip ?_ ?_; (· decide +kernel)))
           with_reducible refine reads_nil ?_
           go_simp
           exact ⟨Grows.refl _, rfl⟩)
 refine rel_of (fun W u => IntsAt W u (digs a.natAbs) ∧ Typed W u) (fun _ _ _ hg h => ⟨h.1.below RInt.mono hg, h.2.below hg⟩) ?_ ?_
 · intro wx hx
   have hc := (bcell hx).2.1
   try simp only [List.nil_append, List.cons_append]
   repeat (with_reducible refine reads_is ?_)
   with_reducible refine reads_nil ?_
   go_simp
   go_at_call 104
   refine (clone_any _ _ _ (Hia2.out.below RInt.mono hx) (by have := la; unfold szZ at this; omega)).mono ?_
   rintro e w3 ⟨v3, rfl, ho, hb3⟩
   exact ⟨_, rfl, hb3, ho.ints, ho.typed⟩
 repeat (with_reducible apply rel_is
         · intro wx hx
           have hc := (bcell hx).2.1
           try simp only [List.nil_append, List.cons_append]
           repeat (first | with_reducible refine reads_is ?_ | (with_reducible refine reads_skip ?_ ?_; (· decide +kernel)))
           with_reducible refine reads_nil ?_
           go_simp
           exact ⟨Grows.refl _, rfl⟩)
 refine rel_of (fun W u => IntsAt W u (digs a.natAbs) ∧ Typed W u) (fun _ _ _ hg h => ⟨h.1.below RInt.mono hg, h.2.below hg⟩) ?_ ?_
 · intro wx hx
   have hc := (bcell hx).2.1
   try simp only [List.nil_append, List.cons_append]
   repeat (with_reducible refine reads_is ?_)
   (with_reducible refine reads_take ?_ ?_; (· decide +kernel))
   intro u24 hu24
   repeat (with_reducible refine reads_is ?_)
   with_reducible refine reads_nil ?_
   go_simp
   first | exact ⟨Grows.refl _, hu24⟩ | exact Grows.refl _
 repeat (with_reducible apply rel_is
         · intro wx hx
           have hc := (bcell hx).2.1
           try simp only [List.nil_append, List.cons_append]
           repeat (first | with_reducible refine reads_is ?_ | (with_reducible refine reads_skip ?_ ?_; (· decide +kernel)))
           with_reducible refine reads_nil ?_
           go_simp
           exact ⟨Grows.refl _, rfl⟩)
 with_reducible refine rel_end ?_
 intro w6 hg6
 simp only [List.nil_append, List.cons_append]
 repeat (with_reducible refine final_is ?_)
 with_reducible refine final_of ?_
 intro u24 hu24
 repeat (with_reducible refine final_is ?_)
 with_reducible refine final_of ?_
 intro u6 hu6
 repeat (with_reducible refine final_is ?_)
 have hib6 := Lib.hid (Hib2.out.below RInt.mono hg6)
 have hb6' := hb2'.trans (hg6.mono hb2'.size)
 have Kr6 := Lib.hid ((hg6.block _ hs2).trans Kr.out)
 have hs6 : w.heap.size + 2 < w6.heap.size := by have := hg6.size; omega
 obtain ⟨hx6, hy6⟩ := hu6
 clear hu24
 with_reducible refine final_nil ?_
 simp only [List.drop_succ_cons, List.drop_zero, List.drop_nil]
 go_frame
 go_wp2_with fail
 go_loopg [6, 7] b.natAbs (fun g x y wr => ∃ X k : Nat, k = g ∧ IntsAt wr x (digs X) ∧ IntsAt wr y (digs k) ∧ Nat.gcd X k = Nat.gcd a.natAbs b.natAbs ∧ X ≤ max a.natAbs b.natAbs ∧ k ≤ b.natAbs ∧ Below w6.heap.size w6 wr)
 case atStart => exact ⟨a.natAbs, b.natAbs, rfl, hx6, hib6.out, rfl, by omega, by omega, Below.refl _ _⟩
 case round =>
  obtain ⟨X, k, rfl, hx, hy, hgcd, hX, hkb, hB⟩ := hrel
  have Hg := Lib.hid hgcd; clear hgcd
  have hlX : ((digs X).length : Int) ≤ 2199023255552 := by
   have h1 := digs_le hX
   have h2 : (digs (max a.natAbs b.natAbs)).length ≤ max (digs a.natAbs).length (digs b.natAbs).length := by
    rcases Nat.le_total a.natAbs b.natAbs with h | h
    · rw [Nat.max_eq_right h]; omega
    · rw [Nat.max_eq_left h]; omega
   unfold szZ at la lb
   omega
  obtain ⟨A1, c1, rfl, hl1, hc1⟩ := hx.shape
  obtain ⟨A2, c2, rfl, hl2, hc2⟩ := hy.shape
  have hkk := Lib.hid hkb
  have Kr7 := Lib.hid ((hB.block _ hs6).trans Kr6.out)
  have hs7 : w.heap.size + 2 < wr.heap.size := by have := hB.size; omega
  clear hX hkb
  by_cases hk : k = 0
  · subst hk
    have e0 : (digs 0).length = 0 := by rw [digs_zero]; rfl
    rw [e0]
    have HS := Lib.hid (sgnd_one X)
    have hGe := Hg.out
    rw [Nat.gcd_zero_right] at hGe
    have HG := Lib.hid hGe; clear hGe
    clear e0
    go_upto_region 7 with fail
    go_upto_region 8 with (go_at_call 104; fail)
    go_at_call 104
    refine (clone_any _ _ _ hx (by omega)).mono ?_
    rintro e w7 ⟨v7, rfl, ho7, hb7⟩
    go_upto_region 8 with (go_at_call 77; fail)
    go_at_call 77
    refine (signed_any _ _ _ _ ho7.ints ho7.typed).mono ?_
    rw [HS.out]
    rintro e w8 ⟨v8, rfl, ho8, hb8⟩
    go_upto_region 8 with (go_at_call 82; fail)
    go_at_call 82
    refine (checked_yes _ _ _ ho8).mono ?_
    rintro e w9 ⟨v9, rfl, ⟨v10, rfl, ho9⟩, hb9⟩
    have hb79 := hb7.trans ((hb8.trans (hb9.mono hb8.size)).mono hb7.size)
    have kr9 := (hb79.block _ hs7).trans Kr7.out
    have Kr9 := Lib.hid kr9
    obtain ⟨r0, r1, rf⟩ := cells2 kr9
    have hu9 := Lib.hid ho9
    obtain ⟨d9, e9, hi9, hty9⟩ := ho9
    obtain ⟨A9, c9, e7, hl9, hc9⟩ := hi9.shape
    subst e7
    subst e9
    clear hi9 hty9 kr9
    go_wp2_with fail
    refine end_cell_tmp rfl (by rfl) (by rfl) rfl (set2 Kr9.out _ _) Try.underlying26 rfl (by kernel_rfl) ⟨_, rfl, ⟨_, rfl, ?_⟩, below_set2 (hb6'.trans ((hB.trans (hb79.mono hB.size)).mono hb6'.size)) (by omega) _ _⟩
    have := hu9.out.set2 (v0 := I (ofZ X).s) (v1 := .slice A9 (ofZ X).d.length c9) Kr9.out (by decide)
    rw [← HG.out]; exact this
  · have hpos : 1 ≤ (digs k).length := by
      rcases Nat.eq_zero_or_pos (digs k).length with h | h
      · exact absurd (digs_nil_iff.1 (List.eq_nil_of_length_eq_zero h)) hk
      · exact h
    have Hk := Lib.hid hk; clear hk
    go_wp2_with (go_at_call 105; refine (div_any X k _ _ _ hx hy hlX (by have := Hk.out; omega)).mono ?_; rintro e w7 ⟨v7, u7, rfl, ho7, ho8, hb7⟩)
    go_roundg (X % k)
    case measure => exact Nat.mod_lt _ (by have := Hk.out; omega)
    case rel =>
     refine ⟨k, X % k, rfl, hy.below RInt.mono hb7, ho8.ints, ?_, by have := hkk.out; omega, ?_, hB.trans (hb7.mono hB.size)⟩
     · rw [← Hg.out, Nat.gcd_comm X k, Nat.gcd_rec k X, Nat.gcd_comm]
     · have h1 := Nat.mod_lt X (y := k) (by have := Hk.out; omega)
       have := hkk.out
       omega
theorem end_cell2_tmp {P : Program} {fn : Func} {R : Ending → World → Prop} {a : Act} {w : World} {g g' : Nat} {cs cs' : Array Value} {T : TypeId} {p p' q : Tmp} {e : Value} {d : TypeDesc} (hres : fn.results = #[.cell p T, .cell p' T, .tmp q]) (hp : a.tmps.getD p undef = .pointer (some ⟨g, 0, none⟩)) (hp' : a.tmps.getD p' undef = .pointer (some ⟨g', 0, none⟩)) (hq : a.tmps.getD q undef = e) (hdf : a.defers = [])
    (hg : w.heap[g]? = some (.cells cs T (0, 0))) (hg' : w.heap[g']? = some (.cells cs' T (0, 0))) (hu : P.underlying T = some d) (hd : (match d with | .struct _ | .array _ _ => true | _ => false) = true) (hi : (P.info? T).map (·.size) = some cs.size) (hi' : (P.info? T).map (·.size) = some cs'.size) (hR : R (.returned (.tuple #[.agg cs, .agg cs', e])) w) : bodyPost P fn R .ret a w := by
 refine bodyPost_ret_by ?_ hdf hR
 have h1 := run_loadVar_row (P := P) w g T T cs (0, 0) d hg hu hd hi
 have h2 := run_loadVar_row (P := P) w g' T T cs' (0, 0) d hg' hu hd hi'
 rw [Array.getD_eq_getD_getElem?] at hp hp' hq
 simp [results, hres, hp, hp', hq, asAddr, h1, h2, Result.andThen]
def RetDivE (w : World) (x y : BigD) (e : Ending) (w' : World) : Prop := ∃ v u, e = .returned (.tuple #[v, u, I 0]) ∧ BigF w' v x ∧ BigF w' u y ∧ Below w.heap.size w w'
theorem sgnd_div {a g c : Int} (hg : 0 < g) (h : a = g * c) : sgnd (a.sign * g.sign) (digs (a.natAbs / g.natAbs)) = ofZ c := by
 have e1 : a.natAbs / g.natAbs = c.natAbs := by
  rw [h, Int.natAbs_mul, Nat.mul_div_cancel_left _ (by omega)]
 have e2 : a.sign * g.sign = c.sign := by
  rw [h, Int.sign_mul, Int.sign_eq_one_of_pos hg]; omega
 rw [e1, e2]
 refine sgnd_digs _ (Int.sign_mul_natAbs c).symm ?_
 rcases sign_cases c with ⟨h1, h2, h3⟩ | ⟨h1, h2, h3⟩ | ⟨h1, h2, h3⟩
 · exact .inr (.inl h2)
 · subst h1; right; right; rfl
 · exact .inl h2
theorem sgnd_nil (s : Int) : sgnd s (digs 0) = zB := by unfold sgnd; rw [digs_zero]; rfl
theorem set2_far {w : World} {g g' : Nat} {x : Obj} (h : w.heap[g']? = some x) (hne : g' ≠ g) (v0 v1 : Value) : ((w.setCell ⟨g, 0, none⟩ v0).setCell ⟨g, 1, none⟩ v1).heap[g']? = some x := by
 rw [heap_setCell_other _ ⟨g, 1, none⟩ g' v1 hne, heap_setCell_other _ ⟨g, 0, none⟩ g' v0 hne]; exact h
set_option maxRecDepth 100000 in
set_option maxHeartbeats 8000000 in
theorem Div_exact (a b c : Int) (va vb : Value) (w : World) (ha : BigZ w va a) (hb : BigZ w vb b) (hb0 : 0 < b) (hac : a = b * c) (la : (szZ a : Int) ≤ 2199023255552) (lb : (szZ b : Int) ≤ 2199023255552) :
    Calls Try.prog 78 #[va, vb] w (RetDivE w (ofZ c) zB) := by
 obtain ⟨da, rfl, ia⟩ := ha
 obtain ⟨db, rfl, ib⟩ := hb
 obtain ⟨A, ca, rfl, hla, hca⟩ := ia.shape
 obtain ⟨B', cb, rfl, hlb, hcb⟩ := ib.shape
 obtain ⟨sb1, sb2⟩ := sign_mul_bounds a b
 obtain ⟨sba1, sba2⟩ := sign_bounds a
 obtain ⟨sbb1, sbb2⟩ := sign_bounds b
 have sbw : IntKind.i64.wrap (a.sign * b.sign) = a.sign * b.sign := IntWalk.i64_in _ (by omega)
 have HA := Lib.hid (fun W h => right_ok a (.agg #[I (ofZ a).s, .slice A (ofZ a).d.length ca]) W h)
 have HB := Lib.hid (fun W h => right_ok b (.agg #[I (ofZ b).s, .slice B' (ofZ b).d.length cb]) W h)
 have Hia := Lib.hid ia
 have Hib := Lib.hid ib
 have HS := Lib.hid (sgnd_div hb0 hac)
 have HZ := Lib.hid (sgnd_nil a.sign)
 have hmod : a.natAbs % b.natAbs = 0 := by rw [hac, Int.natAbs_mul, Nat.mul_mod_right]
 have hbs : b.sign = 1 := Int.sign_eq_one_of_pos hb0
 have hbp : 0 < b.natAbs := by omega
 have hd := fun W h1 h2 => div_any a.natAbs b.natAbs (.slice A (ofZ a).d.length ca) (.slice B' (ofZ b).d.length cb) W h1 h2 la hbp
 rw [hmod] at hd
 have HD := Lib.hid hd; clear hd hmod
 have Hac := Lib.hid hac; clear hac
 have hbn : (b.sign == 0) = false := by rw [hbs]; rfl
 have Hbs := Lib.hid hbs; clear hbs
 have hsa : (ofZ a).s = a.sign := rfl
 have hsb : (ofZ b).s = b.sign := rfl
 have hda : (ofZ a).d = digs a.natAbs := rfl
 have hdb : (ofZ b).d = digs b.natAbs := rfl
 simp only [hsa, hsb, hda, hdb] at *
 clear hsa hsb hda hdb ia ib
 go_enter Try.func78, Try.ntmps78
 go_upto_region 3 with (go_at_call 72; fail)
 go_at_call 72
 refine (HA.out _ ⟨_, rfl, Hia.out.below RInt.mono ((below3 _ _ _ _).alloc (by simp; omega) _)⟩).mono ?_
 rintro e w1 ⟨rfl, hb1⟩
 obtain ⟨hs1, hb1', k0, k1, k2, k3⟩ := boxes4 hb1
 have hk1 := cells2 k0
 have hk2 := cells2 k1
 go_upto_region 3 with (go_at_call 72; fail)
 go_at_call 72
 refine (HB.out _ ⟨_, rfl, Hib.out.below RInt.mono hb1'⟩).mono ?_
 rintro e w2 ⟨rfl, hb2⟩
 have hb12 := hb1.trans (hb2.mono hb1.size)
 clear hs1 hb1' hk1 hk2 k0 k1 k2 k3
 obtain ⟨hs2, hb2', k0, k1, k2, k3⟩ := boxes4 hb12
 have Hia2 := Lib.hid (Hia.out.below RInt.mono hb2')
 have Hib2 := Lib.hid (Hib.out.below RInt.mono hb2')
 obtain ⟨a0, a1, af⟩ := cells2 k0
 obtain ⟨b0, b1, bf⟩ := cells2 k1
 have hsz0 : w.heap.size < w2.heap.size := by omega
 have hsz1 : w.heap.size + 1 < w2.heap.size := by omega
 have Kr := Lib.hid k2
 have Kr2 := Lib.hid k3
 clear k0 k1 k2 k3
 go_upto_region 6 with (go_at_call 105; fail)
 go_at_call 105
 refine (HD.out _ Hia2.out Hib2.out).mono ?_
 rintro e w3 ⟨vq, vr, rfl, hoq, hor, hb3⟩
 have hb3' := hb2'.trans (hb3.mono hb2'.size)
 have a0 := (hb3.cell (p := ⟨w.heap.size, 0, none⟩) hsz0).trans a0
 have a1 := (hb3.cell (p := ⟨w.heap.size, 1, none⟩) hsz0).trans a1
 have b0 := (hb3.cell (p := ⟨w.heap.size + 1, 0, none⟩) hsz1).trans b0
 have b1 := (hb3.cell (p := ⟨w.heap.size + 1, 1, none⟩) hsz1).trans b1
 have hsz0 : w.heap.size < w3.heap.size := by have := hb3.size; omega
 have hsz1 : w.heap.size + 1 < w3.heap.size := by have := hb3.size; omega
 have Kr := Lib.hid ((hb3.block _ (by omega)).trans Kr.out)
 have Kr2 := Lib.hid ((hb3.block _ (by omega)).trans Kr2.out)
 have hs3 : w.heap.size + 2 < w3.heap.size := by have := hb3.size; omega
 have hs4 : w.heap.size + 3 < w3.heap.size := by have := hb3.size; omega
 have hqi := Lib.hid (And.intro hoq.ints hoq.typed)
 have hri := Lib.hid (And.intro hor.ints hor.typed)
 obtain ⟨Aq, cq, rfl, hlq, hcq⟩ := hqi.out.1.shape
 obtain ⟨Ar, cr, rfl, hlr, hcr⟩ := hri.out.1.shape
 have er : (digs 0).length = 0 := by rw [digs_zero]; rfl
 clear hoq hor hlr
 rw [er] at hri ⊢
 clear er
 by_cases hneg : a.sign * b.sign < 0
 · have d1 : decide (a.sign * b.sign < 0) = true := decide_eq_true hneg
   go_wp2_with fail
   refine wp_region_rel_seq 11 (by kernel_rfl) (by kernel_rfl) (by kernel_rfl) (by kernel_rfl) (by kernel_rfl) ?_
   simp only [List.take_succ_cons, List.take_zero]
   repeat (with_reducible apply rel_is
           · intro wx hx
             have hc := (bcell hx).2.1
             try simp only [List.nil_append, List.cons_append]
             repeat (first | with_reducible refine reads_is ?_ | (with_reducible refine reads_skip ?_ ?_; (· decide +kernel)))
             with_reducible refine reads_nil ?_
             go_simp
             exact ⟨Grows.refl _, rfl⟩)
   refine rel_of (fun W u => BigF W u (ofZ (c))) (BigF.mono _) ?_ ?_
   · intro wx hx
     have hc := (bcell hx).2.1
     try simp only [List.nil_append, List.cons_append]
     repeat (with_reducible refine reads_is ?_)
     with_reducible refine reads_nil ?_
     go_simp
     go_at_call 77
     refine (signed_any _ _ _ _ (hqi.out.1.below RInt.mono hx) (hqi.out.2.below hx)).mono ?_
     rintro e w3 ⟨v3, rfl, ho, hb3⟩
     rw [HS.out] at ho
     exact ⟨_, rfl, hb3, ho⟩
   repeat (with_reducible apply rel_is
           · intro wx hx
             have hc := (bcell hx).2.1
             try simp only [List.nil_append, List.cons_append]
             repeat (first | with_reducible refine reads_is ?_ | (with_reducible refine reads_skip ?_ ?_; (· decide +kernel)))
             with_reducible refine reads_nil ?_
             go_simp
             exact ⟨Grows.refl _, rfl⟩)
   refine rel_of (fun W u => BigF W u zB) (BigF.mono _) ?_ ?_
   · intro wx hx
     have hc := (bcell hx).2.1
     try simp only [List.nil_append, List.cons_append]
     repeat (with_reducible refine reads_is ?_)
     (with_reducible refine reads_skip ?_ ?_; (· decide +kernel))
     repeat (with_reducible refine reads_is ?_)
     with_reducible refine reads_nil ?_
     go_simp
     go_at_call 77
     refine (signed_any _ _ _ _ (hri.out.1.below RInt.mono hx) (hri.out.2.below hx)).mono ?_
     rintro e w3 ⟨v3, rfl, ho, hb3⟩
     rw [HZ.out] at ho
     exact ⟨_, rfl, hb3, ho⟩
   with_reducible refine rel_end ?_
   intro w6 hg6
   simp only [List.nil_append, List.cons_append]
   repeat (with_reducible refine final_is ?_)
   with_reducible refine final_of ?_
   intro u62 hu62
   repeat (with_reducible refine final_is ?_)
   with_reducible refine final_of ?_
   intro u66 hu66
   repeat (with_reducible refine final_is ?_)
   have kr6 := (hg6.block _ hs3).trans Kr.out
   have kr7 := (hg6.block _ hs4).trans Kr2.out
   have Kr6 := Lib.hid kr6
   have Kr7 := Lib.hid kr7
   obtain ⟨r0, r1, rf⟩ := cells2 kr6
   obtain ⟨r0', r1', rf'⟩ := cells2 kr7
   have hu6 := Lib.hid hu62
   have hu7 := Lib.hid hu66
   obtain ⟨d6, e6, hi6, hty6⟩ := hu62
   obtain ⟨A6, c6, e7, hl6, hc6⟩ := hi6.shape
   obtain ⟨d7, e8, hi7, hty7⟩ := hu66
   obtain ⟨A7, c7, e9, hl7, hc7⟩ := hi7.shape
   subst e7
   subst e6
   subst e9
   subst e8
   clear hi6 hty6 kr6 hi7 hty7 kr7
   with_reducible refine final_nil ?_
   simp only [List.drop_succ_cons, List.drop_zero]
   go_frame
   go_wp2_with fail
   have q1 := set2 Kr6.out (I (ofZ c).s) (.slice A6 (ofZ c).d.length c6)
   have q2 := set2_far Kr7.out (g := w.heap.size + 1 + 1) (by omega) (I (ofZ c).s) (.slice A6 (ofZ c).d.length c6)
   have q3 := hu6.out.set2 (v0 := I (ofZ c).s) (v1 := .slice A6 (ofZ c).d.length c6) Kr6.out (by decide)
   have q4 := hu7.out.set2 (v0 := I (ofZ c).s) (v1 := .slice A6 (ofZ c).d.length c6) Kr6.out (by decide)
   exact end_cell2_tmp rfl (by rfl) (by rfl) (by rfl) rfl (set2_far q1 (by omega) _ _) (set2 q2 _ _) Try.underlying26 rfl (by kernel_rfl) (by kernel_rfl) ⟨_, _, rfl, q3.set2 q2 (by decide), q4.set2 q2 (by decide), below_set2 (below_set2 (hb3'.trans (hg6.mono hb3'.size)) (by omega) _ _) (by omega) _ _⟩
 · have d1 : decide (a.sign * b.sign < 0) = false := decide_eq_false hneg
   go_wp2_with fail
   refine wp_region_rel_seq 11 (by kernel_rfl) (by kernel_rfl) (by kernel_rfl) (by kernel_rfl) (by kernel_rfl) ?_
   simp only [List.take_succ_cons, List.take_zero]
   repeat (with_reducible apply rel_is
           · intro wx hx
             have hc := (bcell hx).2.1
             try simp only [List.nil_append, List.cons_append]
             repeat (first | with_reducible refine reads_is ?_ | (with_reducible refine reads_skip ?_ ?_; (· decide +kernel)))
             with_reducible refine reads_nil ?_
             go_simp
             exact ⟨Grows.refl _, rfl⟩)
   refine rel_of (fun W u => BigF W u (ofZ (c))) (BigF.mono _) ?_ ?_
   · intro wx hx
     have hc := (bcell hx).2.1
     try simp only [List.nil_append, List.cons_append]
     repeat (with_reducible refine reads_is ?_)
     with_reducible refine reads_nil ?_
     go_simp
     go_at_call 77
     refine (signed_any _ _ _ _ (hqi.out.1.below RInt.mono hx) (hqi.out.2.below hx)).mono ?_
     rintro e w3 ⟨v3, rfl, ho, hb3⟩
     rw [HS.out] at ho
     exact ⟨_, rfl, hb3, ho⟩
   repeat (with_reducible apply rel_is
           · intro wx hx
             have hc := (bcell hx).2.1
             try simp only [List.nil_append, List.cons_append]
             repeat (first | with_reducible refine reads_is ?_ | (with_reducible refine reads_skip ?_ ?_; (· decide +kernel)))
             with_reducible refine reads_nil ?_
             go_simp
             exact ⟨Grows.refl _, rfl⟩)
   refine rel_of (fun W u => BigF W u zB) (BigF.mono _) ?_ ?_
   · intro wx hx
     have hc := (bcell hx).2.1
     try simp only [List.nil_append, List.cons_append]
     repeat (with_reducible refine reads_is ?_)
     (with_reducible refine reads_skip ?_ ?_; (· decide +kernel))
     repeat (with_reducible refine reads_is ?_)
     with_reducible refine reads_nil ?_
     go_simp
     go_at_call 77
     refine (signed_any _ _ _ _ (hri.out.1.below RInt.mono hx) (hri.out.2.below hx)).mono ?_
     rintro e w3 ⟨v3, rfl, ho, hb3⟩
     rw [HZ.out] at ho
     exact ⟨_, rfl, hb3, ho⟩
   with_reducible refine rel_end ?_
   intro w6 hg6
   simp only [List.nil_append, List.cons_append]
   repeat (with_reducible refine final_is ?_)
   with_reducible refine final_of ?_
   intro u62 hu62
   repeat (with_reducible refine final_is ?_)
   with_reducible refine final_of ?_
   intro u66 hu66
   repeat (with_reducible refine final_is ?_)
   have kr6 := (hg6.block _ hs3).trans Kr.out
   have kr7 := (hg6.block _ hs4).trans Kr2.out
   have Kr6 := Lib.hid kr6
   have Kr7 := Lib.hid kr7
   obtain ⟨r0, r1, rf⟩ := cells2 kr6
   obtain ⟨r0', r1', rf'⟩ := cells2 kr7
   have hu6 := Lib.hid hu62
   have hu7 := Lib.hid hu66
   obtain ⟨d6, e6, hi6, hty6⟩ := hu62
   obtain ⟨A6, c6, e7, hl6, hc6⟩ := hi6.shape
   obtain ⟨d7, e8, hi7, hty7⟩ := hu66
   obtain ⟨A7, c7, e9, hl7, hc7⟩ := hi7.shape
   subst e7
   subst e6
   subst e9
   subst e8
   clear hi6 hty6 kr6 hi7 hty7 kr7
   with_reducible refine final_nil ?_
   simp only [List.drop_succ_cons, List.drop_zero]
   go_frame
   go_wp2_with fail
   have q1 := set2 Kr6.out (I (ofZ c).s) (.slice A6 (ofZ c).d.length c6)
   have q2 := set2_far Kr7.out (g := w.heap.size + 1 + 1) (by omega) (I (ofZ c).s) (.slice A6 (ofZ c).d.length c6)
   have q3 := hu6.out.set2 (v0 := I (ofZ c).s) (v1 := .slice A6 (ofZ c).d.length c6) Kr6.out (by decide)
   have q4 := hu7.out.set2 (v0 := I (ofZ c).s) (v1 := .slice A6 (ofZ c).d.length c6) Kr6.out (by decide)
   exact end_cell2_tmp rfl (by rfl) (by rfl) (by rfl) rfl (set2_far q1 (by omega) _ _) (set2 q2 _ _) Try.underlying26 rfl (by kernel_rfl) (by kernel_rfl) ⟨_, _, rfl, q3.set2 q2 (by decide), q4.set2 q2 (by decide), below_set2 (below_set2 (hb3'.trans (hg6.mono hb3'.size)) (by omega) _ _) (by omega) _ _⟩
theorem rest_pos {m : Nat} (h : m ≠ 0) (l : List Int) : l ++ [((m % 1048576 : Nat) : Int)] ++ digs (m / 1048576) = l ++ digs m := by rw [digs_pos h]; simp
theorem of_parts (n : Int) (h1 : -9223372036854775808 ≤ n) (h2 : n ≤ 9223372036854775807) : (n < 0 → sgnd (-1) (digs n.natAbs) = ofZ n) ∧ (0 ≤ n → sgnd 1 (digs n.natAbs) = ofZ n) :=
 ⟨fun h => sgnd_digs _ (by omega) (.inr (.inl rfl)), fun h => sgnd_digs _ (by omega) (.inl rfl)⟩
attribute [local go_sem] and_mask_u
theorem wrap_u64_neg {n : Int} (h0 : n < 0) (h1 : -9223372036854775808 ≤ n) : IntKind.u64.wrap n = n + 18446744073709551616 := by
 simp only [IntKind.wrap, IntKind.bits, IntKind.signed]
 simp; omega
theorem wrap_u64_in {n : Int} (h0 : 0 ≤ n) (h1 : n < 18446744073709551616) : IntKind.u64.wrap n = n := by
 simp only [IntKind.wrap, IntKind.bits, IntKind.signed]
 simp; omega
set_option maxRecDepth 100000 in
set_option maxHeartbeats 8000000 in
theorem Of_ok (n : Int) (w : World) (h1 : -9223372036854775808 ≤ n) (h2 : n ≤ 9223372036854775807) : Calls Try.prog 44 #[I n] w (RetBig w (ofZ n)) := by
 obtain ⟨s, m, hm, hs, hu⟩ : ∃ (s : Int) (m : Nat), m = n.natAbs ∧ ((n < 0 ∧ s = -1) ∨ (0 ≤ n ∧ s = 1)) ∧ sgnd s (digs m) = ofZ n := by
  rcases Int.lt_or_le n 0 with h | h
  · exact ⟨-1, n.natAbs, rfl, .inl ⟨h, rfl⟩, (of_parts n h1 h2).1 h⟩
  · exact ⟨1, n.natAbs, rfl, .inr ⟨h, rfl⟩, (of_parts n h1 h2).2 h⟩
 have HU := Lib.hid hu; clear hu
 have hm1 : (m : Int) ≤ 9223372036854775808 := by omega
 have hm2 : (m : Int) = n ∨ (m : Int) = -n := by omega
 go_enter Try.func44, Try.ntmps44
 go_upto_if 9 with fail
 go_cut [3, 4] (fun vs vu wx => vs = I s ∧ vu = .int .u64 m ∧ wx = w.alloc (.cells #[I 0, .slice none 0 0] 26))
 case first =>
  rcases hs with ⟨h, rfl⟩ | ⟨h, rfl⟩
  · have e : (m : Int) = -n := by omega
    have w1' := wrap_u64_neg h h1
    have w2' : IntKind.u64.wrap (-(n + 18446744073709551616)) = -n := by
     simp only [IntKind.wrap, IntKind.bits, IntKind.signed]
     simp; omega
    have E := Lib.hid e; clear e hm hm2
    go_wp2_with fail
    go_meet
    case rel => exact ⟨rfl, by rw [E.out], rfl⟩
  · have e : (m : Int) = n := by omega
    have w1' := wrap_u64_in h (by omega)
    have E := Lib.hid e
    have W1 := Lib.hid w1'
    clear e hm hm2 w1'
    go_wp2_with fail
    go_meet
    case rel => exact ⟨rfl, by rw [W1.out, E.out], rfl⟩
 case rest =>
  obtain ⟨rfl, rfl, rfl⟩ := hcut
  clear hm hm2 hs
  go_wp2_with fail
  go_loopw [4, 5] (fun u v wr => ∃ (k : Nat) (l : List Int), u = .int .u64 k ∧ k ≤ m ∧ l ++ digs k = digs m ∧ l.length + (digs k).length ≤ 4 ∧ Owns wr (w.heap.size + 1) v l ∧ Below (w.heap.size + 1) (w.alloc (.cells #[I 0, .slice none 0 0] 26)) wr) (fun u _ _ => (intOf u).toNat)
  case atStart => exact ⟨m, [], rfl, Nat.le_refl _, rfl, by
   have : (digs m).length ≤ 4 := length_digs_le (by simp only [bp]; omega)
   simpa using this, Owns.nil _ _, Below.refl _ _⟩
  case round =>
   obtain ⟨k, l, rfl, hk, hl, hl4, hO, hB⟩ := hrel
   have Hl := Lib.hid hl; clear hl
   have hbb : Below w.heap.size w wr := (below_alloc w _).trans (hB.mono (by omega))
   have hsz : w.heap.size < wr.heap.size := by have := hB.size; simp at this; omega
   have kr := (hB.block w.heap.size (by omega)).trans (heap_alloc_new w _)
   have Kr := Lib.hid kr; clear kr
   have hk63 : (k : Int) ≤ 9223372036854775808 := by omega
   by_cases hk0 : k = 0
   · subst hk0
     have e : l = digs m := by have := Hl.out; rwa [digs_zero, List.append_nil] at this
     subst e
     go_upto_region 8 with fail
     go_upto_region 9 with (go_at_call 77; fail)
     go_at_call 77
     refine (signed_any _ _ _ _ hO.ints hO.typed).mono ?_
     rw [HU.out]
     rintro e w1 ⟨v1, rfl, ho1, hb1⟩
     have kr9 := (hb1.block _ hsz).trans Kr.out
     have Kr9 := Lib.hid kr9
     obtain ⟨r0, r1, rf⟩ := cells2 kr9
     have hu9 := Lib.hid ho1
     obtain ⟨d9, e9, hi9, hty9⟩ := ho1
     obtain ⟨A9, c9, e7, hl9, hc9⟩ := hi9.shape
     subst e7
     subst e9
     clear hi9 hty9 kr9
     have hsz1 : w.heap.size < w1.heap.size := by have := hb1.size; omega
     go_wp2_with fail
     exact end_cell rfl (by rfl) rfl (set2 Kr9.out _ _) Try.underlying26 rfl (by kernel_rfl) ⟨_, rfl, hu9.out.set2 Kr9.out (by decide), below_set2 (hbb.trans (hb1.mono hbb.size)) (Nat.le_refl _) _ _⟩
   · have hdp := digs_pos hk0
     have hlen : (digs k).length = (digs (k / 1048576)).length + 1 := by rw [hdp]; simp
     have HR := Lib.hid (rest_pos hk0 l)
     have hk1 : (0 : Int) < (k : Int) := by omega
     have hll : (l.length : Int) ≤ 8796093022208 := by omega
     have Hdp := Lib.hid hdp; clear hdp
     have Hlen := Lib.hid hlen; clear hlen
     have Hk0 := Lib.hid hk0; clear hk0
     go_wp2_with (at_builtin; refine wpList_push wr (by rfl) _ _ (by rfl) (w.heap.size + 1) _ l ((k : Int) % 1048576) (by rfl) hO (by rfl) hll (by omega) ?_; intro v2 w2 hO2 hb2 hat2 hsz2)
     go_roundw
     case rel =>
      refine ⟨k / 1048576, _, by go_num, by omega, ?_, ?_, hO2, hB.trans hb2⟩
      · rw [← Hl.out, ← HR.out]; simp
      · have := Hlen.out
        rw [List.length_append, List.length_singleton]; omega
     case measure =>
      have := Hk0.out
      simp [intOf]; omega
theorem wraps_u64 (n : Int) (h0 : 0 ≤ n) (h1 : n < 2 ^ 64) : IntKind.u64.wrap n = n := wrap_u64_in h0 (by omega)
theorem or_u64 (i : Nat) {x y : Int} (hy : 0 ≤ y) (hy1 : y < 2 ^ i) (hx : 0 ≤ x) (hx1 : x * 2 ^ i < 2 ^ 64) (hy2 : y < 2 ^ 64) : bits .or .u64 y (x * 2 ^ i) = y + x * 2 ^ i := by
 have hp : (0 : Int) < 2 ^ i := Int.pow_pos (by decide)
 have hc : bits .or .u64 y (x * 2 ^ i) = bits .or .u64 (x * 2 ^ i) y := by simp only [bits, BitVec.or_comm]
 rw [hc, bits_join .u64 64 (by decide) wraps_u64 i _ _ (Int.mul_nonneg hx (by omega)) (Int.mul_emod_left _ _) hx1 hy hy1 hy2]
 omega
def RetInt1 (z : Int) (w : World) (e : Ending) (w' : World) : Prop := ∃ (n : Int) (ok : Bool), e = .returned (.tuple #[I n, B ok]) ∧ (ok && (n == 1)) = decide (z = 1) ∧ Below w.heap.size w w'
theorem int1_no {z : Int} (h : z ≠ 1) : (false && ((0 : Int) == 1)) = decide (z = 1) := by simp [h]
theorem int1_yes (z : Int) : (true && (z == 1)) = decide (z = 1) := by
 rw [Bool.true_and, Bool.eq_iff_iff]; simp
set_option maxRecDepth 100000 in
set_option maxHeartbeats 8000000 in
theorem Int_one (z : Int) (hz : 0 ≤ z) (va : Value) (w : World) (ha : BigZ w va z) : Calls Try.prog 106 #[va] w (RetInt1 z w) := by
 obtain ⟨da, rfl, ia⟩ := ha
 obtain ⟨A, ca, rfl, hla, hca⟩ := ia.shape
 have HA := Lib.hid (fun W (h : IntsAt W (.slice A (ofZ z).d.length ca) (ofZ z).d) => right_ok z (.agg #[I (ofZ z).s, .slice A (ofZ z).d.length ca]) W ⟨_, rfl, h⟩)
 have Hia := Lib.hid ia
 have hs0 : 0 ≤ z.sign := sign_nn hz
 have hval : val (digs z.natAbs) = z := by rw [val_digs]; omega
 have hnorm := norm_digs z.natAbs
 have hsa : (ofZ z).s = z.sign := rfl
 have hda : (ofZ z).d = digs z.natAbs := rfl
 simp only [hsa, hda] at *
 clear hsa hda ia
 generalize digs z.natAbs = l at *
 unfold maxLen at hca
 have HV := Lib.hid hval; clear hval
 have Hbig : ∀ k x, l[k]? = some x → 1 ≤ k → 1 ≤ x → Hid (z ≠ 1) := fun k x hx hk hx1 => Lib.hid <| by
  have h1 := val_ge_get (fun d hd => (hnorm.1 d hd).1) hx
  rw [HV.out] at h1
  have h2 := bp_le hk
  have h3 : bp k * 1 ≤ bp k * x := Int.mul_le_mul_of_nonneg_left hx1 (Int.le_of_lt (bp_pos k))
  simp only [bp] at h2
  omega
 by_cases hl : 4 < l.length
 · have hz1 : Hid (z ≠ 1) := by
     have hx : l[l.length - 1]? = some l[l.length - 1] := List.getElem?_eq_getElem (by omega)
     refine Hbig _ _ hx (by omega) ?_
     have h1 := dig_get hnorm.1 hx
     have h2 := hnorm.2 _ (by rw [List.getLast?_eq_getElem?]; exact hx)
     omega
   have hl4 : (4 : Int) < (l.length : Int) := by omega
   have HB := Lib.hid Hbig; clear Hbig
   go_enter Try.func106, Try.ntmps106
   go_wp2_with (go_at_call 72; refine (HA.out _ (Hia.out.below RInt.mono (below_alloc _ _))).mono ?_; rintro e w1 ⟨rfl, hb1⟩; obtain ⟨hs1, hb1', k0⟩ := boxes1 hb1; obtain ⟨a0, a1, af⟩ := cells2 k0)
   go_ret2
   exact ⟨0, false, rfl, int1_no hz1.out, hb1'⟩
 · have hl4 : (l.length : Int) ≤ 4 := by omega
   have HB := Lib.hid Hbig; clear Hbig
   go_enter Try.func106, Try.ntmps106
   go_upto_region 3 with (go_at_call 72; refine (HA.out _ (Hia.out.below RInt.mono (below_alloc _ _))).mono ?_; rintro e w1 ⟨rfl, hb1⟩; obtain ⟨hs1, hb1', k0⟩ := boxes1 hb1; obtain ⟨a0, a1, af⟩ := cells2 k0)
   clear k0
   have hi1 := Hia.out.below RInt.mono hb1'
   have hnorm' := Lib.hid hnorm; clear hnorm
   go_wp2_with fail
   go_loop [19, 4] (fun i u => ∃ j : Nat, j ≤ l.length ∧ i = I j ∧ u = .int .u64 (val (l.take j)) ∧ 0 ≤ val (l.take j) ∧ val (l.take j) < bp j ∧ (j = 4 → val (l.take j) < 10376293541461622784)) (fun i _ => l.length - (intOf i).toNat)
   case atStart => exact ⟨0, by omega, rfl, rfl, by simp [val], by simp [val, bp], fun h => by omega⟩
   case round =>
    obtain ⟨j, hj, rfl, rfl, hu0, hu1, hu4⟩ := hrel
    by_cases hlt : j < l.length
    · obtain ⟨bx, ox, x, rfl, hbx, hx, hcx⟩ := IntsAt.get1 hi1 hlt
      obtain ⟨hx0, hx1⟩ := dig_get hnorm'.out.1 hx.out
      have hstep := Lib.hid (val_take_get hx.out)
      clear hu4
      generalize val (l.take j) = U at *
      have hjc : j = 0 ∨ j = 1 ∨ j = 2 ∨ j = 3 := by omega
      rcases hjc with rfl | rfl | rfl | rfl
      · have hU : U = 0 := by simp only [bp] at hu1; omega
        subst hU
        have hor := or_u64 0 (x := x) (y := 0) (by omega) (by decide) hx0 (by omega) (by decide)
        simp only [Int.pow_zero, Int.mul_one, Int.zero_add] at hor
        have hw' := wrap_u64_in hx0 (by omega)
        clear hu0 hu1
        rw [Nat.add_zero] at hcx
        go_wp2_with fail
        go_round
        case rel =>
         have e := hstep.out
         simp only [bp, Int.one_mul, Int.zero_add] at e
         exact ⟨1, by omega, rfl, by rw [e], by rw [e]; exact hx0, by rw [e]; simp only [bp]; omega, fun h => by omega⟩
        case measure => simp [intOf]; omega
      · simp only [bp] at hu1
        have hor := or_u64 20 (x := x) (y := U) hu0 (by omega) hx0 (by omega) (by omega)
        rw [show (2 : Int) ^ 20 = 1048576 by decide] at hor
        have hw' := wrap_u64_in (n := x * 1048576) (by omega) (by omega)
        have hw2 := wrap_u64_in hx0 (by omega)
        go_wp2_with fail
        go_round
        case rel =>
         have e := hstep.out
         simp only [bp] at e
         have e' : U + x * 1048576 = val (l.take (1 + 1)) := by rw [e]; omega
         exact ⟨2, by omega, rfl, by rw [e'], by rw [← e']; omega, by rw [← e']; simp only [bp]; omega, fun h => by omega⟩
        case measure => simp [intOf]; omega
      · simp only [bp] at hu1
        have hor := or_u64 40 (x := x) (y := U) hu0 (by omega) hx0 (by omega) (by omega)
        rw [show (2 : Int) ^ 40 = 1099511627776 by decide] at hor
        have hw' := wrap_u64_in (n := x * 1099511627776) (by omega) (by omega)
        have hw2 := wrap_u64_in hx0 (by omega)
        go_wp2_with fail
        go_round
        case rel =>
         have e := hstep.out
         simp only [bp] at e
         have e' : U + x * 1099511627776 = val (l.take (2 + 1)) := by rw [e]; omega
         exact ⟨3, by omega, rfl, by rw [e'], by rw [← e']; omega, by rw [← e']; simp only [bp]; omega, fun h => by omega⟩
        case measure => simp [intOf]; omega
      · simp only [bp] at hu1
        by_cases h8 : 8 < x
        · have hz1 := HB.out 3 x hx.out (by omega) (by omega)
          clear hu0 hu1
          go_wp2_with fail
          go_ret2
          exact ⟨0, false, rfl, int1_no hz1.out, hb1'⟩
        · have hor := or_u64 60 (x := x) (y := U) hu0 (by omega) hx0 (by omega) (by omega)
          rw [show (2 : Int) ^ 60 = 1152921504606846976 by decide] at hor
          have hw' := wrap_u64_in (n := x * 1152921504606846976) (by omega) (by omega)
          have hw2 := wrap_u64_in hx0 (by omega)
          go_wp2_with fail
          go_round
          case rel =>
           have e := hstep.out
           simp only [bp] at e
           have e' : U + x * 1152921504606846976 = val (l.take (3 + 1)) := by rw [e]; omega
           exact ⟨4, by omega, rfl, by rw [e'], by rw [← e']; omega, by rw [← e']; simp only [bp]; omega, fun h => by rw [← e']; omega⟩
          case measure => simp [intOf]; omega
    · have e : j = l.length := by omega
      subst e
      rw [List.take_length] at hu0 hu1 hu4 ⊢
      rw [HV.out] at hu0 hu1 hu4 ⊢
      have hz64 : z < 18446744073709551616 := by
       rcases Nat.lt_or_ge l.length 4 with h | h
       · have h1 := bp_le (a := l.length) (b := 3) (by omega)
         simp only [bp] at h1
         omega
       · have := hu4 (by omega)
         omega
      clear hu1 hu4
      by_cases h63 : z < 9223372036854775808
      · have hw3 : IntKind.i64.wrap z = z := IntWalk.i64_in _ (by omega)
        go_wp2_with fail
        go_ret2
        exact ⟨z, true, rfl, int1_yes z, hb1'⟩
      · go_wp2_with fail
        go_ret2
        exact ⟨0, false, rfl, int1_no (by omega), hb1'⟩
theorem one_ok (z : Int) (hz : 0 ≤ z) (va : Value) (w : World) (ha : BigZ w va z) : Calls Try.prog 74 #[va] w fun e w' => e = .returned (B (decide (z = 1))) ∧ Below w.heap.size w w' := by
 obtain ⟨da, rfl, ia⟩ := ha
 obtain ⟨A, ca, rfl, hla, hca⟩ := ia.shape
 have HA := Lib.hid (fun W h => Int_one z hz (.agg #[I (ofZ z).s, .slice A (ofZ z).d.length ca]) W h)
 have Hia := Lib.hid ia
 go_enter Try.func74, Try.ntmps74
 go_upto_region 2 with (go_at_call 106; fail)
 go_at_call 106
 refine (HA.out _ ⟨_, rfl, Hia.out.below RInt.mono (below_alloc _ _)⟩).mono ?_
 rintro e w1 ⟨n, ok, rfl, hd, hb1⟩
 have Hd := Lib.hid hd; clear hd
 have hb1' := (below_alloc w (.cells #[I (ofZ z).s, .slice A (ofZ z).d.length ca] 26)).trans (hb1.mono (below_alloc w _).size)
 cases ok with
 | false =>
   go_wp2_with fail
   go_ret
   exact ⟨retB (by rw [← Hd.out]; rfl), hb1'⟩
 | true =>
   go_wp2_with fail
   go_ret
   exact ⟨retB (by rw [← Hd.out]; rfl), hb1'⟩
end Go.Proofs.Ytbnbpfjfkedbaaa
