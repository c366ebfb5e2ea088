/-
  Boxes of a call's own: what they hold behind calls that make memory; results that lie in cells.
-/
import Derived.Test.YtpkdhmnlpnijhaaGreatVBigA
import Derived.Deep.LoopGhost
namespace Go.Proofs.YtpkdhmnlpnijhaaGreat
set_option linter.unusedVariables false
set_option linter.unusedSimpArgs false
set_option linter.unusedSectionVars false
open Go.RowKit
section
variable {w W : World} {o1 o2 o3 o4 o5 o6 : Obj}
theorem boxes1 (h : Below (w.alloc o1).heap.size (w.alloc o1) W) : w.heap.size + 0 < W.heap.size ∧ Below w.heap.size w W ∧ W.heap[w.heap.size]? = some o1 := by
 have hs := h.size
 simp at hs
 have hall : ∀ i, i < 1 → W.heap[w.heap.size + i]? = (w.alloc o1).heap[w.heap.size + i]? := fun i hi => h.block _ (by simp; omega)
 have hb : Below w.heap.size w (w.alloc o1) := ((Below.refl _ _).alloc (Nat.le_refl _) _)
 refine ⟨by omega, hb.trans (h.mono hb.size), ?_⟩
 · refine (hall 0 (by omega)).trans ?_
   have := heap_alloc_new w o1
   simpa using this
end
section
variable {W : World} {g : Nat} {T : TypeId} {c0 c1 c2 c3 c4 : Value}
theorem cells2 (h : W.heap[g]? = some (.cells #[c0, c1] T (0, 0))) : W.cell? ⟨g, 0, none⟩ = some c0 ∧ W.cell? ⟨g, 1, none⟩ = some c1 ∧ (∀ i, W.frozen? ⟨g, i, none⟩ = false) :=
 ⟨by rw [cell_of_row W _ 0 _ _ (0, 0) h]; rfl, by rw [cell_of_row W _ 1 _ _ (0, 0) h]; rfl, fun i => frozen_of_row W g i _ _ h⟩
end
def FracV (w : World) (v : Value) (f : FracD) : Prop := ∃ d e, v = .agg #[I f.p.s, d, I f.q.s, e] ∧ IntsAt w d f.p.d ∧ IntsAt w e f.q.d
def FracF (w : World) (v : Value) (f : FracD) : Prop := ∃ d e, v = .agg #[I f.p.s, d, I f.q.s, e] ∧ IntsAt w d f.p.d ∧ IntsAt w e f.q.d ∧ Typed w d ∧ Typed w e
theorem FracV.below {w W : World} {v : Value} {f : FracD} (h : FracV w v f) (hb : Below w.heap.size w W) : FracV W v f := by
 obtain ⟨d, e, rfl, h1, h2⟩ := h
 exact ⟨d, e, rfl, h1.below RInt.mono hb, h2.below RInt.mono hb⟩
theorem FracF.below {w W : World} {v : Value} {f : FracD} (h : FracF w v f) (hb : Below w.heap.size w W) : FracF W v f := by
 obtain ⟨d, e, rfl, h1, h2, h3, h4⟩ := h
 exact ⟨d, e, rfl, h1.below RInt.mono hb, h2.below RInt.mono hb, h3.below hb, h4.below hb⟩
theorem FracV.mono (f : FracD) : ∀ w w' v, Grows w w' → FracV w v f → FracV w' v f := fun _ _ _ hg h => h.below hg
theorem FracF.mono (f : FracD) : ∀ w w' v, Grows w w' → FracF w v f → FracF w' v f := fun _ _ _ hg h => h.below hg
theorem FracF.set {w : World} {v u : Value} {x : FracD} {g i : Nat} {cs : Array Value} {T : TypeId} {fr : Nat × Nat} (h : FracF w v x) (hg : w.heap[g]? = some (.cells cs T fr)) (hT : T ≠ 3) : FracF (w.setCell ⟨g, i, none⟩ u) v x := by
 obtain ⟨d, e, rfl, h1, h2, h3, h4⟩ := h
 obtain ⟨h5, hne⟩ := typed_set (i := i) (x := u) h3 hg hT
 obtain ⟨h6, hne2⟩ := typed_set (i := i) (x := u) h4 hg hT
 exact ⟨d, e, rfl, ints_grown h1 grown_one hne, ints_grown h2 grown_one hne2, h5, h6⟩
def FracE (w : World) (v : Value) (f : FracD) (e : Int) : Prop := ∃ u, v = .tuple #[u, I e] ∧ FracF w u f
theorem FracE.mono (f : FracD) (e : Int) : ∀ w w' v, Grows w w' → FracE w v f e → FracE w' v f e := fun _ _ _ hg ⟨u, hv, h⟩ => ⟨u, hv, h.below hg⟩
attribute [local go_sem] relOp relAt relUpon
def sameB (x y : BigD) : Bool := x.s == y.s && decide (x.d = y.d)
theorem take_eq_snoc {a b : List Int} {j : Nat} {x y : Int} (h : a.take j = b.take j) (hx : a[j]? = some x) (hy : b[j]? = some y) (e : x = y) : a.take (j + 1) = b.take (j + 1) := by
 obtain ⟨h1, rfl⟩ := List.getElem?_eq_some_iff.1 hx
 obtain ⟨h2, rfl⟩ := List.getElem?_eq_some_iff.1 hy
 rw [List.take_succ_eq_append_getElem h1, List.take_succ_eq_append_getElem h2, h, e]
theorem sgnd_neg (a : Int) : sgnd (-a.sign) (digs a.natAbs) = ofZ (-a) := by
 refine sgnd_digs _ ?_ ?_
 · have := Int.sign_mul_natAbs a; grind
 · rcases Int.lt_trichotomy a 0 with h | h | h
   · rw [Int.sign_eq_neg_one_of_neg h]; exact .inl rfl
   · subst h; right; right; rfl
   · rw [Int.sign_eq_one_of_pos h]; exact .inr (.inl rfl)
theorem cmp_sign (a b : Int) : (a.sign - b.sign).sign = (a - b).sign ∨ a.sign = b.sign := by
 rcases Int.lt_trichotomy a 0 with h | h | h <;> rcases Int.lt_trichotomy b 0 with k | k | k
 · right; rw [Int.sign_eq_neg_one_of_neg h, Int.sign_eq_neg_one_of_neg k]
 · left; have e := sign_lt (x := a) (y := b) (by omega); rw [e, Int.sign_eq_neg_one_of_neg h, k]; decide
 · left; have e := sign_lt (x := a) (y := b) (by omega); rw [e, Int.sign_eq_neg_one_of_neg h, Int.sign_eq_one_of_pos k]; decide
 · left; have e := sign_gt (x := a) (y := b) (by omega); rw [e, Int.sign_eq_neg_one_of_neg k, h]; decide
 · right; rw [h, k]
 · left; have e := sign_lt (x := a) (y := b) (by omega); rw [e, Int.sign_eq_one_of_pos k, h]; decide
 · left; have e := sign_gt (x := a) (y := b) (by omega); rw [e, Int.sign_eq_one_of_pos h, Int.sign_eq_neg_one_of_neg k]; decide
 · left; have e := sign_gt (x := a) (y := b) (by omega); rw [e, Int.sign_eq_one_of_pos h, k]; decide
 · right; rw [Int.sign_eq_one_of_pos h, Int.sign_eq_one_of_pos k]
theorem cmp_same {a b : Int} (h : a.sign = b.sign) : a.sign * ((a.natAbs : Int) - b.natAbs).sign = (a - b).sign := by
 have h1 := Int.sign_mul_natAbs a
 have h2 := Int.sign_mul_natAbs b
 rw [← h] at h2
 have e : a - b = a.sign * ((a.natAbs : Int) - b.natAbs) := by grind
 rw [e, Int.sign_mul, Int.sign_sign]
theorem sign_cases (a : Int) : (a < 0 ∧ a.sign = -1 ∧ (a.natAbs : Int) = -a) ∨ (a = 0 ∧ a.sign = 0 ∧ (a.natAbs : Int) = 0) ∨ (0 < a ∧ a.sign = 1 ∧ (a.natAbs : Int) = a) := by
 rcases Int.lt_trichotomy a 0 with h | h | h
 · exact .inl ⟨h, Int.sign_eq_neg_one_of_neg h, by omega⟩
 · subst h; exact .inr (.inl ⟨rfl, rfl, rfl⟩)
 · exact .inr (.inr ⟨h, Int.sign_eq_one_of_pos h, by omega⟩)
theorem sgnd_add {a b : Int} (h : 0 ≤ a.sign * b.sign) : sgnd (orI a.sign b.sign) (digs ((a.natAbs : Int) + b.natAbs).toNat) = ofZ (a + b) := by
 rcases sign_cases a with ⟨h1, h2, h3⟩ | ⟨h1, h2, h3⟩ | ⟨h1, h2, h3⟩ <;> rcases sign_cases b with ⟨k1, k2, k3⟩ | ⟨k1, k2, k3⟩ | ⟨k1, k2, k3⟩ <;> rw [h2, k2] at h ⊢ <;> first
  | (exfalso; revert h; decide)
  | (refine sgnd_digs _ ?_ ?_
     · rw [orI]; first | (rw [if_pos rfl]; omega) | (rw [if_neg (by decide)]; omega)
     · rw [orI]; first | (rw [if_pos rfl]; first | exact .inl rfl | exact .inr (.inl rfl) | (right; right; omega)) | (rw [if_neg (by decide)]; first | exact .inl rfl | exact .inr (.inl rfl)))
theorem sgnd_sub1 {a b : Int} (h : ¬ 0 ≤ a.sign * b.sign) (hlt : (a.natAbs : Int) < b.natAbs) : sgnd b.sign (digs (b.natAbs - a.natAbs)) = ofZ (a + b) := by
 rcases sign_cases a with ⟨h1, h2, h3⟩ | ⟨h1, h2, h3⟩ | ⟨h1, h2, h3⟩ <;> rcases sign_cases b with ⟨k1, k2, k3⟩ | ⟨k1, k2, k3⟩ | ⟨k1, k2, k3⟩ <;> rw [h2, k2] at h <;> rw [k2] <;> first
  | (exfalso; revert h; decide)
  | (refine sgnd_digs _ (by omega) ?_; first | exact .inl rfl | exact .inr (.inl rfl))
theorem sgnd_sub2 {a b : Int} (h : ¬ 0 ≤ a.sign * b.sign) (hlt : ¬ (a.natAbs : Int) < b.natAbs) : sgnd a.sign (digs (a.natAbs - b.natAbs)) = ofZ (a + b) := by
 rcases sign_cases a with ⟨h1, h2, h3⟩ | ⟨h1, h2, h3⟩ | ⟨h1, h2, h3⟩ <;> rcases sign_cases b with ⟨k1, k2, k3⟩ | ⟨k1, k2, k3⟩ | ⟨k1, k2, k3⟩ <;> rw [h2, k2] at h <;> rw [h2] <;> first
  | (exfalso; revert h; decide)
  | (refine sgnd_digs _ (by omega) ?_; first | exact .inl rfl | exact .inr (.inl rfl))
attribute [local go_sem] relOp relAt relUpon and_mask_u
theorem sgnd_one (n : Nat) : sgnd 1 (digs n) = ofZ n := sgnd_digs _ (by omega) (.inl rfl)
theorem digs_le {a b : Nat} (h : a ≤ b) : (digs a).length ≤ (digs b).length := length_digs_le (by have := lt_length_digs b; omega)
theorem sgnd_div {a g c : Int} (hg : 0 < g) (h : a = g * c) : sgnd (a.sign * g.sign) (digs (a.natAbs / g.natAbs)) = ofZ c := by
 have e1 : a.natAbs / g.natAbs = c.natAbs := by
  rw [h, Int.natAbs_mul, Nat.mul_div_cancel_left _ (by omega)]
 have e2 : a.sign * g.sign = c.sign := by
  rw [h, Int.sign_mul, Int.sign_eq_one_of_pos hg]; omega
 rw [e1, e2]
 refine sgnd_digs _ (Int.sign_mul_natAbs c).symm ?_
 rcases sign_cases c with ⟨h1, h2, h3⟩ | ⟨h1, h2, h3⟩ | ⟨h1, h2, h3⟩
 · exact .inr (.inl h2)
 · subst h1; right; right; rfl
 · exact .inl h2
theorem sgnd_nil (s : Int) : sgnd s (digs 0) = zB := by unfold sgnd; rw [digs_zero]; rfl
attribute [local go_sem] and_mask_u
theorem wrap_u64_in {n : Int} (h0 : 0 ≤ n) (h1 : n < 18446744073709551616) : IntKind.u64.wrap n = n := by
 simp only [IntKind.wrap, IntKind.bits, IntKind.signed]
 simp; omega
theorem wraps_u64 (n : Int) (h0 : 0 ≤ n) (h1 : n < 2 ^ 64) : IntKind.u64.wrap n = n := wrap_u64_in h0 (by omega)
theorem or_u64 (i : Nat) {x y : Int} (hy : 0 ≤ y) (hy1 : y < 2 ^ i) (hx : 0 ≤ x) (hx1 : x * 2 ^ i < 2 ^ 64) (hy2 : y < 2 ^ 64) : bits .or .u64 y (x * 2 ^ i) = y + x * 2 ^ i := by
 have hp : (0 : Int) < 2 ^ i := Int.pow_pos (by decide)
 have hc : bits .or .u64 y (x * 2 ^ i) = bits .or .u64 (x * 2 ^ i) y := by simp only [bits, BitVec.or_comm]
 rw [hc, bits_join .u64 64 (by decide) wraps_u64 i _ _ (Int.mul_nonneg hx (by omega)) (Int.mul_emod_left _ _) hx1 hy hy1 hy2]
 omega
def RetInt1 (z : Int) (w : World) (e : Ending) (w' : World) : Prop := ∃ (n : Int) (ok : Bool), e = .returned (.tuple #[I n, B ok]) ∧ (ok && (n == 1)) = decide (z = 1) ∧ Below w.heap.size w w'
theorem int1_no {z : Int} (h : z ≠ 1) : (false && ((0 : Int) == 1)) = decide (z = 1) := by simp [h]
theorem int1_yes (z : Int) : (true && (z == 1)) = decide (z = 1) := by
 rw [Bool.true_and, Bool.eq_iff_iff]; simp
set_option maxRecDepth 100000 in
set_option maxHeartbeats 8000000 in
theorem Int_one (z : Int) (hz : 0 ≤ z) (va : Value) (w : World) (ha : BigZ w va z) : Calls Tryz.prog 228 #[va] w (RetInt1 z w) := by
 obtain ⟨da, rfl, ia⟩ := ha
 obtain ⟨A, ca, rfl, hla, hca⟩ := ia.shape
 have HA := Lib.hid (fun W (h : IntsAt W (.slice A (ofZ z).d.length ca) (ofZ z).d) => right_ok z (.agg #[I (ofZ z).s, .slice A (ofZ z).d.length ca]) W ⟨_, rfl, h⟩)
 have Hia := Lib.hid ia
 have hs0 : 0 ≤ z.sign := sign_nn hz
 have hval : val (digs z.natAbs) = z := by rw [val_digs]; omega
 have hnorm := norm_digs z.natAbs
 have hsa : (ofZ z).s = z.sign := rfl
 have hda : (ofZ z).d = digs z.natAbs := rfl
 simp only [hsa, hda] at *
 clear hsa hda ia
 generalize digs z.natAbs = l at *
 unfold maxLen at hca
 have HV := Lib.hid hval; clear hval
 have Hbig : ∀ k x, l[k]? = some x → 1 ≤ k → 1 ≤ x → Hid (z ≠ 1) := fun k x hx hk hx1 => Lib.hid <| by
  have h1 := val_ge_get (fun d hd => (hnorm.1 d hd).1) hx
  rw [HV.out] at h1
  have h2 := bp_le hk
  have h3 : bp k * 1 ≤ bp k * x := Int.mul_le_mul_of_nonneg_left hx1 (Int.le_of_lt (bp_pos k))
  simp only [bp] at h2
  omega
 by_cases hl : 4 < l.length
 · have hz1 : Hid (z ≠ 1) := by
     have hx : l[l.length - 1]? = some l[l.length - 1] := List.getElem?_eq_getElem (by omega)
     refine Hbig _ _ hx (by omega) ?_
     have h1 := dig_get hnorm.1 hx
     have h2 := hnorm.2 _ (by rw [List.getLast?_eq_getElem?]; exact hx)
     omega
   have hl4 : (4 : Int) < (l.length : Int) := by omega
   have HB := Lib.hid Hbig; clear Hbig
   go_enter Tryz.func228, Tryz.ntmps228
   go_wp2_with (go_at_call 185; refine (HA.out _ (Hia.out.below RInt.mono (below_alloc _ _))).mono ?_; rintro e w1 ⟨rfl, hb1⟩; obtain ⟨hs1, hb1', k0⟩ := boxes1 hb1; obtain ⟨a0, a1, af⟩ := cells2 k0)
   go_ret2
   exact ⟨0, false, rfl, int1_no hz1.out, hb1'⟩
 · have hl4 : (l.length : Int) ≤ 4 := by omega
   have HB := Lib.hid Hbig; clear Hbig
   go_enter Tryz.func228, Tryz.ntmps228
   go_upto_region 3 with (go_at_call 185; refine (HA.out _ (Hia.out.below RInt.mono (below_alloc _ _))).mono ?_; rintro e w1 ⟨rfl, hb1⟩; obtain ⟨hs1, hb1', k0⟩ := boxes1 hb1; obtain ⟨a0, a1, af⟩ := cells2 k0)
   clear k0
   have hi1 := Hia.out.below RInt.mono hb1'
   have hnorm' := Lib.hid hnorm; clear hnorm
   go_wp2_with fail
   go_loop [19, 4] (fun i u => ∃ j : Nat, j ≤ l.length ∧ i = I j ∧ u = .int .u64 (val (l.take j)) ∧ 0 ≤ val (l.take j) ∧ val (l.take j) < bp j ∧ (j = 4 → val (l.take j) < 10376293541461622784)) (fun i _ => l.length - (intOf i).toNat)
   case atStart => exact ⟨0, by omega, rfl, rfl, by simp [val], by simp [val, bp], fun h => by omega⟩
   case round =>
    obtain ⟨j, hj, rfl, rfl, hu0, hu1, hu4⟩ := hrel
    by_cases hlt : j < l.length
    · obtain ⟨bx, ox, x, rfl, hbx, hx, hcx⟩ := IntsAt.get1 hi1 hlt
      obtain ⟨hx0, hx1⟩ := dig_get hnorm'.out.1 hx.out
      have hstep := Lib.hid (val_take_get hx.out)
      clear hu4
      generalize val (l.take j) = U at *
      have hjc : j = 0 ∨ j = 1 ∨ j = 2 ∨ j = 3 := by omega
      rcases hjc with rfl | rfl | rfl | rfl
      · have hU : U = 0 := by simp only [bp] at hu1; omega
        subst hU
        have hor := or_u64 0 (x := x) (y := 0) (by omega) (by decide) hx0 (by omega) (by decide)
        simp only [Int.pow_zero, Int.mul_one, Int.zero_add] at hor
        have hw' := wrap_u64_in hx0 (by omega)
        clear hu0 hu1
        rw [Nat.add_zero] at hcx
        go_wp2_with fail
        go_round
        case rel =>
         have e := hstep.out
         simp only [bp, Int.one_mul, Int.zero_add] at e
         exact ⟨1, by omega, rfl, by rw [e], by rw [e]; exact hx0, by rw [e]; simp only [bp]; omega, fun h => by omega⟩
        case measure => simp [intOf]; omega
      · simp only [bp] at hu1
        have hor := or_u64 20 (x := x) (y := U) hu0 (by omega) hx0 (by omega) (by omega)
        rw [show (2 : Int) ^ 20 = 1048576 by decide] at hor
        have hw' := wrap_u64_in (n := x * 1048576) (by omega) (by omega)
        have hw2 := wrap_u64_in hx0 (by omega)
        go_wp2_with fail
        go_round
        case rel =>
         have e := hstep.out
         simp only [bp] at e
         have e' : U + x * 1048576 = val (l.take (1 + 1)) := by rw [e]; omega
         exact ⟨2, by omega, rfl, by rw [e'], by rw [← e']; omega, by rw [← e']; simp only [bp]; omega, fun h => by omega⟩
        case measure => simp [intOf]; omega
      · simp only [bp] at hu1
        have hor := or_u64 40 (x := x) (y := U) hu0 (by omega) hx0 (by omega) (by omega)
        rw [show (2 : Int) ^ 40 = 1099511627776 by decide] at hor
        have hw' := wrap_u64_in (n := x * 1099511627776) (by omega) (by omega)
        have hw2 := wrap_u64_in hx0 (by omega)
        go_wp2_with fail
        go_round
        case rel =>
         have e := hstep.out
         simp only [bp] at e
         have e' : U + x * 1099511627776 = val (l.take (2 + 1)) := by rw [e]; omega
         exact ⟨3, by omega, rfl, by rw [e'], by rw [← e']; omega, by rw [← e']; simp only [bp]; omega, fun h => by omega⟩
        case measure => simp [intOf]; omega
      · simp only [bp] at hu1
        by_cases h8 : 8 < x
        · have hz1 := HB.out 3 x hx.out (by omega) (by omega)
          clear hu0 hu1
          go_wp2_with fail
          go_ret2
          exact ⟨0, false, rfl, int1_no hz1.out, hb1'⟩
        · have hor := or_u64 60 (x := x) (y := U) hu0 (by omega) hx0 (by omega) (by omega)
          rw [show (2 : Int) ^ 60 = 1152921504606846976 by decide] at hor
          have hw' := wrap_u64_in (n := x * 1152921504606846976) (by omega) (by omega)
          have hw2 := wrap_u64_in hx0 (by omega)
          go_wp2_with fail
          go_round
          case rel =>
           have e := hstep.out
           simp only [bp] at e
           have e' : U + x * 1152921504606846976 = val (l.take (3 + 1)) := by rw [e]; omega
           exact ⟨4, by omega, rfl, by rw [e'], by rw [← e']; omega, by rw [← e']; simp only [bp]; omega, fun h => by rw [← e']; omega⟩
          case measure => simp [intOf]; omega
    · have e : j = l.length := by omega
      subst e
      rw [List.take_length] at hu0 hu1 hu4 ⊢
      rw [HV.out] at hu0 hu1 hu4 ⊢
      have hz64 : z < 18446744073709551616 := by
       rcases Nat.lt_or_ge l.length 4 with h | h
       · have h1 := bp_le (a := l.length) (b := 3) (by omega)
         simp only [bp] at h1
         omega
       · have := hu4 (by omega)
         omega
      clear hu1 hu4
      by_cases h63 : z < 9223372036854775808
      · have hw3 : IntKind.i64.wrap z = z := IntWalk.i64_in _ (by omega)
        go_wp2_with fail
        go_ret2
        exact ⟨z, true, rfl, int1_yes z, hb1'⟩
      · go_wp2_with fail
        go_ret2
        exact ⟨0, false, rfl, int1_no (by omega), hb1'⟩
theorem one_ok (z : Int) (hz : 0 ≤ z) (va : Value) (w : World) (ha : BigZ w va z) : Calls Tryz.prog 187 #[va] w fun e w' => e = .returned (B (decide (z = 1))) ∧ Below w.heap.size w w' := by
 obtain ⟨da, rfl, ia⟩ := ha
 obtain ⟨A, ca, rfl, hla, hca⟩ := ia.shape
 have HA := Lib.hid (fun W h => Int_one z hz (.agg #[I (ofZ z).s, .slice A (ofZ z).d.length ca]) W h)
 have Hia := Lib.hid ia
 go_enter Tryz.func187, Tryz.ntmps187
 go_upto_region 2 with (go_at_call 228; fail)
 go_at_call 228
 refine (HA.out _ ⟨_, rfl, Hia.out.below RInt.mono (below_alloc _ _)⟩).mono ?_
 rintro e w1 ⟨n, ok, rfl, hd, hb1⟩
 have Hd := Lib.hid hd; clear hd
 have hb1' := (below_alloc w (.cells #[I (ofZ z).s, .slice A (ofZ z).d.length ca] 30)).trans (hb1.mono (below_alloc w _).size)
 cases ok with
 | false =>
   go_wp2_with fail
   go_ret
   exact ⟨retB (by rw [← Hd.out]; rfl), hb1'⟩
 | true =>
   go_wp2_with fail
   go_ret
   exact ⟨retB (by rw [← Hd.out]; rfl), hb1'⟩
end Go.Proofs.YtpkdhmnlpnijhaaGreat
