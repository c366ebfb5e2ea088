/-
  The queue of stops in memory: the walks of its methods.
-/
import Derived.Test.YtmmbomkbaebodaaRows
import Derived.Test.YtmmbomkbaebodaaBase
import Derived.Test.YtmmbomkbaebodaaHeap
import Derived.BigRegion
import Derived.Deep.RegionHeld3
import Derived.Deep.AppendLies
import Derived.WalkSpells
import Derived.Outline
namespace Go.Proofs.Ytmmbomkbaebodaa
set_option linter.unusedVariables false
set_option linter.unusedSimpArgs false
open Go.RowKit

def flat (l : List Stop) : List Value := l.flatMap fun x => [I x.1, I x.2]
theorem flat_length (l : List Stop) : (flat l).length = l.length * 2 := by
  induction l with
  | nil => rfl
  | cons x l ih => simp only [flat, List.flatMap_cons, List.length_append, List.length_cons, List.length_nil] at ih ⊢; omega
theorem flat_cons (x : Stop) (l : List Stop) : flat (x :: l) = I x.1 :: I x.2 :: flat l := rfl
theorem flat_append (l r : List Stop) : flat (l ++ r) = flat l ++ flat r := by simp [flat]
theorem flat_get0 {l : List Stop} {i : Nat} {x : Stop} (h : l[i]? = some x) : (flat l)[i * 2]? = some (I x.1) := by
  induction l generalizing i with
  | nil => simp at h
  | cons y l ih =>
    cases i with
    | zero => simp at h; subst h; rfl
    | succ i => rw [flat_cons, show (i + 1) * 2 = i * 2 + 1 + 1 by omega]; simpa using ih (by simpa using h)
theorem flat_get1 {l : List Stop} {i : Nat} {x : Stop} (h : l[i]? = some x) : (flat l)[i * 2 + 1]? = some (I x.2) := by
  induction l generalizing i with
  | nil => simp at h
  | cons y l ih =>
    cases i with
    | zero => simp at h; subst h; rfl
    | succ i => rw [flat_cons, show (i + 1) * 2 + 1 = (i * 2 + 1) + 1 + 1 by omega]; simpa using ih (by simpa using h)
theorem flat_set (l : List Stop) (i : Nat) (x : Stop) : flat (l.set i x) = ((flat l).set (i * 2) (I x.1)).set (i * 2 + 1) (I x.2) := by
  induction l generalizing i with
  | nil => rfl
  | cons y l ih =>
    cases i with
    | zero => rfl
    | succ i => rw [List.set_cons_succ, flat_cons, flat_cons, ih, show (i + 1) * 2 = i * 2 + 1 + 1 by omega]; rfl
theorem flat_take (l : List Stop) (n : Nat) : (flat l).take (n * 2) = flat (l.take n) := by
  induction l generalizing n with
  | nil => simp [flat]
  | cons y l ih =>
    cases n with
    | zero => rfl
    | succ n => rw [List.take_succ_cons, flat_cons, flat_cons, ← ih, show (n + 1) * 2 = n * 2 + 1 + 1 by omega]; rfl

/-- The stops l lie at the head of block g. -/
def QRow (w : World) (g cap : Nat) (l : List Stop) : Prop := w.ownsRow 0 53 2 (.slice (some ⟨g, 0, none⟩) l.length cap) l.length (flat l)

/-- All but block g is as it was. -/
structure But (g : Nat) (w w' : World) : Prop where
  os : w'.os = w.os
  tape : w'.tape = w.tape
  output : w'.output = w.output
  size : w.heap.size ≤ w'.heap.size
  block : ∀ k, k < w.heap.size → k ≠ g → w'.heap[k]? = w.heap[k]?

theorem But.refl (g : Nat) (w : World) : But g w w := ⟨rfl, rfl, rfl, Nat.le_refl _, fun _ _ _ => rfl⟩
theorem But.trans {g : Nat} {a b c : World} (h : But g a b) (k : But g b c) : But g a c :=
  ⟨k.os.trans h.os, k.tape.trans h.tape, k.output.trans h.output, Nat.le_trans h.size k.size, fun i hi hg => (k.block i (Nat.lt_of_lt_of_le hi h.size) hg).trans (h.block i hi hg)⟩
theorem But.drew {g : Nat} {a w : World} (h : But g a w) : But g a w.drew := ⟨h.os, h.tape, h.output, h.size, h.block⟩
theorem But.drewN {g : Nat} {a w : World} (h : But g a w) : ∀ n, But g a (w.drewN n)
  | 0 => h
  | n + 1 => (But.drewN h n).drew
theorem But.alloc {g : Nat} {a w : World} (h : But g a w) (o : Obj) : But g a (w.alloc o) :=
  h.trans ⟨rfl, rfl, rfl, by simp, fun k hk _ => Below.heap_alloc _ _ _ hk⟩
theorem But.grown {g : Nat} {a w w' : World} (h : But g a w) (hg : w.grownBy w' (some g)) : But g a w' :=
  h.trans ⟨hg.os, hg.tape, hg.output, hg.size, fun k hk hne => hg.block k hk (by simpa using hne)⟩
theorem But.cell {g : Nat} {w w' : World} (h : But g w w') {b o : Nat} {v : Value} (hc : w.cell? ⟨b, o, none⟩ = some v) (hb : b ≠ g) : w'.cell? ⟨b, o, none⟩ = some v :=
  (World.cell?_of_block (h.block b (World.block_lt_of_cell? w _ hc) hb)).trans hc

theorem QRow.lt {w : World} {g cap : Nat} {l : List Stop} (h : QRow w g cap l) : g < w.heap.size := (World.ownsRow.lt h g rfl).2
theorem QRow.get {w : World} {g cap : Nat} {l : List Stop} (h : QRow w g cap l) {i : Nat} {x : Stop} (hi : l[i]? = some x) :
    w.cell? ⟨g, i * 2, none⟩ = some (I x.1) ∧ w.cell? ⟨g, i * 2 + 1, none⟩ = some (I x.2) := by
  have hlt : i < l.length := (List.getElem?_eq_some_iff.1 hi).1
  exact ⟨(h.cellAt _ (by omega)).trans (flat_get0 hi), (h.cellAt _ (by omega)).trans (flat_get1 hi)⟩
theorem QRow.free {w : World} {g cap : Nat} {l : List Stop} (h : QRow w g cap l) (j : Nat) : w.frozen? ⟨g, j, none⟩ = false := h.frozenAt j
theorem QRow.of_block {w w' : World} {g cap : Nat} {l : List Stop} (h : QRow w g cap l) (hb : w'.heap[g]? = w.heap[g]?) : QRow w' g cap l := by
  obtain ⟨h1, h2⟩ := h
  refine ⟨h1, ?_⟩
  rcases h2 with ⟨h2, _⟩ | ⟨g', cap', cur, hv, hg, hh, r⟩
  · cases h2
  · refine .inr ⟨g', cap', cur, hv, hg, ?_, r⟩
    simp only [Value.slice.injEq, Option.some.injEq, Addr.mk.injEq, and_true, true_and] at hv
    obtain ⟨rfl, rfl⟩ := hv
    rw [hb]; exact hh
theorem QRow.drewN {w : World} {g cap : Nat} {l : List Stop} (h : QRow w g cap l) (n : Nat) : QRow (w.drewN n) g cap l := h.of_block rfl

theorem len_any (a : Option Addr) (n c : Nat) (w : World) : Calls Try.prog 28 #[.slice a n c] w fun e w' => e = .returned (I n) ∧ w = w' := by
  go_enter Try.func28, Try.ntmps28
  go_wp2
  go_ret
  exact ⟨rfl, rfl⟩

theorem less_any (g cap : Nat) (l : List Stop) (i k : Nat) (w : World) (h : QRow w g cap l) (hi : i < l.length) (hk : k < l.length) (hn : l.length ≤ 9223372036854775807) :
    Calls Try.prog 49 #[.slice (some ⟨g, 0, none⟩) l.length cap, I i, I k] w fun e w' => e = .returned (B (decide (tm l i < tm l k))) ∧ ∃ m, w' = w.drewN m := by
  obtain ⟨x, hx⟩ : ∃ x, l[i]? = some x := ⟨_, List.getElem?_eq_getElem hi⟩
  obtain ⟨y, hy⟩ : ∃ y, l[k]? = some y := ⟨_, List.getElem?_eq_getElem hk⟩
  have e1 := tm_of_get hx
  have e2 := tm_of_get hy
  obtain ⟨c0, _⟩ := h.get hx
  obtain ⟨c1, _⟩ := h.get hy
  rw [e1, e2]
  have hlt := h.lt
  clear e1 e2 hx hy
  go_enter Try.func49, Try.ntmps49
  go_wp2
  go_quiet (fail)
  go_wp2
  go_ret
  exact ⟨retB (by simp), _, rfl⟩

theorem QRow.swap4 {w : World} {g cap : Nat} {l : List Stop} (h : QRow w g cap l) {i k : Nat} {x y : Stop} (hi : l[i]? = some x) (hk : l[k]? = some y) :
    QRow ((((w.setCell ⟨g, i * 2, none⟩ (I y.1)).setCell ⟨g, i * 2 + 1, none⟩ (I y.2)).setCell ⟨g, k * 2, none⟩ (I x.1)).setCell ⟨g, k * 2 + 1, none⟩ (I x.2)) g cap (swapL l i k) ∧
    But g w ((((w.setCell ⟨g, i * 2, none⟩ (I y.1)).setCell ⟨g, i * 2 + 1, none⟩ (I y.2)).setCell ⟨g, k * 2, none⟩ (I x.1)).setCell ⟨g, k * 2 + 1, none⟩ (I x.2)) := by
  obtain ⟨hi', rfl⟩ := List.getElem?_eq_some_iff.1 hi
  obtain ⟨hk', rfl⟩ := List.getElem?_eq_some_iff.1 hk
  have s1 := World.ownsRow.stored h (i * 2) (I l[k].1)
  have s2 := World.ownsRow.stored s1.1 (i * 2 + 1) (I l[k].2)
  have s3 := World.ownsRow.stored s2.1 (k * 2) (I l[i].1)
  have s4 := World.ownsRow.stored s3.1 (k * 2 + 1) (I l[i].2)
  refine ⟨?_, ((((But.refl g w).grown s1.2).grown s2.2).grown s3.2).grown s4.2⟩
  have e : flat (swapL l i k) = ((((flat l).set (i * 2) (I l[k].1)).set (i * 2 + 1) (I l[k].2)).set (k * 2) (I l[i].1)).set (k * 2 + 1) (I l[i].2) := by
    unfold swapL; rw [dif_pos ⟨hi', hk'⟩, flat_set, flat_set]
  unfold QRow
  rw [swapL_length, e]
  exact s4.1

theorem swap_any (g cap : Nat) (l : List Stop) (i k : Nat) (w : World) (h : QRow w g cap l) (hi : i < l.length) (hk : k < l.length) (hn : l.length ≤ 9223372036854775807) :
    Calls Try.prog 52 #[.slice (some ⟨g, 0, none⟩) l.length cap, I i, I k] w fun e w' => e = .returned (.tuple #[]) ∧ QRow w' g cap (swapL l i k) ∧ But g w w' := by
  obtain ⟨x, hx⟩ : ∃ x, l[i]? = some x := ⟨_, List.getElem?_eq_getElem hi⟩
  obtain ⟨y, hy⟩ : ∃ y, l[k]? = some y := ⟨_, List.getElem?_eq_getElem hk⟩
  obtain ⟨c0, c1⟩ := h.get hx
  obtain ⟨d0, d1⟩ := h.get hy
  have hlt := h.lt
  have f0 := h.free (i * 2)
  have f1 := h.free (i * 2 + 1)
  have f2 := h.free (k * 2)
  have f3 := h.free (k * 2 + 1)
  obtain ⟨v0, e0⟩ := cell?_setCell_some (w := w) (p := ⟨g, i * 2, none⟩) (x := Value.int .i64 ↑y.1) (q := ⟨g, k * 2, none⟩) d0
  obtain ⟨v1, e1⟩ := cell?_setCell_some (w := w) (p := ⟨g, i * 2, none⟩) (x := Value.int .i64 ↑y.1) (q := ⟨g, k * 2 + 1, none⟩) d1
  obtain ⟨v2, e2⟩ := cell?_setCell_some (w := w.setCell ⟨g, i * 2, none⟩ (Value.int .i64 ↑y.1)) (p := ⟨g, i * 2 + 1, none⟩) (x := Value.int .i64 ↑y.2) (q := ⟨g, k * 2 + 1, none⟩) e1
  clear e1
  go_enter Try.func52, Try.ntmps52
  go_wp2
  go_region
  go_end0
  have R := h.swap4 hx hy
  exact ⟨rfl, R.1.drewN 1, R.2.drew⟩

/-- The queue behind the pointer q holds the stops l. -/
structure QAt (w : World) (q g cap : Nat) (l : List Stop) : Prop where
  head : w.heap[q]? = some (.cells #[.slice (some ⟨g, 0, none⟩) l.length cap] 55 (0, 0))
  ne : q ≠ g
  row : QRow w g cap l

theorem QAt.cell {w : World} {q g cap : Nat} {l : List Stop} (h : QAt w q g cap l) : w.cell? ⟨q, 0, none⟩ = some (.slice (some ⟨g, 0, none⟩) l.length cap) := by
  rw [cell_of_row w q 0 _ _ (0, 0) h.head]; rfl

/-! The methods of the queue, called through the interface. -/
def slc (g n cap : Nat) : Value := .slice (some ⟨g, 0, none⟩) n cap
theorem meth_less {q : Nat} {v : Value} {w : World} (hc : w.cell? ⟨q, 0, none⟩ = some v) : (method 183 54 (.pointer (some ⟨q, 0, none⟩)) "Less").run Try.prog w = .ok (49, v) w := by
  have e : (method 183 54 (.pointer (some ⟨q, 0, none⟩)) "Less").run Try.prog w = (match w.cell? ⟨q, 0, none⟩ with | some v => .ok (49, v) w | none => match w.farLoad Try.prog ⟨q, 0, none⟩ false with | .ok (v, _) => .ok (49, v) w | .error h => .halt h w) := by kernel_rfl
  rw [e, hc]
theorem meth_swap {q : Nat} {v : Value} {w : World} (hc : w.cell? ⟨q, 0, none⟩ = some v) : (method 183 54 (.pointer (some ⟨q, 0, none⟩)) "Swap").run Try.prog w = .ok (52, v) w := by
  have e : (method 183 54 (.pointer (some ⟨q, 0, none⟩)) "Swap").run Try.prog w = (match w.cell? ⟨q, 0, none⟩ with | some v => .ok (52, v) w | none => match w.farLoad Try.prog ⟨q, 0, none⟩ false with | .ok (v, _) => .ok (52, v) w | .error h => .halt h w) := by kernel_rfl
  rw [e, hc]
theorem meth_len {q : Nat} {v : Value} {w : World} (hc : w.cell? ⟨q, 0, none⟩ = some v) : (method 183 54 (.pointer (some ⟨q, 0, none⟩)) "Len").run Try.prog w = .ok (28, v) w := by
  have e : (method 183 54 (.pointer (some ⟨q, 0, none⟩)) "Len").run Try.prog w = (match w.cell? ⟨q, 0, none⟩ with | some v => .ok (28, v) w | none => match w.farLoad Try.prog ⟨q, 0, none⟩ false with | .ok (v, _) => .ok (28, v) w | .error h => .halt h w) := by kernel_rfl
  rw [e, hc]
theorem meth_push (q : Nat) (w : World) : (method 183 54 (.pointer (some ⟨q, 0, none⟩)) "Push").run Try.prog w = .ok (51, .pointer (some ⟨q, 0, none⟩)) w := by kernel_rfl
theorem meth_pop (q : Nat) (w : World) : (method 183 54 (.pointer (some ⟨q, 0, none⟩)) "Pop").run Try.prog w = .ok (50, .pointer (some ⟨q, 0, none⟩)) w := by kernel_rfl

theorem QAt.drewN {w : World} {q g cap : Nat} {l : List Stop} (h : QAt w q g cap l) (n : Nat) : QAt (w.drewN n) q g cap l := ⟨h.head, h.ne, h.row.drewN n⟩
theorem QAt.swapped {w w' : World} {q g cap : Nat} {l l' : List Stop} (h : QAt w q g cap l) (hl : l'.length = l.length) (hr : QRow w' g cap l') (hb : But g w w') : QAt w' q g cap l' := by
  have hq : q < w.heap.size := (Array.getElem?_eq_some_iff.1 h.head).1
  exact ⟨by rw [hb.block q hq h.ne, hl]; exact h.head, h.ne, hr⟩

set_option maxHeartbeats 1000000 in
theorem up_any (q g cap : Nat) (l : List Stop) (j : Nat) (w : World) (h : QAt w q g cap l) (hj : j < l.length) (hu : UpInv l l.length j) (hn : l.length ≤ 4611686018427387903) :
    Calls Try.prog 32 #[.iface 54 (.pointer (some ⟨q, 0, none⟩)), I j] w fun e w' => e = .returned (.tuple #[]) ∧ ∃ l', QAt w' q g cap l' ∧ l'.Perm l ∧ HeapN l' l'.length ∧ But g w w' := by
  go_enter Try.func32, Try.ntmps32
  go_wp2
  go_loopw [1] (fun v wr => ∃ (j : Nat) (l' : List Stop), v = I j ∧ j < l'.length ∧ l'.length = l.length ∧ l'.Perm l ∧ UpInv l' l'.length j ∧ QAt wr q g cap l' ∧ But g w wr) (fun v _ => (intOf v).toNat)
  case atStart => exact ⟨j, l, rfl, hj, rfl, .refl _, hu, h, But.refl _ _⟩
  case round =>
    obtain ⟨j, l', rfl, hj, hll, hp, hu, hQ, hB⟩ := hrel
    have Hll := Lib.hid hll; clear hll
    have hn' : l'.length ≤ 4611686018427387903 := by rw [Hll.out]; exact hn
    have hn'' : l'.length ≤ 9223372036854775807 := by omega
    by_cases h0 : j = 0
    · subst h0
      go_wp2
      go_end0
      exact ⟨rfl, l', hQ, hp, up_done hu (.inl rfl), hB⟩
    · have hj1 : 1 ≤ j := by omega
      obtain ⟨p, hpj⟩ : ∃ p : Nat, p = (j - 1) / 2 := ⟨_, rfl⟩
      have ep : ((j : Int) - 1) / 2 = (p : Int) := by omega
      have hpl : p < l'.length := by omega
      have hne : ((p : Int) == (j : Int)) = false := by simp; omega
      have Hpj := Lib.hid hpj; clear hpj
      have hm1 := meth_less hQ.cell
      have hm2 : ∀ m, _ := fun m => meth_swap (hQ.drewN m).cell
      by_cases hlt : tm l' j < tm l' p
      · have hd : decide (tm l' j < tm l' p) = true := by simpa using hlt
        have hlt' := Lib.hid hlt; clear hlt
        go_wp2_with (first
          | (go_at_call 49; refine (less_any _ _ _ _ _ _ hQ.row hj hpl hn'').mono ?_; rintro e w' ⟨rfl, m, rfl⟩)
          | (go_at_call 52; refine (swap_any _ _ _ _ _ _ (hQ.row.drewN _) hpl hj hn'').mono ?_; rintro e w' ⟨rfl, hr1, hb1⟩))
        go_roundw
        case rel => 
          refine ⟨p, swapL l' p j, rfl, by rw [swapL_length]; exact hpl, by rw [swapL_length]; exact Hll.out, (swapL_perm _ _ _).trans hp, ?_, (hQ.drewN _).swapped (swapL_length _ _ _) hr1 hb1, hB.trans (((But.refl g wr).drewN _).trans hb1)⟩
          rw [swapL_length, Hpj.out]
          exact up_step (Nat.le_refl _) hj hj1 hu (by rw [← Hpj.out]; exact hlt'.out)
        case measure => simp [intOf]; have := Hpj.out; omega
      · have hd : decide (tm l' j < tm l' p) = false := by simpa using hlt
        have hlt' := Lib.hid hlt; clear hlt
        go_wp2_with (first
          | (go_at_call 49; refine (less_any _ _ _ _ _ _ hQ.row hj hpl hn'').mono ?_; rintro e w' ⟨rfl, m, rfl⟩))
        go_end0
        exact ⟨rfl, l', hQ.drewN _, hp, up_done hu (.inr (by rw [← Hpj.out]; have := hlt'.out; omega)), hB.drewN _⟩

theorem down_use {l : List Stop} {n i j1 j2 j : Nat} (h1 : j1 = 2 * i + 1) (h2 : j2 = j1 + 1) (hj : (j = j1 ∧ (j2 < n → tm l j1 ≤ tm l j2)) ∨ (j = j2 ∧ j2 < n ∧ tm l j2 < tm l j1)) :
    (2 * i + 1 < n → tm l j ≤ tm l (2 * i + 1)) ∧ (2 * i + 2 < n → tm l j ≤ tm l (2 * i + 2)) ∧ (j = 2 * i + 1 ∨ j = 2 * i + 2) := by
  subst h1
  have e : j2 = 2 * i + 2 := by omega
  subst e
  rcases hj with ⟨rfl, h⟩ | ⟨rfl, h, h'⟩
  · exact ⟨fun _ => Nat.le_refl _, h, .inl rfl⟩
  · exact ⟨fun _ => Nat.le_of_lt h', fun _ => Nat.le_refl _, .inr rfl⟩

theorem down_next {w wr w' : World} {q g cap : Nat} {l l' : List Stop} {n i j m : Nat} (hN : n + 1 = l.length) (hll : l'.length = l.length) (hp : l'.Perm l) (hu : DownInv l' n i) (hlast : l'[n]? = l[n]?) (hQ : QAt wr q g cap l') (hB : But g w wr)
    (U : (2 * i + 1 < n → tm l' j ≤ tm l' (2 * i + 1)) ∧ (2 * i + 2 < n → tm l' j ≤ tm l' (2 * i + 2)) ∧ (j = 2 * i + 1 ∨ j = 2 * i + 2)) (hj : j < n) (H : tm l' j < tm l' i) (hr1 : QRow w' g cap (swapL l' i j)) (hb1 : But g (wr.drewN m) w') :
    ∃ (i0 : Nat) (l0 : List Stop), Value.int .i64 (j : Int) = I i0 ∧ i0 ≤ n ∧ l0.length = l.length ∧ l0.Perm l ∧ DownInv l0 n i0 ∧ l0[n]? = l[n]? ∧ QAt w' q g cap l0 ∧ But g w w' := by
  refine ⟨j, swapL l' i j, rfl, by omega, by rw [swapL_length]; exact hll, (swapL_perm _ _ _).trans hp, down_step (by omega) hj U.2.2 hu H U.1 U.2.1, ?_, (hQ.drewN m).swapped (swapL_length _ _ _) hr1 hb1, hB.trans (((But.refl g wr).drewN _).trans hb1)⟩
  rw [swapL_get (by omega) (by omega), if_neg (by omega), if_neg (by omega)]
  exact hlast

set_option maxHeartbeats 8000000 in
theorem down_any (q g cap : Nat) (l : List Stop) (n : Nat) (w : World) (h : QAt w q g cap l) (hnl : n + 1 = l.length) (hd : DownInv l n 0) (hn : l.length ≤ 2305843009213693951) :
    Calls Try.prog 31 #[.iface 54 (.pointer (some ⟨q, 0, none⟩)), I 0, I n] w fun e w' => (∃ b, e = .returned (B b)) ∧ ∃ l', QAt w' q g cap l' ∧ l'.Perm l ∧ HeapN l' n ∧ l'[n]? = l[n]? ∧ But g w w' := by
  have Hnl := Lib.hid hnl; clear hnl
  have hn0 : n ≤ 2305843009213693951 := by have := Hnl.out; omega
  go_enter Try.func31, Try.ntmps31
  go_wp2
  go_loopw [7] (fun v wr => ∃ (i : Nat) (l' : List Stop), v = I i ∧ i ≤ n ∧ l'.length = l.length ∧ l'.Perm l ∧ DownInv l' n i ∧ l'[n]? = l[n]? ∧ QAt wr q g cap l' ∧ But g w wr) (fun v _ => n + 1 - (intOf v).toNat)
  case atStart => exact ⟨0, l, rfl, Nat.zero_le _, rfl, .refl _, hd, rfl, h, But.refl _ _⟩
  case round =>
    obtain ⟨i, l', rfl, hi, hll, hp, hu, hlast, hQ, hB⟩ := hrel
    have Hll := Lib.hid hll; clear hll
    have Hlast := Lib.hid hlast; clear hlast
    have hn'' : l'.length ≤ 9223372036854775807 := by rw [Hll.out]; omega
    obtain ⟨j1, hj1⟩ : ∃ j1 : Nat, j1 = 2 * i + 1 := ⟨_, rfl⟩
    have e1 : 2 * (i : Int) + 1 = (j1 : Int) := by omega
    have b1 : j1 ≤ 4611686018427387903 := by omega
    have Hj1 := Lib.hid hj1; clear hj1
    by_cases hlf : n ≤ j1
    · have hle : decide ((n : Int) ≤ (j1 : Int)) = true := by simpa using hlf
      go_wp2
      all_goals
        go_ret
        exact ⟨⟨_, rfl⟩, l', hQ, hp, down_leaf hu (by rw [← Hj1.out]; exact hlf), Hlast.out, hB⟩
    · have hil : i < l'.length := by rw [Hll.out, ← Hnl.out]; omega
      have hj1l : j1 < l'.length := by rw [Hll.out, ← Hnl.out]; omega
      have hm1 : ∀ m, _ := fun m => meth_less (hQ.drewN m).cell
      have hm0 := meth_less hQ.cell
      have hm2 : ∀ m, _ := fun m => meth_swap (hQ.drewN m).cell
      obtain ⟨j2, hj2⟩ : ∃ j2 : Nat, j2 = j1 + 1 := ⟨_, rfl⟩
      have e2 : (j1 : Int) + 1 = (j2 : Int) := by omega
      have b2 : j2 ≤ 4611686018427387904 := by omega
      have hlf' : ¬ ((n : Int) ≤ (j1 : Int)) := by omega
      have hle : decide ((n : Int) ≤ (j1 : Int)) = false := by simpa using hlf
      have hj1n : j1 < n := by omega
      by_cases hj2n : j2 < n
      · have hj2l : j2 < l'.length := by rw [Hll.out, ← Hnl.out]; omega
        have hj2i : (j2 : Int) < (n : Int) := by omega
        by_cases hlt : tm l' j2 < tm l' j1
        · have hd1 : decide (tm l' j2 < tm l' j1) = true := by simpa using hlt
          have U := Lib.hid (down_use (l := l') (n := n) (i := i) Hj1.out hj2 (j := j2) (.inr ⟨rfl, hj2n, hlt⟩))
          clear hlt hj2
          by_cases hlt2 : tm l' j2 < tm l' i
          · have hd2 : decide (tm l' j2 < tm l' i) = true := by simpa using hlt2
            have H2 := Lib.hid hlt2; clear hlt2
            go_wp2_with (first
              | (go_at_call 49; refine (less_any _ _ _ _ _ _ (by first | exact hQ.row | exact hQ.row.drewN _) (by assumption) (by assumption) hn'').mono ?_; rintro e w' ⟨rfl, m, rfl⟩)
              | (go_at_call 52; refine (swap_any _ _ _ _ _ _ (by first | exact (hQ.row.drewN _).drewN _ | exact hQ.row.drewN _) (by assumption) (by assumption) hn'').mono ?_; rintro e w' ⟨rfl, hr1, hb1⟩))
            go_roundw
            case rel => exact down_next Hnl.out Hll.out hp hu Hlast.out hQ hB U.out (by omega) H2.out hr1 hb1
            case measure => simp [intOf]; have := U.out.2.2; omega
          · have hd2 : decide (tm l' j2 < tm l' i) = false := by simpa using hlt2
            have H2 := Lib.hid hlt2; clear hlt2
            go_wp2_with (first
              | (go_at_call 49; refine (less_any _ _ _ _ _ _ (by first | exact hQ.row | exact hQ.row.drewN _) (by assumption) (by assumption) hn'').mono ?_; rintro e w' ⟨rfl, m, rfl⟩))
            go_ret
            exact ⟨⟨_, rfl⟩, l', by first | exact hQ.drewN _ | exact (hQ.drewN _).drewN _, hp, down_done hu (by have := H2.out; omega) U.out.1 U.out.2.1, Hlast.out, by first | exact hB.drewN _ | exact (hB.drewN _).drewN _⟩
        · have hd1 : decide (tm l' j2 < tm l' j1) = false := by simpa using hlt
          have U := Lib.hid (down_use (l := l') (n := n) (i := i) Hj1.out hj2 (j := j1) (.inl ⟨rfl, fun _ => by omega⟩))
          clear hlt hj2
          by_cases hlt2 : tm l' j1 < tm l' i
          · have hd2 : decide (tm l' j1 < tm l' i) = true := by simpa using hlt2
            have H2 := Lib.hid hlt2; clear hlt2
            go_wp2_with (first
              | (go_at_call 49; refine (less_any _ _ _ _ _ _ (by first | exact hQ.row | exact hQ.row.drewN _) (by assumption) (by assumption) hn'').mono ?_; rintro e w' ⟨rfl, m, rfl⟩)
              | (go_at_call 52; refine (swap_any _ _ _ _ _ _ (by first | exact (hQ.row.drewN _).drewN _ | exact hQ.row.drewN _) (by assumption) (by assumption) hn'').mono ?_; rintro e w' ⟨rfl, hr1, hb1⟩))
            go_roundw
            case rel => exact down_next Hnl.out Hll.out hp hu Hlast.out hQ hB U.out (by omega) H2.out hr1 hb1
            case measure => simp [intOf]; have := U.out.2.2; omega
          · have hd2 : decide (tm l' j1 < tm l' i) = false := by simpa using hlt2
            have H2 := Lib.hid hlt2; clear hlt2
            go_wp2_with (first
              | (go_at_call 49; refine (less_any _ _ _ _ _ _ (by first | exact hQ.row | exact hQ.row.drewN _) (by assumption) (by assumption) hn'').mono ?_; rintro e w' ⟨rfl, m, rfl⟩))
            go_ret
            exact ⟨⟨_, rfl⟩, l', by first | exact hQ.drewN _ | exact (hQ.drewN _).drewN _, hp, down_done hu (by have := H2.out; omega) U.out.1 U.out.2.1, Hlast.out, by first | exact hB.drewN _ | exact (hB.drewN _).drewN _⟩
      · have hj2i : ¬ ((j2 : Int) < (n : Int)) := by omega
        have hj2d : decide ((j2 : Int) < (n : Int)) = false := by simpa using hj2i
        have U := Lib.hid (down_use (l := l') (n := n) (i := i) Hj1.out hj2 (j := j1) (.inl ⟨rfl, fun _ => by omega⟩))
        clear hj2
        by_cases hlt2 : tm l' j1 < tm l' i
        · have hd2 : decide (tm l' j1 < tm l' i) = true := by simpa using hlt2
          have H2 := Lib.hid hlt2; clear hlt2
          go_wp2_with (first
            | (go_at_call 49; refine (less_any _ _ _ _ _ _ (by first | exact hQ.row | exact hQ.row.drewN _) (by assumption) (by assumption) hn'').mono ?_; rintro e w' ⟨rfl, m, rfl⟩)
            | (go_at_call 52; refine (swap_any _ _ _ _ _ _ (by first | exact (hQ.row.drewN _).drewN _ | exact hQ.row.drewN _) (by assumption) (by assumption) hn'').mono ?_; rintro e w' ⟨rfl, hr1, hb1⟩))
          go_roundw
          case rel => exact down_next Hnl.out Hll.out hp hu Hlast.out hQ hB U.out (by omega) H2.out hr1 hb1
          case measure => simp [intOf]; have := U.out.2.2; omega
        · have hd2 : decide (tm l' j1 < tm l' i) = false := by simpa using hlt2
          have H2 := Lib.hid hlt2; clear hlt2
          go_wp2_with (first
            | (go_at_call 49; refine (less_any _ _ _ _ _ _ (by first | exact hQ.row | exact hQ.row.drewN _) (by assumption) (by assumption) hn'').mono ?_; rintro e w' ⟨rfl, m, rfl⟩))
          go_ret
          exact ⟨⟨_, rfl⟩, l', by first | exact hQ.drewN _ | exact (hQ.drewN _).drewN _, hp, down_done hu (by have := H2.out; omega) U.out.1 U.out.2.1, Hlast.out, by first | exact hB.drewN _ | exact (hB.drewN _).drewN _⟩

end Go.Proofs.Ytmmbomkbaebodaa
