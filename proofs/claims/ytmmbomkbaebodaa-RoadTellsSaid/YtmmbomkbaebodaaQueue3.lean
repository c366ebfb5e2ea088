/-
  container/heap's Push and Pop over the queue of stops.
-/
import Derived.Test.YtmmbomkbaebodaaQueue2
namespace Go.Proofs.Ytmmbomkbaebodaa
set_option linter.unusedVariables false
set_option linter.unusedSimpArgs false
open Go.RowKit

/-- All but the blocks q and g is as it was. -/
structure Only (q g : Nat) (w w' : World) : Prop where
  os : w'.os = w.os
  tape : w'.tape = w.tape
  output : w'.output = w.output
  size : w.heap.size ≤ w'.heap.size
  block : ∀ k, k < w.heap.size → k ≠ q → k ≠ g → w'.heap[k]? = w.heap[k]?

theorem But.only {q g : Nat} {w w' : World} (h : But g w w') : Only q g w w' := ⟨h.os, h.tape, h.output, h.size, fun k hk _ hg => h.block k hk hg⟩
theorem But.onlyq {q g : Nat} {w w' : World} (h : But q w w') : Only q g w w' := ⟨h.os, h.tape, h.output, h.size, fun k hk hq _ => h.block k hk hq⟩
theorem Only.trans {q g : Nat} {a b c : World} (h : Only q g a b) (k : Only q g b c) : Only q g a c :=
  ⟨k.os.trans h.os, k.tape.trans h.tape, k.output.trans h.output, Nat.le_trans h.size k.size, fun i hi hq hg => (k.block i (Nat.lt_of_lt_of_le hi h.size) hq hg).trans (h.block i hi hq hg)⟩

theorem heappush_any (q g cap : Nat) (l : List Stop) (x : Stop) (w : World) (h : QAt w q g cap l) (hh : HeapN l l.length) (hn : l.length ≤ 1000000000000) :
    Calls Try.prog 30 #[.iface 54 (.pointer (some ⟨q, 0, none⟩)), .iface 53 (.agg #[I x.1, I x.2])] w fun e w' => e = .returned (.tuple #[]) ∧
      ∃ g' cap' l', QAt w' q g' cap' l' ∧ l'.Perm (l ++ [x]) ∧ HeapN l' l'.length ∧ (g' = g ∨ w.heap.size ≤ g') ∧ Only q g w w' := by
  have hmp := meth_push q
  go_enter Try.func30, Try.ntmps30
  go_wp2_with (go_at_call 51; refine (push_any _ _ _ _ _ _ h (by omega)).mono ?_; rintro e w1 ⟨rfl, g', cap', hQ, hg, b1, b2, b3, b4, b5⟩; have hml := meth_len hQ.cell)
  go_wp2_with (go_at_call 28; refine (len_any _ _ _ _).mono ?_; rintro e w' ⟨rfl, rfl⟩)
  go_wp2_with (go_at_call 32; refine (up_any _ _ _ (l ++ [x]) l.length _ hQ (by simp) (by simpa using up_start x hh) (by simp; omega)).mono ?_; rintro e w' ⟨rfl, l', hQ', hp, hh', hb⟩)
  go_end0
  refine ⟨rfl, g', cap', l', hQ', hp, hh', hg, ⟨hb.os.trans b1, hb.tape.trans b2, hb.output.trans b3, Nat.le_trans b4 hb.size, fun k hk hkq hkg => ?_⟩⟩
  rw [hb.block k (by omega) (by rcases hg with hg | hg <;> omega)]
  exact b5 k hk hkq hkg

theorem tm_take {l : List Stop} {n c : Nat} (hc : c < n) : tm (l.take n) c = tm l c := by simp [tm, List.getElem?_take, hc]
theorem heapN_take {l : List Stop} {n : Nat} (h : HeapN l n) : HeapN (l.take n) n := fun c h0 hc => by
  rw [tm_take hc, tm_take (by omega)]; exact h c h0 hc

theorem heappop_any (q g cap : Nat) (l : List Stop) (w : World) (h : QAt w q g cap l) (hh : HeapN l l.length) (hne : 0 < l.length) (hn : l.length ≤ 1000000000000) :
    Calls Try.prog 29 #[.iface 54 (.pointer (some ⟨q, 0, none⟩))] w fun e w' => ∃ (x : Stop) (l' : List Stop), e = .returned (.iface 53 (.agg #[I x.1, I x.2])) ∧
      QAt w' q g cap l' ∧ (x :: l').Perm l ∧ (∀ y ∈ l, x.1 ≤ y.1) ∧ HeapN l' l'.length ∧ Only q g w w' := by
  have hmp := meth_pop q
  have hml := meth_len h.cell
  have hms := meth_swap h.cell
  obtain ⟨n, hnl⟩ : ∃ n, n + 1 = l.length := ⟨l.length - 1, by omega⟩
  have e1 : (l.length : Int) - 1 = (n : Int) := by omega
  have hl9 : l.length ≤ 9223372036854775807 := by omega
  have hn0 : n < l.length := by omega
  have Hnl := Lib.hid hnl; clear hnl
  go_enter Try.func29, Try.ntmps29
  go_wp2_with (go_at_call 28; refine (len_any _ _ _ _).mono ?_; rintro e w' ⟨rfl, rfl⟩)
  go_wp2_with (go_at_call 52; refine (swap_any g cap l 0 n _ h.row hne hn0 hl9).mono ?_; rintro e w1 ⟨rfl, hr1, hb1⟩)
  have hQ1 := h.swapped (swapL_length _ _ _) hr1 hb1
  go_wp2_with (go_at_call 31; refine (down_any q g cap (swapL l 0 n) n w1 hQ1 (by rw [swapL_length]; exact Hnl.out) (down_start (by rw [Hnl.out]; exact hh) Hnl.out.symm) (by rw [swapL_length]; omega)).mono ?_; rintro e w2 ⟨⟨b, rfl⟩, l2, hQ2, hp2, hh2, hl2, hb2⟩)
  have hl2len : l2.length = l.length := by rw [hp2.length_eq, swapL_length]
  obtain ⟨x, hx⟩ : ∃ x, l[0]? = some x := ⟨_, List.getElem?_eq_getElem hne⟩
  have hx2 : l2[n]? = some x := by rw [hl2, swapL_get hne hn0, if_pos rfl, hx]
  have Hx := Lib.hid hx; clear hx
  have Hx2 := Lib.hid hx2; clear hx2
  have Hl2 := Lib.hid hl2; clear hl2
  have HL := Lib.hid hl2len; clear hl2len
  go_wp2_with (go_at_call 50; refine (pop_any q g cap l2 n x w2 hQ2 (by rw [HL.out]; exact Hnl.out) Hx2.out (by rw [HL.out]; omega)).mono ?_; rintro e w3 ⟨rfl, hQ3, hb3⟩)
  go_ret
  have hlen : (l2.take n).length = n := by have := HL.out; have := Hnl.out; simp; omega
  refine ⟨x, l2.take n, rfl, hQ3, ?_, fun y hy => ?_, ?_, (hb1.only.trans hb2.only).trans hb3.onlyq⟩
  · have e2 : l2 = l2.take n ++ [x] := by
      have := HL.out
      have := Hnl.out
      apply List.ext_getElem?
      intro j
      by_cases hj : j < n
      · rw [List.getElem?_append_left (by omega), List.getElem?_take, if_pos hj]
      · by_cases hjn : j = n
        · subst hjn; rw [Hx2.out, List.getElem?_append_right (by omega), hlen]; simp
        · rw [List.getElem?_eq_none (by omega), List.getElem?_eq_none (by simp; omega)]
    have p1 : (x :: l2.take n).Perm (l2.take n ++ [x]) := (List.perm_append_singleton x (l2.take n)).symm
    rw [← e2] at p1
    exact p1.trans (hp2.trans (swapL_perm _ _ _))
  · obtain ⟨c, hc, rfl⟩ := List.mem_iff_getElem.1 hy
    have := heap_root hh c hc
    rw [tm_of_get Hx.out, tm_of_get (List.getElem?_eq_getElem hc)] at this
    exact this
  · rw [hlen]; exact heapN_take hh2

end Go.Proofs.Ytmmbomkbaebodaa
