/-
  The queue of stops in memory: Pop and Push.
-/
import Derived.Test.YtmmbomkbaebodaaQueue
import Derived.Deep.RegionLaw
namespace Go.Proofs.Ytmmbomkbaebodaa
set_option linter.unusedVariables false
set_option linter.unusedSimpArgs false
open Go.RowKit

theorem assert_stop (v : Value) (w : World) : (Instr.typeAssert (.iface 53 v) 20 53 true).run Try.prog w = .ok (.tuple #[v, .bool true]) w := by kernel_rfl
theorem info_stop : (Try.prog.info? 53).map (fun i => (i.zero, i.size, i.bytes)) = some (some (.agg #[.int .i64 0, .int .i64 0]), 2, 16) := by kernel_rfl

/-- The last stop is cut off. -/
theorem QRow.cut {w : World} {g cap n : Nat} {l : List Stop} (h : QRow w g cap l) (hn : n + 1 = l.length) : QRow w g cap (l.take n) := by
  obtain ⟨h1, h2⟩ := h
  have hl : (l.take n).length = n := by simp; omega
  refine ⟨by rw [flat_length], ?_⟩
  rcases h2 with ⟨h2, _⟩ | ⟨g', cap', cur, hv, hg, hh, hc, hm, hs, ht⟩
  · cases h2
  · simp only [Value.slice.injEq, Option.some.injEq, Addr.mk.injEq, and_true, true_and] at hv
    obtain ⟨rfl, rfl⟩ := hv
    refine .inr ⟨g, cap, cur, rfl, hg, hh, by omega, hm, hs, ?_⟩
    rw [hl, ← flat_take, ← ht, List.take_take, Nat.min_eq_left (by omega)]

theorem pop_any (q g cap : Nat) (l : List Stop) (n : Nat) (x : Stop) (w : World) (h : QAt w q g cap l) (hnl : n + 1 = l.length) (hx : l[n]? = some x) (hn : l.length ≤ 2305843009213693951) :
    Calls Try.prog 50 #[.pointer (some ⟨q, 0, none⟩)] w fun e w' => e = .returned (.iface 53 (.agg #[I x.1, I x.2])) ∧ QAt w' q g cap (l.take n) ∧ But q w w' := by
  have hc := h.cell
  have hcap : l.length ≤ cap := by
    rcases h.row.2 with ⟨h2, _⟩ | ⟨g', cap', cur, hv, hg, hh, hc, hm, hs, ht⟩
    · cases h2
    · simp only [Value.slice.injEq, Option.some.injEq, Addr.mk.injEq, and_true, true_and] at hv
      obtain ⟨rfl, rfl⟩ := hv
      exact hc
  obtain ⟨c0, c1⟩ := h.row.get hx
  have hq : q < w.heap.size := (Array.getElem?_eq_some_iff.1 h.head).1
  have hg := h.row.lt
  have hf : w.frozen? ⟨q, 0, none⟩ = false := frozen_of_row w q 0 _ _ h.head
  have hlen : (l.length : Int) = (n : Int) + 1 := by omega
  have hne := h.ne
  rw [← hnl] at hc hcap
  have hnb : n ≤ 2305843009213693951 := by omega
  have Hx := Lib.hid hx; clear hx
  have Hnl := Lib.hid hnl; clear hnl hlen
  go_enter Try.func50, Try.ntmps50
  go_wp2
  go_ret
  have eq : (l.take n).length = n := by have := Hnl.out; simp; omega
  refine ⟨rfl, ⟨?_, hne, ?_⟩, ?_⟩
  · rw [Below.heap_alloc _ _ _ (by simpa using hq), heap_setCell_same w q 0 _ _ _ h.head, eq]
    rfl
  · have R := h.row.cut Hnl.out
    refine QRow.of_block R ?_
    rw [Below.heap_alloc _ _ _ (by simpa using hg), Below.heap_setCell _ _ _ _ (Ne.symm hne)]
  · exact But.alloc (a := w) (w := w.setCell ⟨q, 0, none⟩ _) ⟨rfl, rfl, rfl, by simp, fun k hk hne => Below.heap_setCell _ _ _ _ hne⟩ _

theorem cellQ (w : World) (o o' : Obj) {q : Nat} {v : Value} (hq : q < w.heap.size) (h : w.cell? ⟨q, 0, none⟩ = some v) : ((w.alloc o).alloc o').drew.cell? ⟨q, 0, none⟩ = some v := by
  show ((w.alloc o).alloc o').cell? _ = _
  rw [World.cell?_alloc_lt _ _ _ (by simp; omega), World.cell?_alloc_lt _ _ _ hq]
  exact h
theorem frozenQ (w : World) (o o' : Obj) {q : Nat} (hq : q < w.heap.size) (h : w.frozen? ⟨q, 0, none⟩ = false) : ((w.alloc o).alloc o').drew.frozen? ⟨q, 0, none⟩ = false := by
  show ((w.alloc o).alloc o').frozen? _ = _
  rw [World.frozen?_alloc_old _ _ _ (by simp; omega), World.frozen?_alloc_old _ _ _ (by simp; omega)]
  exact h
theorem heap_second (w : World) (o o' : Obj) : ((w.alloc o).alloc o').heap[w.heap.size + 1]? = some o' := by
  have := heap_alloc_new (w.alloc o) o'
  simpa using this

/-- What a Push does to the queue. -/
def Pushed (w w' : World) (q g : Nat) (l : List Stop) (x : Stop) : Prop :=
  ∃ g' cap', QAt w' q g' cap' (l ++ [x]) ∧ (g' = g ∨ w.heap.size ≤ g') ∧ w'.os = w.os ∧ w'.tape = w.tape ∧ w'.output = w.output ∧ w.heap.size ≤ w'.heap.size ∧ ∀ k, k < w.heap.size → k ≠ q → k ≠ g → w'.heap[k]? = w.heap[k]?

theorem push_close {w w1 : World} {o o' : Obj} {q g cap gg cap' : Nat} {l : List Stop} {x : Stop} (h : QAt w q g cap l)
    (hown1 : w1.ownsRow 0 53 2 (.slice (some ⟨gg, 0, none⟩) (l.length + 1) cap') (l.length + 1) (flat l ++ [I x.1, I x.2]))
    (hgrow : ((w.alloc o).alloc o').drew.grownBy w1 (Value.slice (some ⟨g, 0, none⟩) l.length cap).ownBlock)
    (hat : (Value.slice (some ⟨g, 0, none⟩) l.length cap).ownBlock = some gg ∨ gg = w.heap.size + 2) :
    Pushed w (w1.setCell ⟨q, 0, none⟩ (.slice (some ⟨gg, 0, none⟩) (l.length + 1) cap')) q g l x := by
  have hq : q < w.heap.size := (Array.getElem?_eq_some_iff.1 h.head).1
  have hg := h.row.lt
  have hne := h.ne
  have hgg : gg = g ∨ gg = w.heap.size + 2 := by
    rcases hat with hat | hat
    · left; simpa [Value.ownBlock] using hat.symm
    · exact .inr hat
  have hW : ∀ k, k < w.heap.size → ((w.alloc o).alloc o').drew.heap[k]? = w.heap[k]? := fun k hk => by
    show ((w.alloc o).alloc o').heap[k]? = _
    rw [Below.heap_alloc _ _ _ (by simp; omega), Below.heap_alloc _ _ _ hk]
  have hb : ∀ k, k < w.heap.size → k ≠ g → w1.heap[k]? = w.heap[k]? := fun k hk hkg => by
    rw [hgrow.block k (by simp; omega) (by simpa [Value.ownBlock] using hkg), hW k hk]
  have hqgg : q ≠ gg := by omega
  refine ⟨gg, cap', ⟨?_, hqgg, ?_⟩, by omega, hgrow.os, hgrow.tape, hgrow.output, ?_, fun k hk hkq hkg => ?_⟩
  · rw [heap_setCell_same w1 q 0 _ _ _ ((hb q hq hne).trans h.head)]
    simp
  · unfold QRow
    rw [flat_append, show flat [x] = [I x.1, I x.2] from rfl, List.length_append, List.length_singleton]
    refine QRow.of_block (l := l ++ [x]) (w := w1) ?_ ?_ |> (fun h => by simpa [QRow, flat_append, flat] using h)
    · simpa [QRow, flat_append, flat] using hown1
    · exact Below.heap_setCell _ _ _ _ (Ne.symm hqgg)
  · have := hgrow.size
    simp at this ⊢
    omega
  · rw [Below.heap_setCell _ _ _ _ hkq, hb k hk hkg]

set_option maxRecDepth 100000 in
set_option maxHeartbeats 1000000 in
theorem push_any (q g cap : Nat) (l : List Stop) (x : Stop) (w : World) (h : QAt w q g cap l) (hn : l.length ≤ 1152921504606) :
    Calls Try.prog 51 #[.pointer (some ⟨q, 0, none⟩), .iface 53 (.agg #[I x.1, I x.2])] w fun e w' => e = .returned (.tuple #[]) ∧ Pushed w w' q g l x := by
  have hc := h.cell
  have hq : q < w.heap.size := (Array.getElem?_eq_some_iff.1 h.head).1
  have hg := h.row.lt
  have hf : w.frozen? ⟨q, 0, none⟩ = false := frozen_of_row w q 0 _ _ h.head
  obtain ⟨i0, hi0, hz0, hz1, hz2⟩ := info_parts info_stop
  go_enter Try.func51, Try.ntmps51
  have hta := assert_stop
  go_wp2
  go_region_law ((refine step_append_lies _ (by rfl) _ _ _ (by rfl) 0 53 i0 _ 2 16 Try.underlying55 hi0 hz0 hz1 hz2 rfl (by omega) _ l.length (flat l) (by rfl) ((World.ownsRow.alloc (World.ownsRow.alloc h.row _) _).drew) ⟨w.heap.size + 1, 0, none⟩ 1 1 [I x.1, I x.2] (by rfl) (by rfl) (World.news_of_block (cs := #[I x.1, I x.2]) (t := 53) (fr := (0, 0)) (heap_second w _ _)) (by simp [Value.oneCell']) (by omega) (by unfold maxLen; omega) (by omega) (by simp) (w.heap.size + 2) (by simp) ?_; intro gg cap' w1 hown1 hgrow hat hlt; have kc := (hgrow.cell_far ⟨q, 0, none⟩ (by simp; omega) (by simpa [Value.ownBlock] using h.ne)).trans (cellQ w _ _ hq hc); have kf := (hgrow.frozen_far ⟨q, 0, none⟩ (by simp; omega) (by simpa [Value.ownBlock] using h.ne)).trans (frozenQ w _ _ hq hf)))
  all_goals
    go_wp2
    go_end0
    exact ⟨rfl, push_close h hown1 hgrow hat⟩

end Go.Proofs.Ytmmbomkbaebodaa
