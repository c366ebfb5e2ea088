/-
  The search: what its second half keeps, and the ends of its rounds.
-/
import Derived.Test.YtmmbomkbaebodaaSearch
namespace Go.Proofs.Ytmmbomkbaebodaa
set_option linter.unusedVariables false
set_option linter.unusedSimpArgs false
open Go.RowKit

/-- The block S holds the times T. -/
def OutAt (w : World) (S n : Nat) (T : Nat → Option Nat) : Prop := w.heap[S]? = some (.cells ((List.range n).map fun v => I (encT (T v))).toArray 3 (0, 0))

theorem OutAt.cell {w : World} {S n : Nat} {T : Nat → Option Nat} (h : OutAt w S n T) {v : Nat} (hv : v < n) : w.cell? ⟨S, v, none⟩ = some (I (encT (T v))) := by
  rw [cell_of_row w S v _ _ (0, 0) h]; simp [hv]
theorem OutAt.free {w : World} {S n : Nat} {T : Nat → Option Nat} (h : OutAt w S n T) (v : Nat) : w.frozen? ⟨S, v, none⟩ = false := frozen_of_row w S v _ _ h
theorem OutAt.set {w : World} {S n : Nat} {T : Nat → Option Nat} (h : OutAt w S n T) (v t : Nat) : OutAt (w.setCell ⟨S, v, none⟩ (I t)) S n (setT T v t) := by
  unfold OutAt
  rw [heap_setCell_same w S v _ _ _ h]
  congr 2
  apply Array.ext'
  apply List.ext_getElem?
  intro i
  simp only [List.setIfInBounds_toArray, List.getElem?_set, List.getElem?_map, List.length_map, List.length_range]
  by_cases hi : i < n
  · by_cases hv : v = i
    · subst hv; simp [hi, setT, encT]
    · simp [hi, hv, setT, Ne.symm hv]
  · by_cases hv : v = i
    · subst hv; simp [hi]
    · simp [hi, hv]
theorem OutAt.ints {w : World} {S n : Nat} {T : Nat → Option Nat} (h : OutAt w S n T) (hn : n ≤ 100) : IntsAt w (.slice (some ⟨S, 0, none⟩) n n) ((List.range n).map fun v => encT (T v)) := by
  have hS : S < w.heap.size := (Array.getElem?_eq_some_iff.1 h).1
  refine ⟨some ⟨S, 0, none⟩, n, by simp, by simp, by unfold maxLen; omega, .inr ⟨S, 0, rfl, hS, fun i x hi => ?_⟩⟩
  have hlt : i < n := by simpa using (List.getElem?_eq_some_iff.1 hi).1
  refine ⟨[I x], rfl, rfl, fun j u hj => ?_⟩
  cases j with
  | zero =>
    simp only [List.getElem?_cons_zero, Option.some.injEq] at hj
    subst hj
    have := h.cell hlt
    simp [hlt] at hi
    rw [hi] at this
    simpa using this
  | succ j => simp at hj

/-- What is kept in the second half. -/
structure St (wc wr : World) (S n : Nat) (T : Nat → Option Nat) (H : List Stop) (g cap : Nat) : Prop where
  below : Below S wc wr
  out : OutAt wr S n T
  qat : QAt wr (S + 1 + 1) g cap H
  gg : S < g

theorem St.only {wc wr w' : World} {S n : Nat} {T : Nat → Option Nat} {H H' : List Stop} {g cap g' cap' : Nat} (h : St wc wr S n T H g cap) (hb : Only (S + 1 + 1) g wr w') (hq : QAt w' (S + 1 + 1) g' cap' H') (hg : g' = g ∨ wr.heap.size ≤ g') : St wc w' S n T H' g' cap' := by
  have hS : S < wr.heap.size := (Array.getElem?_eq_some_iff.1 h.out).1
  have := h.gg
  refine ⟨h.below.trans ⟨hb.os, hb.tape, hb.output, hb.size, fun k hk => hb.block k (by omega) (by omega) (by omega)⟩, ?_, hq, by omega⟩
  unfold OutAt
  rw [hb.block S hS (by omega) (by omega)]
  exact h.out

theorem St.alloc {wc wr : World} {S n : Nat} {T : Nat → Option Nat} {H : List Stop} {g cap : Nat} (h : St wc wr S n T H g cap) (o : Obj) : St wc (wr.alloc o) S n T H g cap := by
  have hS : S < wr.heap.size := (Array.getElem?_eq_some_iff.1 h.out).1
  have hq : S + 1 + 1 < wr.heap.size := (Array.getElem?_eq_some_iff.1 h.qat.head).1
  refine ⟨h.below.alloc (by omega) o, ?_, ⟨?_, h.qat.ne, h.qat.row.of_block ?_⟩, h.gg⟩
  · unfold OutAt; rw [Below.heap_alloc _ _ _ hS]; exact h.out
  · rw [Below.heap_alloc _ _ _ hq]; exact h.qat.head
  · rw [Below.heap_alloc _ _ _ h.qat.row.lt]

theorem St.settle {wc wr : World} {S n : Nat} {T : Nat → Option Nat} {H : List Stop} {g cap : Nat} (h : St wc wr S n T H g cap) (v t : Nat) : St wc (wr.setCell ⟨S, v, none⟩ (I t)) S n (setT T v t) H g cap := by
  have := h.gg
  refine ⟨h.below.setCell (p := ⟨S, v, none⟩) (Nat.le_refl _) _, h.out.set v t, ⟨?_, h.qat.ne, h.qat.row.of_block ?_⟩, h.gg⟩
  · rw [Below.heap_setCell _ _ _ _ (by simp; omega)]; exact h.qat.head
  · rw [Below.heap_setCell _ _ _ _ (by simp; omega)]

/-- How many stops may still come. -/
def pend (E : List Ed) (n : Nat) (T : Nat → Option Nat) : Nat := ((List.range n).map fun v => if T v = none then (adj E v).length else 0).sum

theorem sum_le {l : List Nat} {f : Nat → Nat} {M : Nat} (h : ∀ x ∈ l, f x ≤ M) : (l.map f).sum ≤ l.length * M := by
  induction l with
  | nil => simp
  | cons x l ih =>
    have h1 := h x (List.mem_cons_self ..)
    have h2 := ih fun y hy => h y (List.mem_cons_of_mem _ hy)
    simp only [List.map_cons, List.sum_cons, List.length_cons, Nat.add_mul]
    omega
theorem pend_le (E : List Ed) (n : Nat) (T : Nat → Option Nat) (hE : ∀ a, (adj E a).length ≤ 600) (hn : n ≤ 100) : pend E n T ≤ 60000 := by
  have := sum_le (l := List.range n) (f := fun v => if T v = none then (adj E v).length else 0) (M := 600) (fun x _ => by
    show (if T x = none then (adj E x).length else 0) ≤ 600
    split
    · exact hE x
    · omega)
  simp only [List.length_range] at this
  unfold pend
  omega
theorem sum_set {l : List Nat} (hl : l.Nodup) {f g : Nat → Nat} {v : Nat} (hv : v ∈ l) (h0 : g v = 0) (h : ∀ x, x ≠ v → f x = g x) : (l.map f).sum = (l.map g).sum + f v := by
  induction l with
  | nil => cases hv
  | cons x l ih =>
    simp only [List.map_cons, List.sum_cons]
    obtain ⟨hx, hl⟩ := List.nodup_cons.1 hl
    rcases List.mem_cons.1 hv with rfl | hv
    · have : l.map f = l.map g := List.map_congr_left fun y hy => h y (fun e => hx (e ▸ hy))
      rw [this, h0]; omega
    · have := ih hl hv
      rw [h x (fun e => hx (e ▸ hv))]
      omega
theorem pend_set {E : List Ed} {n v t : Nat} {T : Nat → Option Nat} (hv : v < n) (hT : T v = none) : pend E n T = pend E n (setT T v t) + (adj E v).length := by
  unfold pend
  rw [sum_set (g := fun x => if setT T v t x = none then (adj E x).length else 0) List.nodup_range (List.mem_range.2 hv) (by simp [setT]) (fun x hx => by simp [setT, hx])]
  simp [hT]

theorem way_in {E : List Ed} {n s v t : Nat} (hin : In E n) (hs : s < n) (h : Way E s v t) : v < n := by
  cases h with
  | nil => exact hs
  | snoc e he _ => exact (hin e he).2

/-- The stops that come in behind node v. -/
theorem mem_adj {E : List Ed} {v t : Nat} (x : Stop) : x ∈ (adj E v).map (fun y => (t + y.1, y.2)) ↔ ∃ e ∈ E, e.a = v ∧ x = (t + e.m, e.b) := by
  simp only [adj, List.map_map, List.mem_map, List.mem_filter, Function.comp_apply]
  constructor
  · rintro ⟨e, ⟨he, ha⟩, rfl⟩; exact ⟨e, he, by simpa using ha, rfl⟩
  · rintro ⟨e, he, ha, rfl⟩; exact ⟨e, ⟨he, by simpa using ha⟩, rfl⟩

/-- A row of stops as the walk reads it. -/
theorem row_shape {w : World} {u : Value} {l : List Stop} (h : w.ownsRow 0 53 2 u l.length (flat l)) : ∃ a c, u = .slice a l.length c ∧ ∀ (i : Nat) (y : Stop), l[i]? = some y → ∃ gg, a = some ⟨gg, 0, none⟩ ∧ gg < w.heap.size := by
  rcases h.2 with ⟨rfl, h0⟩ | ⟨g, cap, cur, rfl, _, hg, _⟩
  · refine ⟨none, 0, by rw [h0], fun i y hi => ?_⟩
    have := (List.getElem?_eq_some_iff.1 hi).1
    omega
  · exact ⟨_, cap, rfl, fun _ _ _ => ⟨g, rfl, (Array.getElem?_eq_some_iff.1 hg).1⟩⟩
theorem row_cells {w : World} {gg c : Nat} {l : List Stop} (h : w.ownsRow 0 53 2 (.slice (some ⟨gg, 0, none⟩) l.length c) l.length (flat l)) {i : Nat} {y : Stop} (hi : l[i]? = some y) :
    w.cell? ⟨gg, i * 2, none⟩ = some (I y.1) ∧ w.cell? ⟨gg, i * 2 + 1, none⟩ = some (I y.2) := QRow.get h hi

/-- The result: a list of ints in new memory. -/
def RetInts (w : World) (l : List Int) (e : Ending) (w' : World) : Prop := ∃ v, e = .returned v ∧ IntsAt w' v l ∧ Below w.heap.size w w'

/-- A network that is right. -/
structure Good (n : Nat) (l : List Rd) : Prop where
  nodes : n ≤ 100
  len : l.length ≤ 600
  road : ∀ r ∈ l, 0 ≤ r.fr ∧ r.fr < n ∧ 0 ≤ r.to ∧ r.to < n ∧ 1 ≤ r.mi ∧ r.mi ≤ 1000000

theorem mem_edges {ki : Int} {bk : Bool} {l : List Rd} {e : Ed} (h : e ∈ edges ki bk l) : ∃ r ∈ l, carB r.li ki = true ∧ e = if bk then ⟨r.to.toNat, r.fr.toNat, r.mi.toNat⟩ else ⟨r.fr.toNat, r.to.toNat, r.mi.toNat⟩ := by
  simp only [edges, List.mem_flatMap, edgeOf] at h
  obtain ⟨r, hr, he⟩ := h
  split at he
  · simp only [List.mem_singleton] at he
    exact ⟨r, hr, by assumption, he⟩
  · cases he
theorem Good.inn {n : Nat} {l : List Rd} (h : Good n l) (ki : Int) (bk : Bool) : In (edges ki bk l) n := fun e he => by
  obtain ⟨r, hr, _, rfl⟩ := mem_edges he
  have := h.road r hr
  cases bk <;> simp <;> omega
theorem Good.posi {n : Nat} {l : List Rd} (h : Good n l) (ki : Int) (bk : Bool) : Posi (edges ki bk l) := fun e he => by
  obtain ⟨r, hr, _, rfl⟩ := mem_edges he
  have := h.road r hr
  cases bk <;> simp <;> omega
theorem Good.most {n : Nat} {l : List Rd} (h : Good n l) (ki : Int) (bk : Bool) : ∀ e ∈ edges ki bk l, e.m ≤ 1000000 := fun e he => by
  obtain ⟨r, hr, _, rfl⟩ := mem_edges he
  have := h.road r hr
  cases bk <;> simp <;> omega
theorem Good.adj {n : Nat} {l : List Rd} (h : Good n l) (ki : Int) (bk : Bool) (a : Nat) : (adj (edges ki bk l) a).length ≤ 600 := by
  have := adj_bound ki bk l l.length a h.len
  rwa [List.take_length] at this

theorem st_start {wc w2 : World} {n s : Nat} (hO : OutAt w2 wc.heap.size n (fun _ => none)) (hB : Below wc.heap.size wc w2) (hsz : w2.heap.size = wc.heap.size + 1) :
    St wc ((w2.alloc (.cells #[I 0, I s] 53)).alloc (.cells #[.slice (some ⟨wc.heap.size + 1, 0, none⟩) 1 1] 55)) wc.heap.size n (fun _ => none) [(0, s)] (wc.heap.size + 1) 1 := by
  refine ⟨(hB.alloc (by omega) _).alloc (by simp; omega) _, ?_, ⟨?_, by omega, ?_⟩, by omega⟩
  · unfold OutAt
    rw [Below.heap_alloc _ _ _ (by simp; omega), Below.heap_alloc _ _ _ (by omega)]
    exact hO
  · have := heap_alloc_new (w2.alloc (.cells #[I 0, I s] 53)) (.cells #[.slice (some ⟨wc.heap.size + 1, 0, none⟩) 1 1] 55)
    simpa [hsz] using this
  · have h := World.ownsRow_lit (base := 0) (e := 53) (size := 2) w2 #[I 0, I s] 1 (Nat.zero_le _) (by decide) rfl
    rw [hsz] at h
    refine QRow.of_block (w := w2.alloc (.cells #[I 0, I s] 53)) (l := [(0, s)]) ?_ (Below.heap_alloc _ _ _ (by simp; omega))
    simpa [QRow, flat] using h

end Go.Proofs.Ytmmbomkbaebodaa
