/-
  The walk of the law's example; lists that a literal made.
-/
import Derived.Test.YtmmbomkbaebodaaExam
namespace Go.Proofs.Ytmmbomkbaebodaa
set_option linter.unusedVariables false
set_option linter.unusedSimpArgs false
open Go.RowKit

theorem flat_get {α β : Type} (f : α → List β) {s : Nat} (hf : ∀ x, (f x).length = s) : ∀ (l : List α) (i : Nat) (x : α), l[i]? = some x → ∀ (j : Nat) (u : β), (f x)[j]? = some u → (l.flatMap f)[i * s + j]? = some u := by
  intro l
  induction l with
  | nil => intro i x h; simp at h
  | cons y l ih =>
    intro i x h j u hu
    rw [List.flatMap_cons]
    cases i with
    | zero =>
      simp only [List.getElem?_cons_zero, Option.some.injEq] at h
      subst h
      have hj := (List.getElem?_eq_some_iff.1 hu).1
      rw [Nat.zero_mul, Nat.zero_add, List.getElem?_append_left hj]
      exact hu
    | succ i =>
      simp only [List.getElem?_cons_succ] at h
      rw [List.getElem?_append_right (by rw [hf, Nat.succ_mul]; omega), hf]
      have e : (i + 1) * s + j - s = i * s + j := by rw [Nat.succ_mul]; omega
      rw [e]
      exact ih i x h j u hu

def cellsR (r : Rd) : List Value := [I r.fr, I r.to, I r.mi, I r.li]

theorem roads_block {w : World} {g cap : Nat} {cs : Array Value} {t : TypeId} {fr : Nat × Nat} {l : List Rd} (h : w.heap[g]? = some (.cells cs t fr)) (hc : l.length ≤ cap) (hm : cap ≤ maxLen) (he : cs.toList.take (l.length * 4) = l.flatMap cellsR) :
    RoadsAt w (.slice (some ⟨g, 0, none⟩) l.length cap) l := by
  refine ⟨_, cap, rfl, hc, hm, .inr ⟨g, 0, rfl, (Array.getElem?_eq_some_iff.1 h).1, fun i x hi => ⟨cellsR x, rfl, rfl, fun j u hu => ?_⟩⟩⟩
  rw [Nat.zero_add, cell_of_row w g _ cs t fr h]
  have := flat_get cellsR (s := 4) (fun _ => rfl) l i x hi j u hu
  rw [← he, List.getElem?_take] at this
  split at this
  · simpa using this
  · cases this

theorem ints_block {w : World} {g cap : Nat} {cs : Array Value} {t : TypeId} {fr : Nat × Nat} {l : List Int} (h : w.heap[g]? = some (.cells cs t fr)) (hc : l.length ≤ cap) (hm : cap ≤ maxLen) (he : cs.toList.take l.length = l.map I) :
    IntsAt w (.slice (some ⟨g, 0, none⟩) l.length cap) l := by
  refine ⟨_, cap, rfl, hc, hm, .inr ⟨g, 0, rfl, (Array.getElem?_eq_some_iff.1 h).1, fun i x hi => ⟨[I x], rfl, rfl, fun j u hu => ?_⟩⟩⟩
  rw [Nat.zero_add, cell_of_row w g _ cs t fr h]
  cases j with
  | zero =>
    simp only [List.getElem?_cons_zero, Option.some.injEq] at hu
    subst hu
    have : (l.map I)[i]? = some (I x) := by simp [hi]
    rw [← he, List.getElem?_take] at this
    split at this
    · simpa using this
    · cases this
  | succ j => simp at hu

abbrev exCells : Array Value := #[I 0, I 1, I 5, I (-1), I 1, I 2, I 5, I 10000, I 0, I 2, I 20, I (-1), I 2, I 0, I 3, I (-1)]
theorem example_any (w : World) : Calls Try.prog 21 #[] w fun e w' => e = .returned (.agg #[I 4, .slice (some ⟨w.heap.size + 1, 0, none⟩) 4 4]) ∧ (w.alloc (.cells #[I 4, .slice (some ⟨w.heap.size + 1, 0, none⟩) 4 4] 24)).alloc (.cells exCells 38) = w' := by
  go_enter Try.func21, Try.ntmps21
  go_wp2_with fail
  refine bodyPost_ret_by (results_cell_row rfl _ _ w.heap.size 24 _ (0, 0) _ rfl (heap_alloc2_old w _ _) Try.underlying24 rfl (by kernel_rfl)) rfl ?_
  exact ⟨rfl, rfl⟩
theorem ints_new {w : World} {cs : Array Value} {t : TypeId} {n : Nat} (l : List Int) (hm : n ≤ maxLen) (hl : l.length = n) (he : cs.toList.take l.length = l.map I) : IntsAt (w.alloc (.cells cs t)) (.slice (some ⟨w.heap.size, 0, none⟩) n n) l := by
  subst hl
  exact ints_block (heap_alloc_new w _) (Nat.le_refl _) hm he

/-- Behind the head's box b. -/
structure BoxAt (w : World) (b : Nat) (v : Value) (wx : World) : Prop where
  c0 : wx.cell? ⟨b, 0, none⟩ = some (I 4)
  c1 : wx.cell? ⟨b, 1, none⟩ = some v
  roads : RoadsAt wx v exL
  ge : w.heap.size ≤ b
  lt : b < wx.heap.size
  below : Below w.heap.size w wx
theorem BoxAt.mono {w wx wy : World} {b : Nat} {v : Value} (h : BoxAt w b v wx) (hb : Below wx.heap.size wx wy) : BoxAt w b v wy where
  c0 := (hb.cell (p := ⟨b, 0, none⟩) h.lt).trans h.c0
  c1 := (hb.cell (p := ⟨b, 1, none⟩) h.lt).trans h.c1
  roads := h.roads.below RRoad.mono hb
  ge := h.ge
  lt := Nat.lt_of_lt_of_le h.lt hb.size
  below := h.below.trans (hb.mono (by have := h.ge; have := h.lt; omega))
theorem box_at (w : World) : BoxAt w (w.heap.size + 1 + 1) (.slice (some ⟨w.heap.size + 1, 0, none⟩) 4 4) (((w.alloc (.cells #[I 4, .slice (some ⟨w.heap.size + 1, 0, none⟩) 4 4] 24)).alloc (.cells exCells 38)).alloc (.cells #[I 4, .slice (some ⟨w.heap.size + 1, 0, none⟩) 4 4] 24)) where
  c0 := by
    have h := heap_alloc_new ((w.alloc (.cells #[I 4, .slice (some ⟨w.heap.size + 1, 0, none⟩) 4 4] 24)).alloc (.cells exCells 38)) (.cells #[I 4, .slice (some ⟨w.heap.size + 1, 0, none⟩) 4 4] 24)
    rw [World.size_alloc, World.size_alloc] at h
    rw [cell_of_row _ _ 0 _ _ (0, 0) h]; rfl
  c1 := by
    have h := heap_alloc_new ((w.alloc (.cells #[I 4, .slice (some ⟨w.heap.size + 1, 0, none⟩) 4 4] 24)).alloc (.cells exCells 38)) (.cells #[I 4, .slice (some ⟨w.heap.size + 1, 0, none⟩) 4 4] 24)
    rw [World.size_alloc, World.size_alloc] at h
    rw [cell_of_row _ _ 1 _ _ (0, 0) h]; rfl
  roads := by
    have h : ((w.alloc (.cells #[I 4, .slice (some ⟨w.heap.size + 1, 0, none⟩) 4 4] 24)).alloc (.cells exCells 38)).heap[w.heap.size + 1]? = some (.cells exCells 38) := heap_alloc2_new w _ _
    exact roads_block (l := exL) (by rw [Below.heap_alloc _ _ _ (by simp)]; exact h) (by simp [exL]) (by unfold maxLen; simp [exL]) (by rfl)
  ge := by omega
  lt := by simp
  below := belowA (belowA (belowA (Below.refl _ _) (Nat.le_refl _)) (Nat.le_refl _)) (Nat.le_refl _)
end Go.Proofs.Ytmmbomkbaebodaa
