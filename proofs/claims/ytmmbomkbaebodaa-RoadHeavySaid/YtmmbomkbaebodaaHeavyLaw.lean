/-
  RoadHeavy: more roads, heavier trucks: plain mathematics.
-/
import Derived.Test.YtmmbomkbaebodaaTurnedLaw
import Derived.Test.YtmmbomkbaebodaaAppend
namespace Go.Proofs.Ytmmbomkbaebodaa
set_option linter.unusedVariables false
set_option linter.unusedSimpArgs false
open Go.RowKit

theorem way_sub {E F : List Ed} (h : ∀ e ∈ E, e ∈ F) {a b t : Nat} (w : Way E a b t) : Way F a b t := by
  induction w with
  | nil => exact .nil
  | snoc e he _ ih => exact .snoc e (h e he) ih
theorem dst_sub {E F : List Ed} (h : ∀ e ∈ E, e ∈ F) {a b d : Nat} (hd : dst E a b = some d) : ∃ d', dst F a b = some d' ∧ d' ≤ d := dst_of_way (way_sub h (dst_way hd))
theorem later_sub {E F : List Ed} (h : ∀ e ∈ E, e ∈ F) (a b : Nat) : laterB (encT (dst E a b)) (encT (dst F a b)) = true := by
  cases hd : dst E a b with
  | none => simp [laterB, encT]
  | some d =>
    obtain ⟨d', h1, h2⟩ := dst_sub h hd
    rw [h1]
    simp [laterB, encT]
    omega
theorem way_home {E : List Ed} {e : Ed} {s v t : Nat} (hs : e.b = s) (w : Way (E ++ [e]) s v t) : ∃ t', t' ≤ t ∧ Way E s v t' := by
  induction w with
  | nil => exact ⟨0, Nat.le_refl _, .nil⟩
  | snoc x hx _ ih =>
    obtain ⟨t', h1, h2⟩ := ih
    rcases List.mem_append.1 hx with h | h
    · exact ⟨t' + x.m, by omega, .snoc x h h2⟩
    · obtain rfl := List.mem_singleton.1 h
      rw [hs]
      exact ⟨0, Nat.zero_le _, .nil⟩
theorem dst_home {E : List Ed} {e : Ed} {s : Nat} (hs : e.b = s) (v : Nat) : dst (E ++ [e]) s v = dst E s v := by
  refine IsDst.eq ?_
  have h := dst_spec E s v
  cases hd : dst E s v with
  | none =>
    rw [hd] at h
    intro t ht
    obtain ⟨t', _, h2⟩ := way_home hs ht
    exact h t' h2
  | some d =>
    rw [hd] at h
    refine ⟨way_sub (fun x hx => List.mem_append_left _ hx) h.1, fun t ht => ?_⟩
    obtain ⟨t', h1, h2⟩ := way_home hs ht
    have := h.2 t' h2
    omega
theorem dlist_home {E : List Ed} {e : Ed} {n s : Nat} (hs : e.b = s) : dlist (E ++ [e]) n s = dlist E n s := by
  unfold dlist
  apply List.map_congr_left
  intro v _
  rw [dst_home hs]
theorem edges_more {k1 k2 : Int} (h : k1 ≤ k2) (l : List Rd) : ∀ e ∈ edges k2 false l, e ∈ edges k1 false l := by
  intro e he
  obtain ⟨r, hr, hc, rfl⟩ := mem_edges he
  refine edges_mem (bk := false) hr ?_
  unfold carB at hc ⊢
  simp only [Bool.or_eq_true, decide_eq_true_eq] at hc ⊢
  omega
theorem edges_wide (ki : Int) (l : List Rd) (x : Rd) : ∀ e ∈ edges ki false l, e ∈ edges ki false (l ++ [x]) := by
  intro e he
  rw [edges_snoc]
  exact List.mem_append_left _ he
theorem chk_wide {n : Int} {l : List Rd} {x : Rd} (h : chkNet n (l ++ [x]) = 0) : chkNet n l = 0 ∧ chkRoad n x = 0 := by
  obtain ⟨h0, h1, h2, h3⟩ := chkNet_zero h
  refine ⟨chkNet_of h0 h1 (by simp at h2; omega) fun r hr => h3 r (List.mem_append_left _ hr), h3 x (by simp)⟩
theorem same_home {N s : Nat} {ki : Int} {l : List Rd} {x : Rd} (h : chkRoad N x = 0) (hx : x.to = (s : Int)) : dlist (edges ki false (l ++ [x])) N s = dlist (edges ki false l) N s := by
  rw [edges_snoc]
  by_cases hc : carB x.li ki = true
  · rw [edgeOf_yes hc]
    exact dlist_home (by simp only [Bool.false_eq_true, if_false]; omega)
  · rw [edgeOf_no (by simpa using hc), List.append_nil]
theorem same_light {N s : Nat} {ki : Int} {l : List Rd} {x : Rd} (h1 : x.li ≠ -1) (h2 : x.li < ki) : dlist (edges ki false (l ++ [x])) N s = dlist (edges ki false l) N s := by
  rw [edges_snoc, edgeOf_no (by unfold carB; simp; omega), List.append_nil]
theorem later_is (x y : Int) (w : World) (h : laterB x y = true) : Calls Try.prog 20 #[I x, I y] w fun e w' => e = .returned (.bool true) ∧ w' = w :=
  (later_any x y w).mono fun _ _ ⟨he, hw⟩ => ⟨by rw [he, h], hw.symm⟩
theorem roads_src {w : World} {A : Option Addr} {n cap : Nat} {l : List Rd} (h : RoadsAt w (.slice A n cap) l) : Src w A n 4 (l.flatMap cellsR) := (SliceR.src cellsR (fun _ _ _ h => h) h (fun _ => rfl)).1
theorem cellsR_one (l : List Rd) : ∀ u ∈ l.flatMap cellsR, u.oneCell' = true := by
  intro u hu
  obtain ⟨r, _, hr⟩ := List.mem_flatMap.1 hu
  simp only [cellsR, List.mem_cons, List.not_mem_nil, or_false] at hr
  rcases hr with rfl | rfl | rfl | rfl <;> rfl
theorem grown_kept {w W w2 : World} {row : Option Nat} {B : Nat} (hW : ∀ k, k < B → W.heap[k]? = w.heap[k]?) (hB : B ≤ W.heap.size) (hr : ∀ g, row = some g → B ≤ g) (h : W.grownBy w2 row) : ∀ k, k < B → w2.heap[k]? = w.heap[k]? :=
  fun k hk => (h.block k (by omega) (fun e => by have := hr k e.symm; omega)).trans (hW k hk)
theorem heap_first (w : World) (o o' : Obj) : ((w.alloc o).alloc o').heap[w.heap.size]? = some o := by
  rw [Below.heap_alloc _ _ _ (by simp)]; exact heap_alloc_new w o
/-- The wide network lies in block T. -/
theorem wide_done {wB w3 : World} {T : Nat} {n : Int} {l : List Rd} {x : Rd} {u old : Value} (hT : T < wB.heap.size) (kT : w3.heap[T]? = some (.cells #[I n, old] 24 (0, 0))) (hown : w3.ownsRow 0 38 4 u (l.length + 1) ([] ++ l.flatMap cellsR ++ cellsR x))
    (hu : ∀ g, u.ownBlock = some g → T + 1 ≤ g) (hk : ∀ k, k < T + 1 → w3.heap[k]? = wB.heap[k]?) (ho : w3.os = wB.os ∧ w3.tape = wB.tape ∧ w3.output = wB.output ∧ wB.heap.size ≤ w3.heap.size) :
    ∃ u2, (w3.setCell ⟨T, 1, none⟩ u).heap[T]? = some (.cells #[I n, u2] 24 (0, 0)) ∧ (w3.setCell ⟨T, 1, none⟩ u).ownsRow 0 38 4 u2 (l ++ [x]).length ((l ++ [x]).flatMap cellsR) ∧ (∀ g, u2.ownBlock = some g → T + 1 ≤ g) ∧ Below T wB (w3.setCell ⟨T, 1, none⟩ u) := by
  refine ⟨u, block2_set kT, ?_, hu, Below.setCell (p := ⟨T, 1, none⟩) ⟨ho.1, ho.2.1, ho.2.2.1, ho.2.2.2, fun k hk' => hk k (by have : k < T := hk'; omega)⟩ (Nat.le_refl _) _⟩
  have e1 : (l ++ [x]).length = l.length + 1 := by simp
  have e2 : (l ++ [x]).flatMap cellsR = [] ++ l.flatMap cellsR ++ cellsR x := by simp [List.flatMap_append]
  rw [e1, e2]
  exact ownsRow_other hown fun k hk => Below.heap_setCell _ _ _ _ (by have := hu k hk; simp; omega)
theorem box6 {w wr : World} {c0 c1 d0 d1 d2 d3 : Value} {T U : TypeId} (h : Below ((w.alloc (.cells #[c0, c1] T)).alloc (.cells #[d0, d1, d2, d3] U)).heap.size ((w.alloc (.cells #[c0, c1] T)).alloc (.cells #[d0, d1, d2, d3] U)) wr) :
    Below w.heap.size w wr ∧ w.heap.size + 1 < wr.heap.size ∧ wr.cell? ⟨w.heap.size, 0, none⟩ = some c0 ∧ wr.cell? ⟨w.heap.size, 1, none⟩ = some c1 ∧ wr.cell? ⟨w.heap.size + 1, 0, none⟩ = some d0 ∧ wr.cell? ⟨w.heap.size + 1, 1, none⟩ = some d1
      ∧ wr.cell? ⟨w.heap.size + 1, 2, none⟩ = some d2 ∧ wr.cell? ⟨w.heap.size + 1, 3, none⟩ = some d3 := by
  obtain ⟨h1, h2, _⟩ := bcell h
  have hz : ((w.alloc (.cells #[c0, c1] T)).alloc (.cells #[d0, d1, d2, d3] U)).heap.size = w.heap.size + 1 + 1 := by simp
  refine ⟨(belowA (belowA (Below.refl _ _) (Nat.le_refl _)) (Nat.le_refl _)).trans (h.mono (by simp; omega)), by omega, ?_, ?_, ?_, ?_, ?_, ?_⟩
  all_goals
    rw [h2 _ _ (by omega)]
    simp
end Go.Proofs.Ytmmbomkbaebodaa
