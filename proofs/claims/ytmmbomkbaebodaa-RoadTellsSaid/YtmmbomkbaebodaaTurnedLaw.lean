/-
  RoadTurned: all roads turned round: plain mathematics, and how they lie in memory.
-/
import Derived.Test.YtmmbomkbaebodaaThird
import Derived.Deep.AppendLies
namespace Go.Proofs.Ytmmbomkbaebodaa
set_option linter.unusedVariables false
set_option linter.unusedSimpArgs false
open Go.RowKit

def turnR (r : Rd) : Rd := ⟨r.to, r.fr, r.mi, r.li⟩
theorem edges_turn (ki : Int) (l : List Rd) : edges ki false (l.map turnR) = edges ki true l := by
  simp only [edges, List.flatMap_map]
  congr 1
theorem mem_turn {ki : Int} {l : List Rd} {e : Ed} (h : e ∈ edges ki false l) : (⟨e.b, e.a, e.m⟩ : Ed) ∈ edges ki true l := by
  obtain ⟨r, hr, hc, rfl⟩ := mem_edges h
  have := edges_mem (bk := true) hr hc
  simpa using this
theorem mem_turn' {ki : Int} {l : List Rd} {e : Ed} (h : e ∈ edges ki true l) : (⟨e.b, e.a, e.m⟩ : Ed) ∈ edges ki false l := by
  obtain ⟨r, hr, hc, rfl⟩ := mem_edges h
  have := edges_mem (bk := false) hr hc
  simpa using this
theorem way_back {E F : List Ed} (hEF : ∀ e ∈ E, (⟨e.b, e.a, e.m⟩ : Ed) ∈ F) {a b t : Nat} (h : Way E a b t) : Way F b a t := by
  induction h with
  | nil => exact .nil
  | snoc e he _ ih =>
    have h1 : Way F e.b e.a (0 + e.m) := Way.snoc (E := F) ⟨e.b, e.a, e.m⟩ (hEF e he) .nil
    have := h1.trans ih
    rw [Nat.zero_add, Nat.add_comm] at this
    exact this
theorem dst_turn (ki : Int) (l : List Rd) (a b : Nat) : dst (edges ki false (l.map turnR)) b a = dst (edges ki false l) a b := by
  rw [edges_turn]
  refine IsDst.eq ?_
  have hs := dst_spec (edges ki false l) a b
  cases hd : dst (edges ki false l) a b with
  | none =>
    rw [hd] at hs
    exact fun t ht => hs t (way_back (fun e he => mem_turn' he) ht)
  | some d =>
    rw [hd] at hs
    exact ⟨way_back (fun e he => mem_turn he) hs.1, fun t ht => hs.2 t (way_back (fun e he => mem_turn' he) ht)⟩
theorem chk_turn {n : Int} {l : List Rd} (h : chkNet n l = 0) : chkNet n (l.map turnR) = 0 := by
  obtain ⟨h0, h1, h2, h3⟩ := chkNet_zero h
  refine chkNet_of h0 h1 (by simpa using h2) fun r hr => ?_
  obtain ⟨x, hx, rfl⟩ := List.mem_map.1 hr
  have := chkRoad_zero (h3 x hx)
  exact chkRoad_of (by simp only [turnR]; omega)

/-- Behind a store into a cell of a block that is known whole. -/
theorem block2_set {w : World} {b : Nat} {c0 c1 v : Value} {t : TypeId} (h : w.heap[b]? = some (.cells #[c0, c1] t (0, 0))) : (w.setCell ⟨b, 1, none⟩ v).heap[b]? = some (.cells #[c0, v] t (0, 0)) := by
  rw [heap_setCell_same w b 1 _ _ _ h]
  rfl
theorem owns_roads {w : World} {base : Nat} {v : Value} {l : List Rd} (h : w.ownsRow base 38 4 v l.length (l.flatMap cellsR)) : RoadsAt w v l := by
  rcases h.2 with ⟨rfl, h0⟩ | ⟨g, cap, cur, rfl, _, hg, hc, hm, hs, ht⟩
  · have : l = [] := List.eq_nil_of_length_eq_zero h0
    subst this; exact roads_nil w
  · exact roads_block hg hc hm ht
theorem owns_lt {w : World} {base : Nat} {e : TypeId} {size : Nat} {v : Value} {n : Nat} {xs : List Value} (h : w.ownsRow base e size v n xs) {g : Nat} (hg : v.ownBlock = some g) : base ≤ g ∧ g < w.heap.size := by
  rcases h.2 with ⟨rfl, h0⟩ | ⟨g', cap, cur, rfl, hb, hh, hc, hm, hs, ht⟩
  · cases hg
  · simp only [Value.ownBlock, Option.some.injEq] at hg
    subst hg
    exact ⟨hb, (Array.getElem?_eq_some_iff.1 hh).1⟩
theorem ownsRow_other {w W : World} {base : Nat} {e : TypeId} {size : Nat} {v : Value} {n : Nat} {xs : List Value} (h : w.ownsRow base e size v n xs) (hb : ∀ k, v.ownBlock = some k → W.heap[k]? = w.heap[k]?) : W.ownsRow base e size v n xs := by
  refine ⟨h.1, ?_⟩
  rcases h.2 with hn | ⟨g, cap, cur, rfl, hb', hg, rest⟩
  · exact .inl hn
  · exact .inr ⟨g, cap, cur, rfl, hb', by rw [hb g rfl]; exact hg, rest⟩
theorem heapK2 (w : World) (o1 o2 : Obj) (k : Nat) (hk : k < w.heap.size) : ((w.alloc o1).alloc o2).heap[k]? = w.heap[k]? := by
  rw [Below.heap_alloc _ _ _ (by simp; omega), Below.heap_alloc _ _ _ hk]
theorem ext_check {w : World} {e : Ext w} (n : Int) (v : Value) (l : List Rd) (h : RoadsAt w v l) (hc : chkNet n l = 0) :
    Calls Try.prog 13 #[.agg #[I n, v]] (extW w e) fun x w'' => x = .returned (I 0) ∧ ∃ e', w'' = extW w e' :=
  ext_call (check_is n v l _ (h.below RRoad.mono e.below) hc)

theorem info_road : (Try.prog.info? 38).map (fun i => (i.zero, i.size, i.bytes)) = some (some (.agg #[.int .i64 0, .int .i64 0, .int .i64 0, .int .i64 0]), 4, 32) := by kernel_rfl

/-- The turned roads so far: block b holds the network, v its roads. -/
structure TurnAt (w : World) (b : Nat) (n : Int) (l : List Rd) (v : Value) : Prop where
  head : w.heap[b]? = some (.cells #[I n, v] 24 (0, 0))
  row : w.ownsRow (b + 1) 38 4 v l.length (l.flatMap cellsR)

theorem turn_below {A wr W w1 : World} {B : Nat} {u x : Value} (hB : Below B A wr) (hG : B < wr.heap.size) (hok : ∀ k, u.ownBlock = some k → B < k) (hW : ∀ k, k < wr.heap.size → W.heap[k]? = wr.heap[k]?)
    (h1 : W.os = wr.os) (h2 : W.tape = wr.tape) (h3 : W.output = wr.output) (h4 : wr.heap.size ≤ W.heap.size) (hgrow : W.grownBy w1 u.ownBlock) : Below B A (w1.setCell ⟨B, 1, none⟩ x) := by
  refine hB.trans (Below.setCell (p := ⟨B, 1, none⟩) ⟨hgrow.os.trans h1, hgrow.tape.trans h2, hgrow.output.trans h3, Nat.le_trans h4 hgrow.size, fun k hk => ?_⟩ (Nat.le_refl _) _)
  have hk : k < B := hk
  rw [hgrow.block k (by omega) (fun e => by have := hok k e.symm; omega), hW k (by omega)]

theorem turn_step {w W w1 : World} {b : Nat} {n : Int} {l : List Rd} {v v' : Value} {r : Rd} (h : TurnAt w b n l v) (hW : ∀ k, k < w.heap.size → W.heap[k]? = w.heap[k]?) (hWs : w.heap.size ≤ W.heap.size) (hown : w1.ownsRow (b + 1) 38 4 v' (l.length + 1) (l.flatMap cellsR ++ cellsR r)) (hgrow : W.grownBy w1 v.ownBlock) :
    TurnAt (w1.setCell ⟨b, 1, none⟩ v') b n (l ++ [r]) v' := by
  have hb := (Array.getElem?_eq_some_iff.1 h.head).1
  have hne : ∀ g, v.ownBlock = some g → b < g := fun g hg => (owns_lt h.row hg).1
  refine ⟨block2_set (c1 := v) ?_, ?_⟩
  · rw [hgrow.block b (by omega) (fun e => by have := hne b e.symm; omega), hW b hb]
    exact h.head
  · rw [List.length_append, List.length_singleton, List.flatMap_append]
    simp only [List.flatMap_cons, List.flatMap_nil, List.append_nil]
    refine ownsRow_other hown fun k hk => Below.heap_setCell _ _ _ _ (by have := (owns_lt hown hk).1; simp; omega)
end Go.Proofs.Ytmmbomkbaebodaa
