/-
  The search: what its loops do to memory, and plain lemmas.
-/
import Derived.Test.YtmmbomkbaebodaaQueue3
import Derived.Test.YtmmbomkbaebodaaChecks
import Derived.Test.YtmmbomkbaebodaaWay
import Derived.Deep.DeepCutAuto
namespace Go.Proofs.Ytmmbomkbaebodaa
set_option linter.unusedVariables false
set_option linter.unusedSimpArgs false
open Go.RowKit

/-- make of n one-cell elements. -/
theorem run_make1 {P : Program} (t e : TypeId) (z : Value) (bytes : Nat) (ht : P.underlying t = some (.slice e)) (hz : (P.info? e).map (fun i => (i.zero, i.size, i.bytes)) = some (some z, 1, bytes)) (hz1 : z.cells = #[z]) (n : Nat) (hb : bytes * n ≤ 281474976710656) (hn : n ≤ 9223372036854775807) (u : World) :
    (Instr.makeSlice t (.int .i64 (n : Int)) (.int .i64 (n : Int))).run P u = .ok (.slice (some ⟨u.heap.size, 0, none⟩) n n) (u.alloc (.cells (Array.replicate n z) e)) := by
  obtain ⟨i0, hi, h0, h1, h2⟩ := info_parts hz
  have h := run_make (P := P) u t e i0 z ht hi h0 .i64 .i64 (n : Int) (n : Int) (by omega) (Int.le_refl _) (by rw [h2]; rw [← Int.natCast_mul]; omega) (by omega)
  rw [h1, hz1, Int.toNat_natCast, Nat.mul_one] at h
  rw [h]
  congr 3
  apply Array.ext'
  rw [toList_madeCells_one]; simp

theorem info_slc : (Try.prog.info? 51).map (fun i => (i.zero, i.size, i.bytes)) = some (some (.slice none 0 0), 1, 24) := by kernel_rfl
theorem info_int : (Try.prog.info? 3).map (fun i => (i.zero, i.size, i.bytes)) = some (some (.int .i64 0), 1, 8) := by kernel_rfl
theorem info_bool : (Try.prog.info? 4).map (fun i => (i.zero, i.size, i.bytes)) = some (some (.bool false), 1, 1) := by kernel_rfl

/-- The edges that a road gives. -/
def edgeOf (kilos : Int) (back : Bool) (r : Rd) : List Ed := if carB r.li kilos then [if back then ⟨r.to.toNat, r.fr.toNat, r.mi.toNat⟩ else ⟨r.fr.toNat, r.to.toNat, r.mi.toNat⟩] else []
def edges (kilos : Int) (back : Bool) (l : List Rd) : List Ed := l.flatMap (edgeOf kilos back)
theorem edges_nil (kilos : Int) (back : Bool) : edges kilos back [] = [] := rfl
theorem edges_snoc (kilos : Int) (back : Bool) (l : List Rd) (r : Rd) : edges kilos back (l ++ [r]) = edges kilos back l ++ edgeOf kilos back r := by simp [edges]

/-- The stops behind node a. -/
def adj (E : List Ed) (a : Nat) : List Stop := (E.filter fun e => e.a == a).map fun e => (e.m, e.b)
theorem adj_snoc (E : List Ed) (e : Ed) (a : Nat) : adj (E ++ [e]) a = if e.a = a then adj E a ++ [(e.m, e.b)] else adj E a := by
  unfold adj
  rw [List.filter_append, List.map_append]
  by_cases h : e.a = a <;> simp [h]
theorem adj_length (E : List Ed) (a : Nat) : (adj E a).length ≤ E.length := by
  unfold adj; rw [List.length_map]; exact List.length_filter_le _ _

/-- Block G holds, for each node, the stops behind it. -/
def NextAt (w : World) (G n : Nat) (E : List Ed) : Prop :=
  ∃ vs : List Value, w.heap[G]? = some (.cells vs.toArray 51 (0, 0)) ∧ vs.length = n ∧
    (∀ i v, vs[i]? = some v → w.ownsRow 0 53 2 v (adj E i).length (flat (adj E i)) ∧ v.ownBlock ≠ some G ∧ (∀ k, v.ownBlock = some k → G < k)) ∧
    ∀ (i j : Nat) (u v : Value) (k : Nat), vs[i]? = some u → vs[j]? = some v → u.ownBlock = some k → v.ownBlock = some k → i = j

theorem next_start (w : World) (n : Nat) : NextAt (w.alloc (.cells (Array.replicate n (.slice none 0 0)) 51)) w.heap.size n [] := by
  refine ⟨List.replicate n (.slice none 0 0), by rw [heap_alloc_new w _]; simp, by simp, fun i v hv => ?_, fun i j u v k hu hv hk _ => ?_⟩
  · obtain rfl : v = .slice none 0 0 := by simp [List.getElem?_replicate] at hv; exact hv.2.symm
    exact ⟨World.ownsRow_nil _ _ _ _, by simp [Value.ownBlock], by simp [Value.ownBlock]⟩
  · obtain rfl : u = .slice none 0 0 := by simp [List.getElem?_replicate] at hu; exact hu.2.symm
    simp [Value.ownBlock] at hk

theorem ownsRow_of {w W : World} {e : TypeId} {size : Nat} {v : Value} {n : Nat} {xs : List Value} (h : w.ownsRow 0 e size v n xs) (hb : ∀ k, k < w.heap.size → W.heap[k]? = w.heap[k]?) : W.ownsRow 0 e size v n xs := by
  refine ⟨h.1, ?_⟩
  rcases h.2 with hn | ⟨g, cap, cur, rfl, hb', hg, rest⟩
  · exact .inl hn
  · exact .inr ⟨g, cap, cur, rfl, hb', by rw [hb g (Array.getElem?_eq_some_iff.1 hg).1]; exact hg, rest⟩

theorem ownsRow_kept' {w W : World} {e : TypeId} {size : Nat} {v : Value} {n : Nat} {xs : List Value} (h : w.ownsRow 0 e size v n xs) (hb : ∀ k, v.ownBlock = some k → k < w.heap.size → W.heap[k]? = w.heap[k]?) : W.ownsRow 0 e size v n xs := by
  refine ⟨h.1, ?_⟩
  rcases h.2 with hn | ⟨g, cap, cur, rfl, hb', hg, rest⟩
  · exact .inl hn
  · exact .inr ⟨g, cap, cur, rfl, hb', by rw [hb g rfl (Array.getElem?_eq_some_iff.1 hg).1]; exact hg, rest⟩
theorem ownsRow_setCell_other' {w : World} {e : TypeId} {size : Nat} {v : Value} {n : Nat} {xs : List Value} (h : w.ownsRow 0 e size v n xs) {G o : Nat} {x : Value} (hne : v.ownBlock ≠ some G) : (w.setCell ⟨G, o, none⟩ x).ownsRow 0 e size v n xs :=
  ownsRow_kept' h fun k hk _ => Below.heap_setCell _ _ _ _ (fun hkG => hne (by rw [hk, hkG]))

theorem heap3 (w : World) (o1 o2 o3 : Obj) (k : Nat) (hk : k < w.heap.size) : (((w.alloc o1).alloc o2).alloc o3).heap[k]? = w.heap[k]? := by
  rw [Below.heap_alloc _ _ _ (by simp; omega), Below.heap_alloc _ _ _ (by simp; omega), Below.heap_alloc _ _ _ hk]
theorem heap3n (w : World) (o1 o2 o3 : Obj) : (((w.alloc o1).alloc o2).alloc o3).heap[w.heap.size + 2]? = some o3 := by
  have := heap_alloc_new ((w.alloc o1).alloc o2) o3
  simpa using this

theorem edges_length (kilos : Int) (back : Bool) (l : List Rd) : (edges kilos back l).length ≤ l.length := by
  induction l with
  | nil => simp [edges]
  | cons r l ih =>
    have h1 : (edgeOf kilos back r).length ≤ 1 := by unfold edgeOf; split <;> simp
    simp only [edges, List.flatMap_cons, List.length_append, List.length_cons] at ih ⊢
    omega
theorem adj_bound (kilos : Int) (back : Bool) (l : List Rd) (j a : Nat) (h : l.length ≤ 600) : (adj (edges kilos back (l.take j)) a).length ≤ 600 := by
  have h1 := adj_length (edges kilos back (l.take j)) a
  have h2 := edges_length kilos back (l.take j)
  have h3 : (l.take j).length ≤ l.length := by simp; omega
  omega

theorem next_push {wr W w1 : World} {G n na b m gg cap' : Nat} {E : List Ed} {vs : List Value} {u : Value} (hvs : wr.heap[G]? = some (.cells vs.toArray 51 (0, 0))) (hvl : vs.length = n)
    (hrow : ∀ i v, vs[i]? = some v → wr.ownsRow 0 53 2 v (adj E i).length (flat (adj E i)) ∧ v.ownBlock ≠ some G ∧ (∀ k, v.ownBlock = some k → G < k))
    (hdis : ∀ (i j : Nat) (u v : Value) (k : Nat), vs[i]? = some u → vs[j]? = some v → u.ownBlock = some k → v.ownBlock = some k → i = j) (hu : vs[na]? = some u)
    (hWs : W.heap.size = wr.heap.size + 3) (hWh : ∀ k, k < wr.heap.size → W.heap[k]? = wr.heap[k]?)
    (hown1 : w1.ownsRow 0 53 2 (.slice (some ⟨gg, 0, none⟩) ((adj E na).length + 1) cap') ((adj E na).length + 1) (flat (adj E na) ++ [I m, I b])) (hgrow : W.grownBy w1 u.ownBlock) (hat : u.ownBlock = some gg ∨ gg = wr.heap.size + 3) :
    NextAt (w1.setCell ⟨G, na, none⟩ (.slice (some ⟨gg, 0, none⟩) ((adj E na).length + 1) cap')) G n (E ++ [⟨na, b, m⟩]) := by
  have hGlt : G < wr.heap.size := (Array.getElem?_eq_some_iff.1 hvs).1
  obtain ⟨ho, hoG, hok⟩ := hrow na u hu
  have hgG : G < gg := by
    rcases hat with h | h
    · exact hok gg h
    · omega
  have hb : ∀ k, k < wr.heap.size → some k ≠ u.ownBlock → w1.heap[k]? = wr.heap[k]? := fun k hk hne => by rw [hgrow.block k (by omega) hne, hWh k hk]
  have hnl : na < vs.length := (List.getElem?_eq_some_iff.1 hu).1
  refine ⟨vs.set na (.slice (some ⟨gg, 0, none⟩) ((adj E na).length + 1) cap'), ?_, by simpa using hvl, fun i v hv => ?_, fun i j x y k hx hy hkx hky => ?_⟩
  · rw [heap_setCell_same w1 G na _ _ _ ((hb G hGlt (Ne.symm hoG)).trans hvs)]
    simp
  · rw [List.getElem?_set] at hv
    split at hv
    · rename_i hi
      subst hi
      simp only [Option.some.injEq] at hv
      subst hv
      rw [adj_snoc, if_pos rfl, List.length_append, List.length_singleton, flat_append]
      refine ⟨ownsRow_setCell_other' hown1 (by simp [Value.ownBlock]; omega), by simp [Value.ownBlock]; omega, fun k hk => by simp [Value.ownBlock] at hk; omega⟩
    · rename_i hi
      obtain ⟨h1, h2, h3⟩ := hrow i v hv
      rw [adj_snoc, if_neg (by simpa using hi)]
      refine ⟨ownsRow_setCell_other' (ownsRow_kept' h1 fun k hk hlt => hb k hlt (fun e => ?_)) h2, h2, h3⟩
      exact hi (hdis na i u v k hu hv e.symm hk)
  · rw [List.getElem?_set] at hx hy
    have key : ∀ (i : Nat) (x : Value) (k : Nat), vs[i]? = some x → x.ownBlock = some k → k = gg → i = na := fun p z c hz hc hcg => by
      rcases hat with h | h
      · exact hdis p na z u c hz hu hc (by rw [h, hcg])
      · have := ((hrow p z hz).1.lt c hc).2
        omega
    split at hx
    · rename_i hi
      subst hi
      split at hy
      · assumption
      · rename_i hj
        simp only [Option.some.injEq] at hx
        subst hx
        simp [Value.ownBlock] at hkx
        exact (key j y k hy hky hkx.symm).symm
    · rename_i hi
      split at hy
      · rename_i hj
        subst hj
        simp only [Option.some.injEq] at hy
        subst hy
        simp [Value.ownBlock] at hky
        exact key i x k hx hkx hky.symm
      · exact hdis i j x y k hx hy hkx hky


theorem edgeOf_yes {ki : Int} {bk : Bool} {x : Rd} (h : carB x.li ki = true) : edgeOf ki bk x = [if bk then ⟨x.to.toNat, x.fr.toNat, x.mi.toNat⟩ else ⟨x.fr.toNat, x.to.toNat, x.mi.toNat⟩] := by unfold edgeOf; rw [if_pos h]
theorem edgeOf_no {ki : Int} {bk : Bool} {x : Rd} (h : carB x.li ki = false) : edgeOf ki bk x = [] := by unfold edgeOf; rw [if_neg (by simp [h])]
theorem take_snoc' {α : Type} {l : List α} {j : Nat} {x : α} (h : l[j]? = some x) : l.take (j + 1) = l.take j ++ [x] := by rw [List.take_add_one, h]; rfl

end Go.Proofs.Ytmmbomkbaebodaa
