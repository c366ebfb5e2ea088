/-
  The walks of the small functions: in, carries, Carries, node, later, and both Checks.
-/
import Derived.Test.YtbnbpfjfkedbaaaRows
import Derived.Test.YtbnbpfjfkedbaaaPRnA
import Derived.Deep.DeepCutAuto
import Derived.Deep.CutBlock
namespace Go.Proofs.Ytbnbpfjfkedbaaa.Rn
set_option linter.unusedVariables false
set_option linter.unusedSimpArgs false
set_option linter.unusedSectionVars false
set_option maxRecDepth 100000
open Go.RowKit
theorem in_any (n lo hi : Int) (w : World) :
    Calls Try.prog 55 #[I n, I lo, I hi] w fun e w' => e = .returned (B (inB n lo hi)) ∧ w = w' := by
 by_cases h1 : lo ≤ n
 · by_cases h2 : n ≤ hi
   all_goals
    go_enter Try.func55, Try.ntmps55
    go_wp2
    go_ret
    exact ⟨retB (by simp [inB, h1, h2]), rfl⟩
 · go_enter Try.func55, Try.ntmps55
   go_wp2
   go_ret
   exact ⟨retB (by simp [inB]; omega), rfl⟩
theorem carries_any (f t m li kilos : Int) (w : World) :
    Calls Try.prog 87 #[.agg #[I f, I t, I m, I li], I kilos] w fun e w' => e = .returned (B (carB li kilos)) ∧ w.alloc (.cells #[I f, I t, I m, I li] 66) = w' := by
 by_cases h1 : li = -1
 · subst h1
   go_enter Try.func87, Try.ntmps87
   go_wp2
   go_ret
   exact ⟨retB (by simp [carB]), rfl⟩
 · have h1' : (li == -1) = false := by simpa using h1
   go_enter Try.func87, Try.ntmps87
   go_wp2
   go_ret
   exact ⟨retB (by simp [carB, h1]), rfl⟩
theorem check_any (n : Int) (v : Value) (l : List Rd) (w : World) (hl : RoadsAt w v l) :
    Calls Try.prog 22 #[.agg #[I n, v]] w fun e w' => e = .returned (I (chkNet n l)) ∧ Below w.heap.size w w' := by
 obtain ⟨a, cap, rfl, hlc, hcap⟩ := hl.shape
 unfold maxLen at hcap
 by_cases hin : inB n 0 100 = true
 · by_cases hlen : (600 : Int) < (l.length : Int)
   · go_enter Try.func22, Try.ntmps22
     go_wp2_with (go_at_call 55; refine (in_any _ _ _ _).mono ?_; rintro e w' ⟨rfl, rfl⟩)
     go_ret
     exact ⟨retI (by unfold chkNet; rw [if_neg (by simp [hin]), if_pos (by omega)]), (Below.refl _ _).alloc (Nat.le_refl _) _⟩
   · have hn : 0 ≤ n ∧ n ≤ 100 := by rwa [← inB_iff]
     have h600 : decide ((600 : Int) < (l.length : Int)) = false := by simpa using hlen
     go_enter Try.func22, Try.ntmps22
     go_wp2_with (go_at_call 55; refine (in_any _ _ _ _).mono ?_; rintro e w' ⟨rfl, rfl⟩)
     have Hin := Lib.hid hin; clear hin
     go_loopw [18] (fun i wr => ∃ j : Nat, j ≤ l.length ∧ i = I j ∧ chkRoads n (l.drop j) = chkRoads n l ∧ Below (w.heap.size + 1) (w.alloc (.cells #[I n, .slice a l.length cap] 55)) wr) (fun i _ => l.length - (intOf i).toNat)
     case atStart => exact ⟨0, by omega, rfl, rfl, Below.refl _ _⟩
     case round =>
      obtain ⟨j, hj, rfl, hd, hB⟩ := hrel
      obtain ⟨hb, hs, hc0, hc1⟩ := box2 hB
      have Hd := Lib.hid hd; clear hd
      by_cases hlt : j < l.length
      · obtain ⟨b, off, x, rfl, hbl, hx, g0, g1, g2, g3⟩ := RoadsAt.get4 (hl.below RRoad.mono hb) hlt
        go_wp2_with (go_at_call 55; refine (in_any _ _ _ _).mono ?_; rintro e w' ⟨rfl, rfl⟩)
        all_goals first
         | (go_ret
            refine ⟨retI (chk_ret Hin.out (by omega) Hd.out hx.out ?_ (by decide)), hb.alloc hb.size _⟩
            clear g0 g1 g2 g3 hc0 hc1 hb hB hl; grind [chkRoad])
         | (go_roundw
            case rel =>
             refine ⟨j + 1, by omega, by go_num, chk_good Hd.out hx.out ?_, hB.alloc (by omega) _⟩
             clear g0 g1 g2 g3 hc0 hc1 hb hB hl; grind [chkRoad]
            case measure => simp [intOf]; omega)
      · have : j = l.length := by omega
        subst this
        go_wp2_with (go_at_call 55; refine (in_any _ _ _ _).mono ?_; rintro e w' ⟨rfl, rfl⟩)
        go_ret
        refine ⟨retI ?_, hb⟩
        rw [chkNet_in Hin.out (by omega), ← Hd.out, chkRoads_end]
 · go_enter Try.func22, Try.ntmps22
   go_wp2_with (go_at_call 55; refine (in_any _ _ _ _).mono ?_; rintro e w' ⟨rfl, rfl⟩)
   go_ret
   exact ⟨retI (by unfold chkNet; rw [if_pos (by simpa using hin)]), (Below.refl _ _).alloc (Nat.le_refl _) _⟩
theorem run_make1 {P : Program} (t e : TypeId) (z : Value) (bytes : Nat) (ht : P.underlying t = some (.slice e)) (hz : (P.info? e).map (fun i => (i.zero, i.size, i.bytes)) = some (some z, 1, bytes)) (hz1 : z.cells = #[z]) (n : Nat) (hb : bytes * n ≤ 281474976710656) (hn : n ≤ 9223372036854775807) (u : World) :
    (Instr.makeSlice t (.int .i64 (n : Int)) (.int .i64 (n : Int))).run P u = .ok (.slice (some ⟨u.heap.size, 0, none⟩) n n) (u.alloc (.cells (Array.replicate n z) e)) := by
 obtain ⟨i0, hi, h0, h1, h2⟩ := info_parts hz
 have h := run_make (P := P) u t e i0 z ht hi h0 .i64 .i64 (n : Int) (n : Int) (by omega) (Int.le_refl _) (by rw [h2]; rw [← Int.natCast_mul]; omega) (by omega)
 rw [h1, hz1, Int.toNat_natCast, Nat.mul_one] at h
 rw [h]
 congr 3
 apply Array.ext'
 rw [toList_madeCells_one]; simp
theorem info_slc : (Try.prog.info? 130).map (fun i => (i.zero, i.size, i.bytes)) = some (some (.slice none 0 0), 1, 24) := by kernel_rfl
theorem info_int : (Try.prog.info? 3).map (fun i => (i.zero, i.size, i.bytes)) = some (some (.int .i64 0), 1, 8) := by kernel_rfl
theorem info_bool : (Try.prog.info? 4).map (fun i => (i.zero, i.size, i.bytes)) = some (some (.bool false), 1, 1) := by kernel_rfl
def edgeOf (kilos : Int) (back : Bool) (r : Rd) : List Ed := if carB r.li kilos then [if back then ⟨r.to.toNat, r.fr.toNat, r.mi.toNat⟩ else ⟨r.fr.toNat, r.to.toNat, r.mi.toNat⟩] else []
def edges (kilos : Int) (back : Bool) (l : List Rd) : List Ed := l.flatMap (edgeOf kilos back)
theorem edges_nil (kilos : Int) (back : Bool) : edges kilos back [] = [] := rfl
theorem edges_snoc (kilos : Int) (back : Bool) (l : List Rd) (r : Rd) : edges kilos back (l ++ [r]) = edges kilos back l ++ edgeOf kilos back r := by simp [edges]
def adj (E : List Ed) (a : Nat) : List Stop := (E.filter fun e => e.a == a).map fun e => (e.m, e.b)
theorem adj_snoc (E : List Ed) (e : Ed) (a : Nat) : adj (E ++ [e]) a = if e.a = a then adj E a ++ [(e.m, e.b)] else adj E a := by
 unfold adj
 rw [List.filter_append, List.map_append]
 by_cases h : e.a = a <;> simp [h]
theorem adj_length (E : List Ed) (a : Nat) : (adj E a).length ≤ E.length := by
 unfold adj; rw [List.length_map]; exact List.length_filter_le _ _
def NextAt (w : World) (G n : Nat) (E : List Ed) : Prop :=
 ∃ vs : List Value, w.heap[G]? = some (.cells vs.toArray 130 (0, 0)) ∧ vs.length = n ∧
  (∀ i v, vs[i]? = some v → w.ownsRow 0 132 2 v (adj E i).length (flat (adj E i)) ∧ v.ownBlock ≠ some G ∧ (∀ k, v.ownBlock = some k → G < k)) ∧
  ∀ (i j : Nat) (u v : Value) (k : Nat), vs[i]? = some u → vs[j]? = some v → u.ownBlock = some k → v.ownBlock = some k → i = j
theorem next_start (w : World) (n : Nat) : NextAt (w.alloc (.cells (Array.replicate n (.slice none 0 0)) 130)) w.heap.size n [] := by
 refine ⟨List.replicate n (.slice none 0 0), by rw [heap_alloc_new w _]; simp, by simp, fun i v hv => ?_, fun i j u v k hu hv hk _ => ?_⟩
 · obtain rfl : v = .slice none 0 0 := by simp [List.getElem?_replicate] at hv; exact hv.2.symm
   exact ⟨World.ownsRow_nil _ _ _ _, by simp [Value.ownBlock], by simp [Value.ownBlock]⟩
 · obtain rfl : u = .slice none 0 0 := by simp [List.getElem?_replicate] at hu; exact hu.2.symm
   simp [Value.ownBlock] at hk
theorem ownsRow_of {w W : World} {e : TypeId} {size : Nat} {v : Value} {n : Nat} {xs : List Value} (h : w.ownsRow 0 e size v n xs) (hb : ∀ k, k < w.heap.size → W.heap[k]? = w.heap[k]?) : W.ownsRow 0 e size v n xs := by
 refine ⟨h.1, ?_⟩
 rcases h.2 with hn | ⟨g, cap, cur, rfl, hb', hg, rest⟩
 · exact .inl hn
 · exact .inr ⟨g, cap, cur, rfl, hb', by rw [hb g (Array.getElem?_eq_some_iff.1 hg).1]; exact hg, rest⟩
theorem ownsRow_kept' {w W : World} {e : TypeId} {size : Nat} {v : Value} {n : Nat} {xs : List Value} (h : w.ownsRow 0 e size v n xs) (hb : ∀ k, v.ownBlock = some k → k < w.heap.size → W.heap[k]? = w.heap[k]?) : W.ownsRow 0 e size v n xs := by
 refine ⟨h.1, ?_⟩
 rcases h.2 with hn | ⟨g, cap, cur, rfl, hb', hg, rest⟩
 · exact .inl hn
 · exact .inr ⟨g, cap, cur, rfl, hb', by rw [hb g rfl (Array.getElem?_eq_some_iff.1 hg).1]; exact hg, rest⟩
theorem ownsRow_setCell_other' {w : World} {e : TypeId} {size : Nat} {v : Value} {n : Nat} {xs : List Value} (h : w.ownsRow 0 e size v n xs) {G o : Nat} {x : Value} (hne : v.ownBlock ≠ some G) : (w.setCell ⟨G, o, none⟩ x).ownsRow 0 e size v n xs :=
 ownsRow_kept' h fun k hk _ => Below.heap_setCell _ _ _ _ (fun hkG => hne (by rw [hk, hkG]))
theorem heap3 (w : World) (o1 o2 o3 : Obj) (k : Nat) (hk : k < w.heap.size) : (((w.alloc o1).alloc o2).alloc o3).heap[k]? = w.heap[k]? := by
 rw [Below.heap_alloc _ _ _ (by simp; omega), Below.heap_alloc _ _ _ (by simp; omega), Below.heap_alloc _ _ _ hk]
theorem heap3n (w : World) (o1 o2 o3 : Obj) : (((w.alloc o1).alloc o2).alloc o3).heap[w.heap.size + 2]? = some o3 := by
 have := heap_alloc_new ((w.alloc o1).alloc o2) o3
 simpa using this
theorem edges_length (kilos : Int) (back : Bool) (l : List Rd) : (edges kilos back l).length ≤ l.length := by
 induction l with
 | nil => simp [edges]
 | cons r l ih =>
   have h1 : (edgeOf kilos back r).length ≤ 1 := by unfold edgeOf; split <;> simp
   simp only [edges, List.flatMap_cons, List.length_append, List.length_cons] at ih ⊢
   omega
theorem adj_bound (kilos : Int) (back : Bool) (l : List Rd) (j a : Nat) (h : l.length ≤ 600) : (adj (edges kilos back (l.take j)) a).length ≤ 600 := by
 have h1 := adj_length (edges kilos back (l.take j)) a
 have h2 := edges_length kilos back (l.take j)
 have h3 : (l.take j).length ≤ l.length := by simp; omega
 omega
theorem next_push {wr W w1 : World} {G n na b m gg cap' : Nat} {E : List Ed} {vs : List Value} {u : Value} (hvs : wr.heap[G]? = some (.cells vs.toArray 130 (0, 0))) (hvl : vs.length = n)
    (hrow : ∀ i v, vs[i]? = some v → wr.ownsRow 0 132 2 v (adj E i).length (flat (adj E i)) ∧ v.ownBlock ≠ some G ∧ (∀ k, v.ownBlock = some k → G < k))
    (hdis : ∀ (i j : Nat) (u v : Value) (k : Nat), vs[i]? = some u → vs[j]? = some v → u.ownBlock = some k → v.ownBlock = some k → i = j) (hu : vs[na]? = some u)
    (hWs : W.heap.size = wr.heap.size + 3) (hWh : ∀ k, k < wr.heap.size → W.heap[k]? = wr.heap[k]?)
    (hown1 : w1.ownsRow 0 132 2 (.slice (some ⟨gg, 0, none⟩) ((adj E na).length + 1) cap') ((adj E na).length + 1) (flat (adj E na) ++ [I m, I b])) (hgrow : W.grownBy w1 u.ownBlock) (hat : u.ownBlock = some gg ∨ gg = wr.heap.size + 3) :
    NextAt (w1.setCell ⟨G, na, none⟩ (.slice (some ⟨gg, 0, none⟩) ((adj E na).length + 1) cap')) G n (E ++ [⟨na, b, m⟩]) := by
 have hGlt : G < wr.heap.size := (Array.getElem?_eq_some_iff.1 hvs).1
 obtain ⟨ho, hoG, hok⟩ := hrow na u hu
 have hgG : G < gg := by
  rcases hat with h | h
  · exact hok gg h
  · omega
 have hb : ∀ k, k < wr.heap.size → some k ≠ u.ownBlock → w1.heap[k]? = wr.heap[k]? := fun k hk hne => by rw [hgrow.block k (by omega) hne, hWh k hk]
 have hnl : na < vs.length := (List.getElem?_eq_some_iff.1 hu).1
 refine ⟨vs.set na (.slice (some ⟨gg, 0, none⟩) ((adj E na).length + 1) cap'), ?_, by simpa using hvl, fun i v hv => ?_, fun i j x y k hx hy hkx hky => ?_⟩
 · rw [heap_setCell_same w1 G na _ _ _ ((hb G hGlt (Ne.symm hoG)).trans hvs)]
   simp
 · rw [List.getElem?_set] at hv
   split at hv
   · rename_i hi
     subst hi
     simp only [Option.some.injEq] at hv
     subst hv
     rw [adj_snoc, if_pos rfl, List.length_append, List.length_singleton, flat_append]
     refine ⟨ownsRow_setCell_other' hown1 (by simp [Value.ownBlock]; omega), by simp [Value.ownBlock]; omega, fun k hk => by simp [Value.ownBlock] at hk; omega⟩
   · rename_i hi
     obtain ⟨h1, h2, h3⟩ := hrow i v hv
     rw [adj_snoc, if_neg (by simpa using hi)]
     refine ⟨ownsRow_setCell_other' (ownsRow_kept' h1 fun k hk hlt => hb k hlt (fun e => ?_)) h2, h2, h3⟩
     exact hi (hdis na i u v k hu hv e.symm hk)
 · rw [List.getElem?_set] at hx hy
   have key : ∀ (i : Nat) (x : Value) (k : Nat), vs[i]? = some x → x.ownBlock = some k → k = gg → i = na := fun p z c hz hc hcg => by
    rcases hat with h | h
    · exact hdis p na z u c hz hu hc (by rw [h, hcg])
    · have := ((hrow p z hz).1.lt c hc).2
      omega
   split at hx
   · rename_i hi
     subst hi
     split at hy
     · assumption
     · rename_i hj
       simp only [Option.some.injEq] at hx
       subst hx
       simp [Value.ownBlock] at hkx
       exact (key j y k hy hky hkx.symm).symm
   · rename_i hi
     split at hy
     · rename_i hj
       subst hj
       simp only [Option.some.injEq] at hy
       subst hy
       simp [Value.ownBlock] at hky
       exact key i x k hx hkx hky.symm
     · exact hdis i j x y k hx hy hkx hky
theorem edgeOf_yes {ki : Int} {bk : Bool} {x : Rd} (h : carB x.li ki = true) : edgeOf ki bk x = [if bk then ⟨x.to.toNat, x.fr.toNat, x.mi.toNat⟩ else ⟨x.fr.toNat, x.to.toNat, x.mi.toNat⟩] := by unfold edgeOf; rw [if_pos h]
theorem edgeOf_no {ki : Int} {bk : Bool} {x : Rd} (h : carB x.li ki = false) : edgeOf ki bk x = [] := by unfold edgeOf; rw [if_neg (by simp [h])]
theorem take_snoc' {α : Type} {l : List α} {j : Nat} {x : α} (h : l[j]? = some x) : l.take (j + 1) = l.take j ++ [x] := by rw [List.take_add_one, h]; rfl
def OutAt (w : World) (S n : Nat) (T : Nat → Option Nat) : Prop := w.heap[S]? = some (.cells ((List.range n).map fun v => I (encT (T v))).toArray 3 (0, 0))
theorem OutAt.cell {w : World} {S n : Nat} {T : Nat → Option Nat} (h : OutAt w S n T) {v : Nat} (hv : v < n) : w.cell? ⟨S, v, none⟩ = some (I (encT (T v))) := by
 rw [cell_of_row w S v _ _ (0, 0) h]; simp [hv]
theorem OutAt.free {w : World} {S n : Nat} {T : Nat → Option Nat} (h : OutAt w S n T) (v : Nat) : w.frozen? ⟨S, v, none⟩ = false := frozen_of_row w S v _ _ h
theorem OutAt.set {w : World} {S n : Nat} {T : Nat → Option Nat} (h : OutAt w S n T) (v t : Nat) : OutAt (w.setCell ⟨S, v, none⟩ (I t)) S n (setT T v t) := by
 unfold OutAt
 rw [heap_setCell_same w S v _ _ _ h]
 congr 2
 apply Array.ext'
 apply List.ext_getElem?
 intro i
 simp only [List.setIfInBounds_toArray, List.getElem?_set, List.getElem?_map, List.length_map, List.length_range]
 by_cases hi : i < n
 · by_cases hv : v = i
   · subst hv; simp [hi, setT, encT]
   · simp [hi, hv, setT, Ne.symm hv]
 · by_cases hv : v = i
   · subst hv; simp [hi]
   · simp [hi, hv]
theorem OutAt.ints {w : World} {S n : Nat} {T : Nat → Option Nat} (h : OutAt w S n T) (hn : n ≤ 100) : IntsAt w (.slice (some ⟨S, 0, none⟩) n n) ((List.range n).map fun v => encT (T v)) := by
 have hS : S < w.heap.size := (Array.getElem?_eq_some_iff.1 h).1
 refine ⟨some ⟨S, 0, none⟩, n, by simp, by simp, by unfold maxLen; omega, .inr ⟨S, 0, rfl, hS, fun i x hi => ?_⟩⟩
 have hlt : i < n := by simpa using (List.getElem?_eq_some_iff.1 hi).1
 refine ⟨[I x], rfl, rfl, fun j u hj => ?_⟩
 cases j with
 | zero =>
   simp only [List.getElem?_cons_zero, Option.some.injEq] at hj
   subst hj
   have := h.cell hlt
   simp [hlt] at hi
   rw [hi] at this
   simpa using this
 | succ j => simp at hj
structure St (wc wr : World) (S n : Nat) (T : Nat → Option Nat) (H : List Stop) (g cap : Nat) : Prop where
 below : Below S wc wr
 out : OutAt wr S n T
 qat : QAt wr (S + 1 + 1) g cap H
 gg : S < g
theorem St.only {wc wr w' : World} {S n : Nat} {T : Nat → Option Nat} {H H' : List Stop} {g cap g' cap' : Nat} (h : St wc wr S n T H g cap) (hb : Only (S + 1 + 1) g wr w') (hq : QAt w' (S + 1 + 1) g' cap' H') (hg : g' = g ∨ wr.heap.size ≤ g') : St wc w' S n T H' g' cap' := by
 have hS : S < wr.heap.size := (Array.getElem?_eq_some_iff.1 h.out).1
 have := h.gg
 refine ⟨h.below.trans ⟨hb.os, hb.tape, hb.output, hb.size, fun k hk => hb.block k (by omega) (by omega) (by omega)⟩, ?_, hq, by omega⟩
 unfold OutAt
 rw [hb.block S hS (by omega) (by omega)]
 exact h.out
theorem St.alloc {wc wr : World} {S n : Nat} {T : Nat → Option Nat} {H : List Stop} {g cap : Nat} (h : St wc wr S n T H g cap) (o : Obj) : St wc (wr.alloc o) S n T H g cap := by
 have hS : S < wr.heap.size := (Array.getElem?_eq_some_iff.1 h.out).1
 have hq : S + 1 + 1 < wr.heap.size := (Array.getElem?_eq_some_iff.1 h.qat.head).1
 refine ⟨h.below.alloc (by omega) o, ?_, ⟨?_, h.qat.ne, h.qat.row.of_block ?_⟩, h.gg⟩
 · unfold OutAt; rw [Below.heap_alloc _ _ _ hS]; exact h.out
 · rw [Below.heap_alloc _ _ _ hq]; exact h.qat.head
 · rw [Below.heap_alloc _ _ _ h.qat.row.lt]
theorem St.settle {wc wr : World} {S n : Nat} {T : Nat → Option Nat} {H : List Stop} {g cap : Nat} (h : St wc wr S n T H g cap) (v t : Nat) : St wc (wr.setCell ⟨S, v, none⟩ (I t)) S n (setT T v t) H g cap := by
 have := h.gg
 refine ⟨h.below.setCell (p := ⟨S, v, none⟩) (Nat.le_refl _) _, h.out.set v t, ⟨?_, h.qat.ne, h.qat.row.of_block ?_⟩, h.gg⟩
 · rw [Below.heap_setCell _ _ _ _ (by simp; omega)]; exact h.qat.head
 · rw [Below.heap_setCell _ _ _ _ (by simp; omega)]
def pend (E : List Ed) (n : Nat) (T : Nat → Option Nat) : Nat := ((List.range n).map fun v => if T v = none then (adj E v).length else 0).sum
theorem sum_le {l : List Nat} {f : Nat → Nat} {M : Nat} (h : ∀ x ∈ l, f x ≤ M) : (l.map f).sum ≤ l.length * M := by
 induction l with
 | nil => simp
 | cons x l ih =>
   have h1 := h x (List.mem_cons_self ..)
   have h2 := ih fun y hy => h y (List.mem_cons_of_mem _ hy)
   simp only [List.map_cons, List.sum_cons, List.length_cons, Nat.add_mul]
   omega
theorem pend_le (E : List Ed) (n : Nat) (T : Nat → Option Nat) (hE : ∀ a, (adj E a).length ≤ 600) (hn : n ≤ 100) : pend E n T ≤ 60000 := by
 have := sum_le (l := List.range n) (f := fun v => if T v = none then (adj E v).length else 0) (M := 600) (fun x _ => by
  show (if T x = none then (adj E x).length else 0) ≤ 600
  split
  · exact hE x
  · omega)
 simp only [List.length_range] at this
 unfold pend
 omega
theorem sum_set {l : List Nat} (hl : l.Nodup) {f g : Nat → Nat} {v : Nat} (hv : v ∈ l) (h0 : g v = 0) (h : ∀ x, x ≠ v → f x = g x) : (l.map f).sum = (l.map g).sum + f v := by
 induction l with
 | nil => cases hv
 | cons x l ih =>
   simp only [List.map_cons, List.sum_cons]
   obtain ⟨hx, hl⟩ := List.nodup_cons.1 hl
   rcases List.mem_cons.1 hv with rfl | hv
   · have : l.map f = l.map g := List.map_congr_left fun y hy => h y (fun e => hx (e ▸ hy))
     rw [this, h0]; omega
   · have := ih hl hv
     rw [h x (fun e => hx (e ▸ hv))]
     omega
theorem pend_set {E : List Ed} {n v t : Nat} {T : Nat → Option Nat} (hv : v < n) (hT : T v = none) : pend E n T = pend E n (setT T v t) + (adj E v).length := by
 unfold pend
 rw [sum_set (g := fun x => if setT T v t x = none then (adj E x).length else 0) List.nodup_range (List.mem_range.2 hv) (by simp [setT]) (fun x hx => by simp [setT, hx])]
 simp [hT]
theorem way_in {E : List Ed} {n s v t : Nat} (hin : In E n) (hs : s < n) (h : Way E s v t) : v < n := by
 cases h with
 | nil => exact hs
 | snoc e he _ => exact (hin e he).2
theorem mem_adj {E : List Ed} {v t : Nat} (x : Stop) : x ∈ (adj E v).map (fun y => (t + y.1, y.2)) ↔ ∃ e ∈ E, e.a = v ∧ x = (t + e.m, e.b) := by
 simp only [adj, List.map_map, List.mem_map, List.mem_filter, Function.comp_apply]
 constructor
 · rintro ⟨e, ⟨he, ha⟩, rfl⟩; exact ⟨e, he, by simpa using ha, rfl⟩
 · rintro ⟨e, he, ha, rfl⟩; exact ⟨e, ⟨he, by simpa using ha⟩, rfl⟩
theorem row_shape {w : World} {u : Value} {l : List Stop} (h : w.ownsRow 0 132 2 u l.length (flat l)) : ∃ a c, u = .slice a l.length c ∧ ∀ (i : Nat) (y : Stop), l[i]? = some y → ∃ gg, a = some ⟨gg, 0, none⟩ ∧ gg < w.heap.size := by
 rcases h.2 with ⟨rfl, h0⟩ | ⟨g, cap, cur, rfl, _, hg, _⟩
 · refine ⟨none, 0, by rw [h0], fun i y hi => ?_⟩
   have := (List.getElem?_eq_some_iff.1 hi).1
   omega
 · exact ⟨_, cap, rfl, fun _ _ _ => ⟨g, rfl, (Array.getElem?_eq_some_iff.1 hg).1⟩⟩
theorem row_cells {w : World} {gg c : Nat} {l : List Stop} (h : w.ownsRow 0 132 2 (.slice (some ⟨gg, 0, none⟩) l.length c) l.length (flat l)) {i : Nat} {y : Stop} (hi : l[i]? = some y) :
    w.cell? ⟨gg, i * 2, none⟩ = some (I y.1) ∧ w.cell? ⟨gg, i * 2 + 1, none⟩ = some (I y.2) := QRow.get h hi
def RetInts (w : World) (l : List Int) (e : Ending) (w' : World) : Prop := ∃ v, e = .returned v ∧ IntsAt w' v l ∧ Below w.heap.size w w'
def RetNew (w : World) (l : List Int) (e : Ending) (w' : World) : Prop := ∃ v, e = .returned v ∧ IntsAt w' v l ∧ Below w.heap.size w w' ∧ ∀ b, v.ownBlock = some b → w.heap.size ≤ b
theorem RetNew.ints {w : World} {l : List Int} {e : Ending} {w' : World} (h : RetNew w l e w') : RetInts w l e w' := by
 obtain ⟨v, h1, h2, h3, _⟩ := h
 exact ⟨v, h1, h2, h3⟩
structure Good (n : Nat) (l : List Rd) : Prop where
 nodes : n ≤ 100
 len : l.length ≤ 600
 road : ∀ r ∈ l, 0 ≤ r.fr ∧ r.fr < n ∧ 0 ≤ r.to ∧ r.to < n ∧ 1 ≤ r.mi ∧ r.mi ≤ 1000000
theorem mem_edges {ki : Int} {bk : Bool} {l : List Rd} {e : Ed} (h : e ∈ edges ki bk l) : ∃ r ∈ l, carB r.li ki = true ∧ e = if bk then ⟨r.to.toNat, r.fr.toNat, r.mi.toNat⟩ else ⟨r.fr.toNat, r.to.toNat, r.mi.toNat⟩ := by
 simp only [edges, List.mem_flatMap, edgeOf] at h
 obtain ⟨r, hr, he⟩ := h
 split at he
 · simp only [List.mem_singleton] at he
   exact ⟨r, hr, by assumption, he⟩
 · cases he
theorem Good.inn {n : Nat} {l : List Rd} (h : Good n l) (ki : Int) (bk : Bool) : In (edges ki bk l) n := fun e he => by
 obtain ⟨r, hr, _, rfl⟩ := mem_edges he
 have := h.road r hr
 cases bk <;> simp <;> omega
theorem Good.posi {n : Nat} {l : List Rd} (h : Good n l) (ki : Int) (bk : Bool) : Posi (edges ki bk l) := fun e he => by
 obtain ⟨r, hr, _, rfl⟩ := mem_edges he
 have := h.road r hr
 cases bk <;> simp <;> omega
theorem Good.most {n : Nat} {l : List Rd} (h : Good n l) (ki : Int) (bk : Bool) : ∀ e ∈ edges ki bk l, e.m ≤ 1000000 := fun e he => by
 obtain ⟨r, hr, _, rfl⟩ := mem_edges he
 have := h.road r hr
 cases bk <;> simp <;> omega
theorem Good.adj {n : Nat} {l : List Rd} (h : Good n l) (ki : Int) (bk : Bool) (a : Nat) : (adj (edges ki bk l) a).length ≤ 600 := by
 have := adj_bound ki bk l l.length a h.len
 rwa [List.take_length] at this
theorem st_start {wc w2 : World} {n s : Nat} (hO : OutAt w2 wc.heap.size n (fun _ => none)) (hB : Below wc.heap.size wc w2) (hsz : w2.heap.size = wc.heap.size + 1) :
    St wc ((w2.alloc (.cells #[I 0, I s] 132)).alloc (.cells #[.slice (some ⟨wc.heap.size + 1, 0, none⟩) 1 1] 134)) wc.heap.size n (fun _ => none) [(0, s)] (wc.heap.size + 1) 1 := by
 refine ⟨(hB.alloc (by omega) _).alloc (by simp; omega) _, ?_, ⟨?_, by omega, ?_⟩, by omega⟩
 · unfold OutAt
   rw [Below.heap_alloc _ _ _ (by simp; omega), Below.heap_alloc _ _ _ (by omega)]
   exact hO
 · have := heap_alloc_new (w2.alloc (.cells #[I 0, I s] 132)) (.cells #[.slice (some ⟨wc.heap.size + 1, 0, none⟩) 1 1] 134)
   simpa [hsz] using this
 · have h := World.ownsRow_lit (base := 0) (e := 132) (size := 2) w2 #[I 0, I s] 1 (Nat.zero_le _) (by decide) rfl
   rw [hsz] at h
   refine QRow.of_block (w := w2.alloc (.cells #[I 0, I s] 132)) (l := [(0, s)]) ?_ (Below.heap_alloc _ _ _ (by simp; omega))
   simpa [QRow, flat] using h
theorem heap2 (w : World) (o1 o2 : Obj) (k : Nat) (hk : k < w.heap.size) : ((w.alloc o1).alloc o2).heap[k]? = w.heap[k]? := by
 rw [Below.heap_alloc _ _ _ (by simp; omega), Below.heap_alloc _ _ _ hk]
theorem next_kept {w W : World} {G n : Nat} {E : List Ed} (h : NextAt w G n E) (hb : ∀ k, k < w.heap.size → W.heap[k]? = w.heap[k]?) : NextAt W G n E := by
 obtain ⟨vs, h1, h2, h3, h4⟩ := h
 exact ⟨vs, by rw [hb G (Array.getElem?_eq_some_iff.1 h1).1]; exact h1, h2, fun i v hv => ⟨ownsRow_kept' (h3 i v hv).1 fun k _ hk => hb k hk, (h3 i v hv).2⟩, h4⟩
theorem next_below {A wr W w1 : World} {B na : Nat} {u x : Value} (hB : Below B A wr) (hG : B < wr.heap.size) (hok : ∀ k, u.ownBlock = some k → B < k) (hW : ∀ k, k < wr.heap.size → W.heap[k]? = wr.heap[k]?)
    (h1 : W.os = wr.os) (h2 : W.tape = wr.tape) (h3 : W.output = wr.output) (h4 : wr.heap.size ≤ W.heap.size) (hgrow : W.grownBy w1 u.ownBlock) : Below B A (w1.setCell ⟨B, na, none⟩ x) := by
 refine hB.trans (Below.setCell (p := ⟨B, na, none⟩) ⟨hgrow.os.trans h1, hgrow.tape.trans h2, hgrow.output.trans h3, Nat.le_trans h4 hgrow.size, fun k hk => ?_⟩ (Nat.le_refl _) _)
 have hk : k < B := hk
 rw [hgrow.block k (by omega) (fun e => by have := hok k e.symm; omega), hW k (by omega)]
set_option maxRecDepth 100000 in
set_option maxHeartbeats 40000000 in
theorem search_new (n : Nat) (v : Value) (l : List Rd) (s : Nat) (ki : Int) (bk : Bool) (w : World) (hl : RoadsAt w v l) (hG : Good n l) (hsn : s < n) :
    Calls Try.prog 58 #[.agg #[I n, v], I s, I ki, B bk] w (RetNew w (dlist (edges ki bk l) n s)) := by
 have hn := hG.nodes
 have hk := hG.len
 have hR := hG.road
 obtain ⟨a, cap, rfl, hlc, hcap⟩ := hl.shape
 have hmk := fun u => run_make1 (P := Try.prog) 129 130 _ _ Try.underlying129 info_slc rfl n (by omega) (by omega) u
 have hmi := fun u => run_make1 (P := Try.prog) 22 3 _ _ Try.underlying22 info_int rfl n (by omega) (by omega) u
 obtain ⟨i0, hi0, hz0, hz1, hz2⟩ := info_parts info_stop
 have HR := Lib.hid hR; clear hR
 go_enter Try.func58, Try.ntmps58
 go_upto_block 0 with fail
 go_cut [27] (fun _ wx => NextAt wx (w.heap.size + 1) n (edges ki bk l) ∧ Below (w.heap.size + 1) (w.alloc (.cells #[I n, .slice a l.length cap] 55)) wx)
 case first =>
  go_wp2_with fail
  go_loopw [27] (fun c wr => ∃ j : Nat, j ≤ l.length ∧ c = I j ∧ NextAt wr (w.heap.size + 1) n (edges ki bk (l.take j)) ∧ Below (w.heap.size + 1) (w.alloc (.cells #[I n, .slice a l.length cap] 55)) wr) (fun c _ => l.length - (intOf c).toNat)
  case atStart => exact ⟨0, by omega, rfl, by simpa [edges_nil] using next_start (w.alloc _) n, (Below.refl _ _).alloc (by simp) _⟩
  case round =>
   obtain ⟨j, hj, rfl, hN, hB⟩ := hrel
   obtain ⟨hb, hs, hc0, hc1⟩ := box2 hB
   by_cases hlt : j < l.length
   · obtain ⟨b, off, x, rfl, hbl, hx, g0, g1, g2, g3⟩ := RoadsAt.get4 (hl.below RRoad.mono hb) hlt
     obtain ⟨r1, r2, r3, r4, r5, r6⟩ := HR.out x (List.mem_of_getElem? hx.out)
     cases bk with
     | false =>
       by_cases hcar : carB x.li ki = true
       · obtain ⟨vs, hvs, hvl, hrow, hdis⟩ := hN
         obtain ⟨na, ha⟩ : ∃ na : Nat, x.fr = (na : Int) := ⟨x.fr.toNat, by omega⟩
         obtain ⟨nb, hto⟩ : ∃ nb : Nat, x.to = (nb : Int) := ⟨x.to.toNat, by omega⟩
         obtain ⟨nm, hm⟩ : ∃ nm : Nat, x.mi = (nm : Int) := ⟨x.mi.toNat, by omega⟩
         obtain ⟨u, hu⟩ : ∃ u, vs[na]? = some u := ⟨_, List.getElem?_eq_getElem (by omega)⟩
         obtain ⟨ho, hog, hok⟩ := hrow na u hu
         have hcu : wr.cell? ⟨w.heap.size + 1, na, none⟩ = some u := by rw [cell_of_row wr _ na _ _ (0, 0) hvs]; simpa using hu
         have hfu : wr.frozen? ⟨w.heap.size + 1, na, none⟩ = false := frozen_of_row wr _ na _ _ hvs
         have hGlt : w.heap.size + 1 < wr.heap.size := (Array.getElem?_eq_some_iff.1 hvs).1
         have ha1 : (na : Int) < (n : Int) := by omega
         have hab := adj_bound ki false l j na hk
         have Hrow := Lib.hid hrow; clear hrow
         have Hdis := Lib.hid hdis; clear hdis
         have HE : Hid (edges ki false (l.take (j + 1)) = edges ki false (l.take j) ++ [⟨na, nb, nm⟩]) := Lib.hid <| by
          rw [take_snoc' hx.out, edges_snoc, edgeOf_yes hcar]; show _ = _; simp [ha, hto, hm]
         go_wp2_with fail
         go_quiet (fail)
         go_wp2_with (go_at_call 87; refine (carries_any _ _ _ _ _ _).mono ?_; rintro e w' ⟨rfl, rfl⟩)
         go_region_law ((refine step_append_lies _ (by rfl) _ _ _ (by rfl) 0 132 i0 _ 2 16 Try.underlying130 hi0 hz0 hz1 hz2 rfl (by omega) u _ _ (by rfl) (ownsRow_of ho (fun k hk => heap3 wr _ _ _ k hk)) ⟨wr.heap.size + 2, 0, none⟩ 1 1 [I nm, I nb] (by rfl) (by rfl) (World.news_of_block (cs := #[I nm, I nb]) (t := 132) (fr := (0, 0)) (heap3n wr _ _ _)) (by simp [Value.oneCell']) (by omega) (by unfold maxLen; omega) (by omega) (by simp) (wr.heap.size + 3) (by simp) ?_; intro gg cap' w1 hown1 hgrow hat hlt2; have kc := (hgrow.cell_far ⟨w.heap.size + 1, na, none⟩ (by simp; omega) (Ne.symm hog)).trans ((World.cell?_of_block (heap3 wr _ _ _ _ hGlt)).trans hcu); have kf := (hgrow.frozen_far ⟨w.heap.size + 1, na, none⟩ (by simp; omega) (Ne.symm hog)).trans ((World.frozen?_of_block (heap3 wr _ _ _ _ hGlt)).trans hfu)))
         all_goals
          go_wp2
          go_roundw
          case rel =>
           refine ⟨j + 1, by omega, by go_num, ?_, ?_⟩
           · rw [HE.out]
             exact next_push hvs hvl Hrow.out Hdis.out hu (by simp) (by exact fun k hk => heap3 wr _ _ _ k hk) hown1 hgrow hat
           · exact next_below hB hGlt hok (by exact fun k hk => heap3 wr _ _ _ k hk) (by rfl) (by rfl) (by rfl) (by simp; omega) hgrow
          case measure => simp [intOf]; omega
       · have hcar' : carB x.li ki = false := by simpa using hcar
         clear hcar
         have HE : Hid (edges ki false (l.take (j + 1)) = edges ki false (l.take j)) := Lib.hid <| by
          rw [take_snoc' hx.out, edges_snoc, edgeOf_no hcar']; simp
         go_wp2_with fail
         go_quiet (fail)
         go_wp2_with (go_at_call 87; refine (carries_any _ _ _ _ _ _).mono ?_; rintro e w' ⟨rfl, rfl⟩)
         go_roundw
         case rel =>
          refine ⟨j + 1, by omega, by go_num, ?_, ?_⟩
          · rw [HE.out]
            exact next_kept hN (fun k hk => heap2 wr _ _ k hk)
          · exact belowA (drewN_below (belowA hB (by simp)) _) (by simp)
         case measure => simp [intOf]; omega
     | true =>
       by_cases hcar : carB x.li ki = true
       · obtain ⟨vs, hvs, hvl, hrow, hdis⟩ := hN
         obtain ⟨na, ha⟩ : ∃ na : Nat, x.to = (na : Int) := ⟨x.to.toNat, by omega⟩
         obtain ⟨nb, hto⟩ : ∃ nb : Nat, x.fr = (nb : Int) := ⟨x.fr.toNat, by omega⟩
         obtain ⟨nm, hm⟩ : ∃ nm : Nat, x.mi = (nm : Int) := ⟨x.mi.toNat, by omega⟩
         obtain ⟨u, hu⟩ : ∃ u, vs[na]? = some u := ⟨_, List.getElem?_eq_getElem (by omega)⟩
         obtain ⟨ho, hog, hok⟩ := hrow na u hu
         have hcu : wr.cell? ⟨w.heap.size + 1, na, none⟩ = some u := by rw [cell_of_row wr _ na _ _ (0, 0) hvs]; simpa using hu
         have hfu : wr.frozen? ⟨w.heap.size + 1, na, none⟩ = false := frozen_of_row wr _ na _ _ hvs
         have hGlt : w.heap.size + 1 < wr.heap.size := (Array.getElem?_eq_some_iff.1 hvs).1
         have ha1 : (na : Int) < (n : Int) := by omega
         have hab := adj_bound ki true l j na hk
         have Hrow := Lib.hid hrow; clear hrow
         have Hdis := Lib.hid hdis; clear hdis
         have HE : Hid (edges ki true (l.take (j + 1)) = edges ki true (l.take j) ++ [⟨na, nb, nm⟩]) := Lib.hid <| by
          rw [take_snoc' hx.out, edges_snoc, edgeOf_yes hcar]; show _ = _; simp [ha, hto, hm]
         go_wp2_with fail
         go_quiet (fail)
         go_wp2_with (go_at_call 87; refine (carries_any _ _ _ _ _ _).mono ?_; rintro e w' ⟨rfl, rfl⟩)
         go_region_law ((refine step_append_lies _ (by rfl) _ _ _ (by rfl) 0 132 i0 _ 2 16 Try.underlying130 hi0 hz0 hz1 hz2 rfl (by omega) u _ _ (by rfl) (ownsRow_of ho (fun k hk => heap3 wr _ _ _ k hk)) ⟨wr.heap.size + 2, 0, none⟩ 1 1 [I nm, I nb] (by rfl) (by rfl) (World.news_of_block (cs := #[I nm, I nb]) (t := 132) (fr := (0, 0)) (heap3n wr _ _ _)) (by simp [Value.oneCell']) (by omega) (by unfold maxLen; omega) (by omega) (by simp) (wr.heap.size + 3) (by simp) ?_; intro gg cap' w1 hown1 hgrow hat hlt2; have kc := (hgrow.cell_far ⟨w.heap.size + 1, na, none⟩ (by simp; omega) (Ne.symm hog)).trans ((World.cell?_of_block (heap3 wr _ _ _ _ hGlt)).trans hcu); have kf := (hgrow.frozen_far ⟨w.heap.size + 1, na, none⟩ (by simp; omega) (Ne.symm hog)).trans ((World.frozen?_of_block (heap3 wr _ _ _ _ hGlt)).trans hfu)))
         all_goals
          go_wp2
          go_roundw
          case rel =>
           refine ⟨j + 1, by omega, by go_num, ?_, ?_⟩
           · rw [HE.out]
             exact next_push hvs hvl Hrow.out Hdis.out hu (by simp) (by exact fun k hk => heap3 wr _ _ _ k hk) hown1 hgrow hat
           · exact next_below hB hGlt hok (by exact fun k hk => heap3 wr _ _ _ k hk) (by rfl) (by rfl) (by rfl) (by simp; omega) hgrow
          case measure => simp [intOf]; omega
       · have hcar' : carB x.li ki = false := by simpa using hcar
         clear hcar
         have HE : Hid (edges ki true (l.take (j + 1)) = edges ki true (l.take j)) := Lib.hid <| by
          rw [take_snoc' hx.out, edges_snoc, edgeOf_no hcar']; simp
         go_wp2_with fail
         go_quiet (fail)
         go_wp2_with (go_at_call 87; refine (carries_any _ _ _ _ _ _).mono ?_; rintro e w' ⟨rfl, rfl⟩)
         go_roundw
         case rel =>
          refine ⟨j + 1, by omega, by go_num, ?_, ?_⟩
          · rw [HE.out]
            exact next_kept hN (fun k hk => heap2 wr _ _ k hk)
          · exact belowA (drewN_below (belowA hB (by simp)) _) (by simp)
         case measure => simp [intOf]; omega
   · have e : j = l.length := by omega
     subst e
     go_wp2_with fail
     go_meet
     case rel => exact ⟨by simpa using hN, hB⟩
 case rest =>
  obtain ⟨hN, hB⟩ := hcut
  obtain ⟨hb0, hs0, hc0, hc1⟩ := box2 hB
  obtain ⟨wr0, hwr0⟩ : ∃ wr0 : World, wr0 = wc := ⟨_, rfl⟩
  subst hwr0
  go_upto_block 2 with fail
  go_cut [60] (fun _ wx => OutAt wx wr0.heap.size n (fun _ => none) ∧ Below wr0.heap.size wr0 wx ∧ wx.heap.size = wr0.heap.size + 1)
  case first =>
   go_wp2_with fail
   go_loopw [60] (fun c wr => ∃ j : Nat, j ≤ n ∧ c = I j ∧ wr.heap[wr0.heap.size]? = some (.cells ((List.range n).map fun v => if v < j then I (-1) else I 0).toArray 3 (0, 0)) ∧ Below wr0.heap.size wr0 wr ∧ wr.heap.size = wr0.heap.size + 1) (fun c _ => n - (intOf c).toNat)
   case atStart =>
    refine ⟨0, by omega, rfl, ?_, (Below.refl _ _).alloc (Nat.le_refl _) _, by simp⟩
    rw [heap_alloc_new]
    congr 2
    apply Array.ext'
    apply List.ext_getElem?
    intro i
    simp [List.getElem?_replicate]
    split <;> simp_all
   case round =>
    obtain ⟨j, hj, rfl, hh, hBb, hsz⟩ := hrel
    have Hsz := Lib.hid hsz; clear hsz
    by_cases hlt : j < n
    · have hcj : wr.cell? ⟨wr0.heap.size, j, none⟩ = some (I 0) := by rw [cell_of_row wr _ j _ _ (0, 0) hh]; simp [hlt]
      have hfj : wr.frozen? ⟨wr0.heap.size, j, none⟩ = false := frozen_of_row wr _ j _ _ hh
      have hji : (j : Int) < (n : Int) := by omega
      go_wp2_with fail
      go_roundw
      case rel =>
       refine ⟨j + 1, by omega, by go_num, ?_, hBb.setCell (p := ⟨_, j, none⟩) (Nat.le_refl _) _, by simpa using Hsz.out⟩
       rw [heap_setCell_same wr _ j _ _ _ hh]
       congr 2
       apply Array.ext'
       apply List.ext_getElem?
       intro i
       simp only [List.setIfInBounds_toArray, List.getElem?_set, List.getElem?_map, List.length_map, List.length_range]
       by_cases hi : i < n
       · by_cases hv : j = i
         · subst hv; simp [hi]
         · simp only [hi, hv, List.getElem?_range, Option.map_some, if_false]
           have : (i < j) = (i < j + 1) := by apply propext; omega
           simp [this]
       · by_cases hv : j = i
         · subst hv; simp [hi]
         · simp [hi, hv]
      case measure => simp [intOf]; omega
    · have e : j = n := by omega
      subst e
      go_wp2_with fail
      go_meet
      case rel =>
       refine ⟨?_, hBb, Hsz.out⟩
       unfold OutAt
       rw [hh]
       congr 3
       apply List.map_congr_left
       intro v hv
       simp [encT, List.mem_range.1 hv]
  case rest =>
   obtain ⟨hO, hBc, hsz⟩ := hcut
   obtain ⟨w2, hw2⟩ : ∃ w2 : World, w2 = wc := ⟨_, rfl⟩
   subst hw2
   go_wp2_with fail
   go_loopg [] (1 + pend (edges ki bk l) n (fun _ => none)) (fun k wr => ∃ T H g cap, k = H.length + pend (edges ki bk l) n T ∧ k ≤ 60001 ∧ Wave (edges ki bk l) s T H ∧ HeapN H H.length ∧ (∀ x ∈ H, x.1 ≤ 200000000) ∧ St wr0 wr wr0.heap.size n T H g cap)
   case atStart =>
    refine ⟨fun _ => none, [(0, s)], wr0.heap.size + 1, 1, by simp, ?_, wave_start _ _, fun c h0 h1 => by simp at h1; omega, by simp, ?_⟩
    · have := pend_le (edges ki bk l) n (fun _ => none) (hG.adj ki bk) hG.nodes
      omega
    · exact st_start hO hBc hsz
   case round =>
    obtain ⟨wo, hwo⟩ : ∃ wo : World, wo = wr := ⟨_, rfl⟩
    subst hwo
    obtain ⟨T, H, g, cap, hk1, hk2, hW, hH, hbd, hSt⟩ := hrel
    by_cases hne : 0 < H.length
    · have hpos : (0 : Int) < (H.length : Int) := by omega
      have HW := Lib.hid hW; clear hW
      have HB := Lib.hid hbd; clear hbd
      have HK := Lib.hid hk1; clear hk1
      have HK2 := Lib.hid hk2; clear hk2
      have HHe := Lib.hid hH; clear hH
      have hqc := hSt.qat.cell
      have hta := assert_stop
      go_upto_region 20 with (first
       | (go_at_call 88; refine (len_any _ _ _ _).mono ?_; rintro e w' ⟨rfl, rfl⟩)
       | (go_at_call 89; refine (heappop_any _ _ _ H _ hSt.qat HHe.out hne (by have := HK.out; have := HK2.out; omega)).mono ?_; rintro e w3 ⟨x, H', rfl, hQ3, hp3, hmin, hH3, hOn⟩; have Hmin := Lib.hid hmin; clear hmin; have HH3 := Lib.hid hH3; clear hH3))
      have hSt3 := hSt.only hOn hQ3 (.inl rfl)
      have hq3 : wr0.heap.size + 1 + 1 < w3.heap.size := (Array.getElem?_eq_some_iff.1 hQ3.head).1
      have hS3 : wr0.heap.size < w3.heap.size := (Array.getElem?_eq_some_iff.1 hSt3.out).1
      have hxH : x ∈ H := hp3.mem_iff.1 (List.mem_cons_self ..)
      have hxn : x.2 < n := way_in (hG.inn ki bk) hsn (HW.out.way x hxH)
      have hxb := HB.out x hxH
      have hlen3 : H'.length + 1 = H.length := by have := hp3.length_eq; simpa using this
      have hcx := hSt3.out.cell hxn
      have hfx := hSt3.out.free x.2
      have hxi : (x.2 : Int) < (n : Int) := by omega
      have Hp3 := Lib.hid hp3; clear hp3
      have Hl3 := Lib.hid hlen3; clear hlen3
      have HxH := Lib.hid hxH; clear hxH
      cases hT : T x.2 with
      | some d =>
        rw [hT] at hcx
        have hd : ((d : Int) != -1) = true := by simp
        have HT := Lib.hid hT; clear hT
        simp only [encT] at hcx
        go_wp2_with fail
        go_roundg (H'.length + pend (edges ki bk l) n T)
        case measure => have := HK.out; have := Hl3.out; omega
        case rel =>
         refine ⟨T, H', g, cap, rfl, by have := HK.out; have := Hl3.out; have := HK2.out; omega, HW.out.skip (t := x.1) (v := x.2) (fun y => by rw [← Hp3.out.mem_iff]; exact List.mem_cons) (by rw [HT.out]; simp), HH3.out, fun y hy => HB.out y (Hp3.out.mem_iff.1 (List.mem_cons_of_mem _ hy)), hSt3.alloc _⟩
      | none =>
        rw [hT] at hcx
        have HT := Lib.hid hT; clear hT
        simp only [encT] at hcx
        have hdx := (Wave.least HW.out (t := x.1) (v := x.2) HxH.out Hmin.out HT.out)
        have hx8 : x.1 ≤ 100000000 := by
         have := dst_bound (hG.posi ki bk) (hG.inn ki bk) (hG.most ki bk) hdx
         have := hG.nodes
         have := Nat.mul_le_mul_right 1000000 hG.nodes
         omega
        have hSt4 := hSt3.settle x.2 x.1
        obtain ⟨vs, hvs, hvl, hrow, _⟩ := hN
        obtain ⟨u, hu⟩ : ∃ u, vs[x.2]? = some u := ⟨_, List.getElem?_eq_getElem (by omega)⟩
        obtain ⟨hown, _, _⟩ := hrow x.2 u hu
        have hGS : w.heap.size + 1 < wr0.heap.size := (Array.getElem?_eq_some_iff.1 hvs).1
        have hG3 : w.heap.size + 1 < w3.heap.size := by omega
        have hcu : w3.cell? ⟨w.heap.size + 1, x.2, none⟩ = some u := (hSt3.below.cell (p := ⟨w.heap.size + 1, x.2, none⟩) hGS).trans ((cell_of_row _ _ x.2 _ _ (0, 0) hvs).trans (by simpa using hu))
        obtain ⟨ua, uc, rfl, hushape⟩ := row_shape hown
        obtain ⟨A, hA⟩ : ∃ A, A = adj (edges ki bk l) x.2 := ⟨_, rfl⟩
        rw [← hA] at hown hushape hcu
        have hab : A.length ≤ 600 := by rw [hA]; exact hG.adj ki bk x.2
        have HA := Lib.hid hA; clear hA
        have Hush := Lib.hid hushape; clear hushape hrow hvl
        have Hvs := Lib.hid hvs; clear hvs hu
        go_wp2_with fail
        go_loopw [105] (fun c wr' => ∃ (j : Nat) (H2 : List Stop) (g2 cap2 : Nat), j ≤ A.length ∧ c = I j ∧ St wr0 wr' wr0.heap.size n (setT T x.2 x.1) H2 g2 cap2 ∧ H2.Perm (H' ++ (A.take j).map (fun y => (x.1 + y.1, y.2))) ∧ HeapN H2 H2.length ∧
            wr'.cell? ⟨w3.heap.size, 0, none⟩ = some (I x.1) ∧ wr'.cell? ⟨w3.heap.size, 1, none⟩ = some (I x.2) ∧ w3.heap.size < wr'.heap.size ∧ w3.heap.size ≠ g2) (fun c _ => A.length - (intOf c).toNat)
        case atStart =>
         refine ⟨0, H', g, cap, by omega, rfl, hSt4.alloc _, by simp, HH3.out, ?_, ?_, by simp, ?_⟩
         · rw [World.cell?_alloc_at _ _ _ _ (by simp)]; rfl
         · rw [World.cell?_alloc_at _ _ _ _ (by simp)]; rfl
         · have := hQ3.row.lt; omega
        case round =>
         obtain ⟨j, H2, g2, cap2, hj, rfl, hS2, hp2, hh2, x0, x1, xlt, xg⟩ := hrel
         have HP2 := Lib.hid hp2; clear hp2
         have HH2 := Lib.hid hh2; clear hh2
         have hl2 : H2.length ≤ 100000 := by
          have h1 := HP2.out.length_eq
          have h2 := HK.out; have h3 := HK2.out; have h4 := Hl3.out
          simp at h1
          omega
         by_cases hlt : j < A.length
         · obtain ⟨y, hy⟩ : ∃ y, A[j]? = some y := ⟨_, List.getElem?_eq_getElem hlt⟩
           obtain ⟨gg, hua, hgg⟩ := Hush.out j y hy
           subst hua
           obtain ⟨c0, c1⟩ := row_cells hown hy
           have d0 := (hS2.below.cell (p := ⟨gg, j * 2, none⟩) hgg).trans c0
           have d1 := (hS2.below.cell (p := ⟨gg, j * 2 + 1, none⟩) hgg).trans c1
           have hSw : wr0.heap.size < wr.heap.size := by omega
           have hym : y.1 ≤ 1000000 := by
            have hyA := List.mem_of_getElem? hy
            rw [HA.out] at hyA
            simp only [adj, List.mem_map, List.mem_filter] at hyA
            obtain ⟨e, ⟨he, _⟩, rfl⟩ := hyA
            exact hG.most ki bk e he
           obtain ⟨z, hz⟩ : ∃ z : Nat, (x.1 : Int) + (y.1 : Int) = (z : Int) := ⟨x.1 + y.1, by omega⟩
           have Hy := Lib.hid hy; clear hy
           have hggw : gg < wr.heap.size := by omega
           go_wp2_with (go_at_call 90; refine (heappush_any _ _ _ H2 (z, y.2) _ (hS2.alloc _).qat HH2.out (by omega)).mono ?_; rintro e w5 ⟨rfl, g5, cap5, H5, hQ5, hp5, hh5, hg5, hOn5⟩)
           go_roundw
           case rel =>
            have hXw : w3.heap.size < (wr.alloc (.cells #[I y.1, I y.2] 132)).heap.size := by simp; omega
            have hb5 := hOn5.block w3.heap.size hXw (by omega) xg
            have hb6 : (wr.alloc (.cells #[I y.1, I y.2] 132)).heap[w3.heap.size]? = wr.heap[w3.heap.size]? := Below.heap_alloc _ _ _ xlt
            refine ⟨j + 1, H5, g5, cap5, by omega, by go_num, (hS2.alloc _).only hOn5 hQ5 hg5, ?_, hh5, ?_, ?_, ?_, ?_⟩
            · rw [take_snoc' Hy.out, List.map_append]
              have ez : z = x.1 + y.1 := by omega
              subst ez
              exact (hp5.trans (HP2.out.append_right _)).trans (by rw [List.append_assoc]; exact .refl _)
            · exact (World.cell?_of_block (hb5.trans hb6)).trans x0
            · exact (World.cell?_of_block (hb5.trans hb6)).trans x1
            · have := hOn5.size; simp only [World.size_alloc] at this; omega
            · rcases hg5 with hg5 | hg5
              · omega
              · simp only [World.size_alloc] at hg5; omega
           case measure => simp [intOf]; omega
         · have ej : j = A.length := by omega
           subst ej
           go_wp2_with fail
           have hpe : H2.Perm (H' ++ A.map (fun y => (x.1 + y.1, y.2))) := by have := HP2.out; rwa [List.take_length] at this
           have hle : H2.length = H'.length + A.length := by have := hpe.length_eq; simpa using this
           have hpd := pend_set (E := edges ki bk l) (t := x.1) hxn HT.out
           rw [← HA.out] at hpd
           go_roundg (H2.length + pend (edges ki bk l) n (setT T x.2 x.1))
           case measure => have := HK.out; have := Hl3.out; omega
           case rel =>
            refine ⟨setT T x.2 x.1, H2, g2, cap2, rfl, by have := HK.out; have := Hl3.out; have := HK2.out; omega, ?_, HH2.out, ?_, hS2⟩
            · refine HW.out.step (t := x.1) (v := x.2) (H' := H') (fun y => by rw [← Hp3.out.mem_iff]; exact List.mem_cons) Hmin.out HT.out (fun y => ?_)
              rw [hpe.mem_iff, List.mem_append, HA.out, mem_adj]
            · intro y hy
              rw [hpe.mem_iff, List.mem_append] at hy
              rcases hy with hy | hy
              · exact HB.out y (Hp3.out.mem_iff.1 (List.mem_cons_of_mem _ hy))
              · rw [HA.out, mem_adj] at hy
                obtain ⟨e, he, _, rfl⟩ := hy
                have := hG.most ki bk e he
                show x.1 + e.m ≤ _
                omega
    · have hH0 : H = [] := List.eq_nil_of_length_eq_zero (by omega)
      subst hH0
      have hqc := hSt.qat.cell
      go_wp2_with (go_at_call 88; refine (len_any _ _ _ _).mono ?_; rintro e w' ⟨rfl, rfl⟩)
      go_ret
      refine ⟨_, rfl, ?_, ?_, fun b hb => by simp [Value.ownBlock] at hb; omega⟩
      · have := hSt.out.ints hG.nodes
        have e : ((List.range n).map fun v => encT (T v)) = dlist (edges ki bk l) n s := List.map_congr_left fun v _ => by rw [hW.last v]
        rw [← e]; exact this
      · exact hb0.trans (hSt.below.mono (by omega))
theorem search_any (n : Nat) (v : Value) (l : List Rd) (s : Nat) (ki : Int) (bk : Bool) (w : World) (hl : RoadsAt w v l) (hG : Good n l) (hsn : s < n) :
    Calls Try.prog 58 #[.agg #[I n, v], I s, I ki, B bk] w (RetInts w (dlist (edges ki bk l) n s)) :=
 (search_new n v l s ki bk w hl hG hsn).mono fun _ _ h => h.ints
end Go.Proofs.Ytbnbpfjfkedbaaa.Rn
