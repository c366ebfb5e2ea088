/-
  The reference's Times: it goes through all roads again and again.
-/
import Derived.Test.YtbnbpfjfkedbaaaPRnC
import Derived.BigRegion
import Derived.Deep.CutBlock
namespace Go.Proofs.Ytbnbpfjfkedbaaa.Rn
set_option linter.unusedVariables false
set_option linter.unusedSimpArgs false
set_option linter.unusedSectionVars false
set_option maxRecDepth 100000
open Go.RowKit
theorem carries_y (f t m li kilos : Int) (w : World) (b : Bool) (h : carB li kilos = b) :
    Calls Try.prog 87 #[.agg #[I f, I t, I m, I li], I kilos] w fun e w' => e = .returned (.bool b) ∧ Below w.heap.size w w' := by
 subst h
 exact (carries_any f t m li kilos w).mono fun _ _ ⟨he, hw⟩ => ⟨he, by subst hw; exact belowA (Below.refl _ _) (Nat.le_refl _)⟩
theorem box2s {w wr : World} {c0 c1 : Value} {T : TypeId} (h : Below (w.alloc (.cells #[c0, c1] T)).heap.size (w.alloc (.cells #[c0, c1] T)) wr) :
    Below (w.heap.size + 1) (w.alloc (.cells #[c0, c1] T)) wr ∧ Below w.heap.size w wr ∧ w.heap.size < wr.heap.size ∧ wr.cell? ⟨w.heap.size, 0, none⟩ = some c0 ∧ wr.cell? ⟨w.heap.size, 1, none⟩ = some c1 := by
 have h' : Below (w.heap.size + 1) (w.alloc (.cells #[c0, c1] T)) wr := by rw [World.size_alloc] at h; exact h
 exact ⟨h', box2 h'⟩
instance (w : World) : Nonempty (Ext w) := ⟨⟨w, Below.refl _ _⟩⟩
structure Rf (w0 wr : World) (O n : Nat) (E : List Ed) (s : Nat) (T : Nat → Option Nat) (M : Nat) : Prop where
 out : OutAt wr O n T
 below : Below O w0 wr
 sound : Sound E s T
 most : ∀ v t, T v = some t → t ≤ M
theorem Rf.ext {w0 wr w' : World} {O n : Nat} {E : List Ed} {s : Nat} {T : Nat → Option Nat} {M : Nat} (h : Rf w0 wr O n E s T M) (hb : Below wr.heap.size wr w') : Rf w0 w' O n E s T M := by
 have hO : O < wr.heap.size := (Array.getElem?_eq_some_iff.1 h.out).1
 refine ⟨?_, h.below.trans (hb.mono (by omega)), h.sound, h.most⟩
 unfold OutAt
 rw [hb.block O hO]
 exact h.out
theorem Rf.next {w0 wr w' : World} {O n : Nat} {E : List Ed} {s : Nat} {T : Nat → Option Nat} {k i : Nat} (h : Rf w0 wr O n E s T (k * 600000000 + i * 1000000)) (hb : Below wr.heap.size wr w') : Rf w0 w' O n E s T (k * 600000000 + (i + 1) * 1000000) :=
 ⟨(h.ext hb).out, (h.ext hb).below, h.sound, fun v t hv => Nat.le_trans (h.most v t hv) (Nat.add_le_add_left (Nat.mul_le_mul_right _ (Nat.le_succ i)) _)⟩
theorem edges_mem {ki : Int} {bk : Bool} {l : List Rd} {x : Rd} (hx : x ∈ l) (h : carB x.li ki = true) : (if bk then (⟨x.to.toNat, x.fr.toNat, x.mi.toNat⟩ : Ed) else ⟨x.fr.toNat, x.to.toNat, x.mi.toNat⟩) ∈ edges ki bk l := by
 simp only [edges, List.mem_flatMap]
 exact ⟨x, hx, by rw [edgeOf_yes h]; simp⟩
def FillAt (w : World) (O n j : Nat) : Prop := w.heap[O]? = some (.cells ((List.range n).map fun v => if v < j then I (-1) else I 0).toArray 3 (0, 0))
theorem FillAt.cell {w : World} {O n j : Nat} (h : FillAt w O n j) (hj : j < n) : w.cell? ⟨O, j, none⟩ = some (I 0) := by
 rw [cell_of_row w _ j _ _ (0, 0) h]; simp [hj]
theorem FillAt.free {w : World} {O n j : Nat} (h : FillAt w O n j) : w.frozen? ⟨O, j, none⟩ = false := frozen_of_row w _ j _ _ h
theorem FillAt.step {w : World} {O n j : Nat} (h : FillAt w O n j) : FillAt (w.setCell ⟨O, j, none⟩ (I (-1))) O n (j + 1) := by
 unfold FillAt
 rw [heap_setCell_same w _ j _ _ _ h]
 congr 2
 apply Array.ext'
 apply List.ext_getElem?
 intro i
 simp only [List.setIfInBounds_toArray, List.getElem?_set, List.getElem?_map, List.length_map, List.length_range]
 by_cases hi : i < n
 · by_cases hv : j = i
   · subst hv; simp [hi]
   · simp only [hi, hv, List.getElem?_range, Option.map_some, if_false]
     have : (i < j) = (i < j + 1) := by apply propext; omega
     simp [this]
 · by_cases hv : j = i
   · subst hv; simp [hi]
   · simp [hi, hv]
theorem FillAt.done {w : World} {O n : Nat} (h : FillAt w O n n) : OutAt w O n (fun _ => none) := by
 unfold OutAt
 rw [h]
 congr 3
 apply List.map_congr_left
 intro v hv
 simp [encT, List.mem_range.1 hv]
theorem _root_.Go.Proofs.Ytbnbpfjfkedbaaa.IntsAt.row {w : World} {a : Option Addr} {n cap : Nat} {l : List Int} (h : IntsAt w (.slice a n cap) l) (h0 : 0 < l.length) : ∃ b off, a = some ⟨b, off, none⟩ ∧ b < w.heap.size ∧ ∀ (i : Nat) (x : Int), l[i]? = some x → w.cell? ⟨b, off + i, none⟩ = some (I x) := by
 obtain ⟨a', cap', hv, hl, hc, h⟩ := h
 simp only [Value.slice.injEq] at hv
 obtain ⟨rfl, rfl, rfl⟩ := hv
 rcases h with h | ⟨b, off, ha, hlt, hx⟩
 · omega
 · refine ⟨b, off, ha, hlt, fun i x hi => ?_⟩
   obtain ⟨cs, hr, hs, hj⟩ := hx i x hi
   have := hj 0 (I x) (by rw [hr]; rfl)
   simpa using this
def FAt (w : World) (F n : Nat) (f : Nat → Bool) : Prop := w.heap[F]? = some (.cells ((List.range n).map fun v => Value.bool (f v)).toArray 4 (0, 0))
theorem FAt.cell {w : World} {F n : Nat} {f : Nat → Bool} (h : FAt w F n f) {v : Nat} (hv : v < n) : w.cell? ⟨F, v, none⟩ = some (.bool (f v)) := by
 rw [cell_of_row w F v _ _ (0, 0) h]; simp [hv]
theorem FAt.free {w : World} {F n : Nat} {f : Nat → Bool} (h : FAt w F n f) (v : Nat) : w.frozen? ⟨F, v, none⟩ = false := frozen_of_row w F v _ _ h
theorem FAt.set {w : World} {F n : Nat} {f : Nat → Bool} (h : FAt w F n f) (v : Nat) (b : Bool) : FAt (w.setCell ⟨F, v, none⟩ (.bool b)) F n (fun x => if x = v then b else f x) := by
 unfold FAt
 rw [heap_setCell_same w F v _ _ _ h]
 congr 2
 apply Array.ext'
 apply List.ext_getElem?
 intro i
 simp only [List.setIfInBounds_toArray, List.getElem?_set, List.getElem?_map, List.length_map, List.length_range]
 by_cases hi : i < n
 · by_cases hv : v = i
   · subst hv; simp [hi]
   · simp [hi, hv, Ne.symm hv]
 · by_cases hv : v = i
   · subst hv; simp [hi]
   · simp [hi, hv]
theorem fat_start (w : World) (n : Nat) : FAt (w.alloc (.cells (Array.replicate n (.bool false)) 4)) w.heap.size n (fun _ => false) := by
 unfold FAt
 rw [heap_alloc_new]
 congr 2
 apply Array.ext'
 apply List.ext_getElem?
 intro i
 by_cases hi : i < n <;> simp [List.getElem?_replicate, hi]
theorem FAt.of_block {w w' : World} {F n : Nat} {f : Nat → Bool} (h : FAt w F n f) (hb : ∀ k, k < w.heap.size → w'.heap[k]? = w.heap[k]?) : FAt w' F n f := by
 unfold FAt
 rw [hb F (Array.getElem?_eq_some_iff.1 h).1]
 exact h
def FInv (f : Nat → Bool) (E : List Ed) (s n : Nat) (T : Nat → Option Nat) : Prop := ∀ v, v < n → (f v = true ↔ Fnd E s T v)
def EInv (E : List Ed) (T : Nat → Option Nat) : Prop := ∀ e ∈ E, ∀ t, T e.a = some t → ∃ t', T e.b = some t' ∧ t' ≤ t + e.m
theorem finv_start {s n : Nat} {T : Nat → Option Nat} : FInv (fun x => if x = s then (encT (T s) == 0) else false) [] s n T := by
 intro v hv
 unfold Fnd
 by_cases h : v = s
 · subst h
   simp only [if_true, List.not_mem_nil, false_and, exists_false, or_false, true_and, beq_iff_eq]
   cases hT : T v with
   | none => simp [encT]
   | some d => simp [encT]
 · simp [h]
theorem finv_same {f : Nat → Bool} {E : List Ed} {s n : Nat} {T : Nat → Option Nat} {e : Ed} (h : FInv f E s n T) (hno : ∀ u, T e.a = some u → e.b = s ∨ T e.b ≠ some (u + e.m)) : FInv f (E ++ [e]) s n T := by
 intro v hv
 rw [h v hv]
 unfold Fnd
 constructor
 · rintro (h | ⟨e', he, r⟩)
   · exact .inl h
   · exact .inr ⟨e', List.mem_append_left _ he, r⟩
 · rintro (h | ⟨e', he, hb, hs, u, hu, hv⟩)
   · exact .inl h
   · rcases List.mem_append.1 he with he | he
     · exact .inr ⟨e', he, hb, hs, u, hu, hv⟩
     · rw [List.mem_singleton] at he
       subst he
       subst hb
       rcases hno u hu with h' | h'
       · exact absurd h' hs
       · exact absurd hv h'
theorem finv_new {f : Nat → Bool} {E : List Ed} {s n : Nat} {T : Nat → Option Nat} {e : Ed} {u : Nat} (h : FInv f E s n T) (hu : T e.a = some u) (hs : e.b ≠ s) (hb : T e.b = some (u + e.m)) : FInv (fun x => if x = e.b then true else f x) (E ++ [e]) s n T := by
 intro v hv
 by_cases hvb : v = e.b
 · subst hvb
   simp only [if_true, true_iff]
   exact .inr ⟨e, by simp, rfl, hs, u, hu, hb⟩
 · simp only [hvb, if_false]
   rw [h v hv]
   unfold Fnd
   constructor
   · rintro (h | ⟨e', he, r⟩)
     · exact .inl h
     · exact .inr ⟨e', List.mem_append_left _ he, r⟩
   · rintro (h | ⟨e', he, hb', r⟩)
     · exact .inl h
     · rcases List.mem_append.1 he with he | he
       · exact .inr ⟨e', he, hb', r⟩
       · rw [List.mem_singleton] at he
         subst he
         exact absurd hb'.symm hvb
theorem einv_add {E : List Ed} {T : Nat → Option Nat} {e : Ed} (h : EInv E T) (he : ∀ t, T e.a = some t → ∃ t', T e.b = some t' ∧ t' ≤ t + e.m) : EInv (E ++ [e]) T := fun e' he' => by
 rcases List.mem_append.1 he' with h' | h'
 · exact h e' h'
 · rw [List.mem_singleton] at h'; subst h'; exact he
theorem box_below {w : World} {o : Obj} : Below w.heap.size w (w.alloc o) := belowA (Below.refl _ _) (Nat.le_refl _)
set_option maxRecDepth 100000 in
set_option maxHeartbeats 40000000 in
theorem proves_any (n s ki : Int) (v vt : Value) (l : List Rd) (ts : List Int) (w : World) (hl : RoadsAt w v l) (ht : IntsAt w vt ts) :
    Calls Try.prog 54 #[.agg #[I n, v], I s, I ki, vt] w fun e w' => e = .returned (B (provesL n l s ki ts)) ∧ Below w.heap.size w w' := by
 obtain ⟨a, cap, rfl, hlc, hcap⟩ := hl.shape
 obtain ⟨at2, ct, rfl, htc, hct⟩ := ht.shape
 by_cases hc : chkNet n l = 0
 · have hcb : (chkNet n l != 0) = false := by simp [hc]
   obtain ⟨h0, h1, h2, h3⟩ := chkNet_zero hc
   obtain ⟨N, rfl⟩ : ∃ N : Nat, n = (N : Int) := ⟨n.toNat, by omega⟩
   have hG := good_of hc
   have HC := Lib.hid hc; clear hc h3
   by_cases hs : 0 ≤ s ∧ s < N
   · obtain ⟨S, rfl⟩ : ∃ S : Nat, s = (S : Int) := ⟨s.toNat, by omega⟩
     have hin : inB (S : Int) 0 ((N : Int) - 1) = true := by rw [inB_iff]; omega
     have hS : S < N := by omega
     by_cases hlen : ts.length = N
     · rw [hlen] at ht ⊢
       obtain ⟨tb, toff, rfl, htb, htcell⟩ := ht.row (by omega)
       have HT := Lib.hid htcell; clear htcell
       have Hlen := Lib.hid hlen; clear hlen
       have hn := hG.nodes
       have hk := hG.len
       have hSi : (S : Int) < (N : Int) := by omega
       have hmb := fun u => run_make1 (P := Try.prog) 51 4 _ _ Try.underlying51 info_bool rfl N (by omega) (by omega) u
       obtain ⟨x0, hx0⟩ : ∃ x, ts[S]? = some x := ⟨_, List.getElem?_eq_getElem (by rw [Hlen.out]; exact hS)⟩
       have hcx0 := HT.out S x0 hx0
       have Hx0 := Lib.hid hx0; clear hx0
       go_enter Try.func54, Try.ntmps54
       go_upto_region 4 with (first
        | (go_at_call 22; refine (check_any _ _ l _ (hl.below RRoad.mono ((Below.refl _ _).alloc (Nat.le_refl _) _))).mono ?_; rintro e w1 ⟨rfl, hb1⟩; obtain ⟨hB1, hb1', hs1, hc10, hc11⟩ := box2s hb1)
        | (go_at_call 55; refine (in_any _ _ _ _).mono ?_; rintro e w' ⟨rfl, rfl⟩))
       have hF0 := fat_start w1 N
       have hcF := hF0.cell hS
       have hfF := hF0.free S
       have htw1 : tb < w1.heap.size := by omega
       have hcx1 : w1.cell? ⟨tb, toff + S, none⟩ = some (I x0) := (hb1'.cell (p := ⟨tb, toff + S, none⟩) htb).trans hcx0
       have hF1 := hF0.set S (x0 == 0)
       go_upto_block 0 with fail
       go_cut [48] (fun _ wx => (∀ x ∈ ts, okT x) ∧ FAt wx w1.heap.size N (fun x => if x = S then (x0 == 0) else false) ∧ Below w1.heap.size w1 wx)
       case first =>
        go_wp2_with fail
        go_loopw [48] (fun c wr => ∃ j : Nat, j ≤ N ∧ c = I j ∧ (∀ x ∈ ts.take j, okT x) ∧ FAt wr w1.heap.size N (fun x => if x = S then (x0 == 0) else false) ∧ Below w1.heap.size w1 wr) (fun c _ => N - (intOf c).toNat)
        case atStart => exact ⟨0, by omega, rfl, by simp, by first | exact hF1 | (rw [World.setCell_alloc_at _ _ _ _ _ rfl] at hF1; exact hF1), by first | exact box_below | exact (box_below).setCell (Nat.le_refl _) _⟩
        case round =>
         obtain ⟨j, hj, rfl, hok, hFr, hBr⟩ := hrel
         have Hok := Lib.hid hok; clear hok
         by_cases hlt : j < N
         · obtain ⟨x, hx⟩ : ∃ x, ts[j]? = some x := ⟨_, List.getElem?_eq_getElem (by rw [Hlen.out]; exact hlt)⟩
           have hcx := (hBr.cell (p := ⟨tb, toff + j, none⟩) htw1).trans ((hb1'.cell (p := ⟨tb, toff + j, none⟩) htb).trans (HT.out j x hx))
           have Hx := Lib.hid hx; clear hx
           by_cases hxm : x = -1
           · subst hxm
             go_wp2_with (first
              | (go_at_call 55; refine (in_any _ _ _ _).mono ?_; rintro e w' ⟨rfl, rfl⟩))
             go_roundw
             case rel =>
              refine ⟨j + 1, by omega, by go_num, fun y hy => ?_, hFr, hBr⟩
              rw [take_snoc' Hx.out] at hy
              rcases List.mem_append.1 hy with hy | hy
              · exact Hok.out y hy
              · rw [List.mem_singleton] at hy; subst hy; exact .inl rfl
             case measure => simp [intOf]; omega
           · have hxb : (x != -1) = true := by simpa using hxm
             have Hxm := Lib.hid hxm; clear hxm
             by_cases hxi : inB x 0 100000000 = true
             · go_wp2_with (first
                 | (go_at_call 55; refine (in_any _ _ _ _).mono ?_; rintro e w' ⟨rfl, rfl⟩))
               go_roundw
               case rel =>
                refine ⟨j + 1, by omega, by go_num, fun y hy => ?_, hFr, hBr⟩
                rw [take_snoc' Hx.out] at hy
                rcases List.mem_append.1 hy with hy | hy
                · exact Hok.out y hy
                · rw [List.mem_singleton] at hy; subst hy; exact .inr (inB_iff.1 hxi)
               case measure => simp [intOf]; omega
             · have hxi' : inB x 0 100000000 = false := by simpa using hxi
               clear hxi
               go_wp2_with (first
                | (go_at_call 55; refine (in_any _ _ _ _).mono ?_; rintro e w' ⟨rfl, rfl⟩))
               go_ret
               refine ⟨retB (proves_no HC.out hS fun hq => ?_), hb1'.trans (hBr.mono (by omega))⟩
               have hxt := List.mem_of_getElem? Hx.out
               rw [hq] at hxt
               rcases dlist_ok (hG.posi _ _) (hG.inn _ _) (hG.most _ _) hn x hxt with h | h
               · exact Hxm.out h
               · rw [inB_not] at hxi'; omega
         · have ej : j = N := by omega
           subst ej
           go_wp2_with fail
           go_meet
           case rel =>
            have := Hok.out
            rw [List.take_of_length_le (by rw [Hlen.out]; exact Nat.le_refl _)] at this
            exact ⟨this, hFr, hBr⟩
       case rest =>
        obtain ⟨hok, hFc, hBc⟩ := hcut
        obtain ⟨T, hT, hTm⟩ := tl_of hok
        rw [Hlen.out] at hT
        have hx0T : x0 = encT (T S) := by
         have := Hx0.out
         rw [hT, tl_get hS] at this
         exact (Option.some.inj this).symm
        have HTc : Hid (∀ v, v < N → w.cell? ⟨tb, toff + v, none⟩ = some (I (encT (T v)))) := Lib.hid fun v hv => HT.out v _ (by rw [hT, tl_get hv])
        obtain ⟨w2, hw2⟩ : ∃ w2 : World, w2 = wc := ⟨_, rfl⟩
        subst hw2
        have hFw : w1.heap.size < w2.heap.size := (Array.getElem?_eq_some_iff.1 hFc).1
        have hb2 : Below w.heap.size w w2 := hb1'.trans (hBc.mono (by omega))
        have hc20 : w2.cell? ⟨w.heap.size, 0, none⟩ = some (I N) := (hBc.cell (p := ⟨w.heap.size, 0, none⟩) hs1).trans hc10
        have hc21 : w2.cell? ⟨w.heap.size, 1, none⟩ = some (.slice a l.length cap) := (hBc.cell (p := ⟨w.heap.size, 1, none⟩) hs1).trans hc11
        have hws2 : w.heap.size < w2.heap.size := by omega
        have hFs : FInv (fun x => if x = S then (x0 == 0) else false) [] S N T := by rw [hx0T]; exact finv_start
        have HxT := Lib.hid hx0T; clear hx0T
        have Hok := Lib.hid hok; clear hok
        have HTl := Lib.hid hT; clear hT
        have HTm := Lib.hid hTm; clear hTm
        clear HT hcx0 hcF hfF hcx1 hF1 hF0
        go_upto_block 2 with fail
        go_cut [63] (fun _ wx => ∃ f, FAt wx w1.heap.size N f ∧ Below w1.heap.size w1 wx ∧ FInv f (edges ki false l) S N T ∧ EInv (edges ki false l) T)
        case first =>
         go_wp2_with fail
         go_loopw [63] (fun c wr => ∃ (j : Nat) (f : Nat → Bool), j ≤ l.length ∧ c = I j ∧ FAt wr w1.heap.size N f ∧ Below w1.heap.size w1 wr ∧ FInv f (edges ki false (l.take j)) S N T ∧ EInv (edges ki false (l.take j)) T) (fun c _ => l.length - (intOf c).toNat)
         case atStart => exact ⟨0, _, by omega, rfl, hFc, hBc, by simpa [edges_nil] using hFs, by rw [List.take_zero, edges_nil]; intro e he; cases he⟩
         case round =>
          obtain ⟨j, f, hj, rfl, hFr, hBr, hFI, hEI⟩ := hrel
          have HFI := Lib.hid hFI; clear hFI
          have HEI := Lib.hid hEI; clear hEI
          by_cases hlt : j < l.length
          · obtain ⟨b, off, x, rfl, hbl, hx, g0, g1, g2, g3⟩ := RoadsAt.get4 (hl.below RRoad.mono (hb1'.trans (hBr.mono (by omega)))) hlt
            obtain ⟨r1, r2, r3, r4, r5, r6⟩ := hG.road x (List.mem_of_getElem? hx.out)
            obtain ⟨na, ha⟩ : ∃ na : Nat, x.fr = (na : Int) := ⟨x.fr.toNat, by omega⟩
            obtain ⟨nb, hto⟩ : ∃ nb : Nat, x.to = (nb : Int) := ⟨x.to.toNat, by omega⟩
            obtain ⟨nm, hm⟩ : ∃ nm : Nat, x.mi = (nm : Int) := ⟨x.mi.toNat, by omega⟩
            have haN : na < N := by omega
            have hbN : nb < N := by omega
            have hai : (na : Int) < (N : Int) := by omega
            have hbi : (nb : Int) < (N : Int) := by omega
            have hbr : Below w.heap.size w wr := hb1'.trans (hBr.mono (by omega))
            have hca := (hbr.cell (p := ⟨tb, toff + na, none⟩) htb).trans (HTc.out na haN)
            have hcb2 := (hbr.cell (p := ⟨tb, toff + nb, none⟩) htb).trans (HTc.out nb hbN)
            have hFl : w1.heap.size < wr.heap.size := (Array.getElem?_eq_some_iff.1 hFr).1
            have hsw : w.heap.size < wr.heap.size := by omega
            have htbw : tb < wr.heap.size := by omega
            have hcf := hFr.cell hbN
            have hff := hFr.free nb
            by_cases hcar : carB x.li ki = true
            · have hex : (⟨na, nb, nm⟩ : Ed) ∈ edges ki false l := by
                have := edges_mem (bk := false) (List.mem_of_getElem? hx.out) hcar
                simpa [ha, hto, hm] using this
              have hey : edgeOf ki false x = [⟨na, nb, nm⟩] := by rw [edgeOf_yes hcar]; simp [ha, hto, hm]
              have Hex := Lib.hid hex; clear hex
              have Hey : Hid (edges ki false (l.take (j + 1)) = edges ki false (l.take j) ++ [⟨na, nb, nm⟩]) := Lib.hid <| by rw [take_snoc' hx.out, edges_snoc, hey]
              clear hey
              cases hTa : T na with
              | none =>
                rw [hTa] at hca
                simp only [encT] at hca
                have HTa := Lib.hid hTa; clear hTa
                go_wp2_with (first
                 | (go_at_call 87; refine (carries_any _ _ _ _ _ _).mono ?_; rintro e w' ⟨rfl, rfl⟩))
                go_roundw
                case rel =>
                 refine ⟨j + 1, f, by omega, by go_num, hFr.of_block (fun k hk => heap2 wr _ _ k hk), belowA (belowA hBr (by omega)) (by omega), ?_, ?_⟩
                 · rw [Hey.out]; exact finv_same HFI.out fun u hu => absurd (HTa.out.symm.trans hu) (by simp)
                 · rw [Hey.out]; exact einv_add HEI.out fun u hu => absurd (HTa.out.symm.trans hu) (by simp)
                case measure => simp [intOf]; omega
              | some da =>
                rw [hTa] at hca
                simp only [encT] at hca
                have hda : da ≤ 100000000 := HTm.out _ _ hTa
                have hdm : ((da : Int) == -1) = false := by simp
                obtain ⟨z, hz⟩ : ∃ z : Nat, (da : Int) + (nm : Int) = (z : Int) := ⟨da + nm, by omega⟩
                have hzn : z = da + nm := by omega
                have HZ := Lib.hid hzn; clear hzn
                have HTa := Lib.hid hTa; clear hTa
                cases hTb : T nb with
                | none =>
                  rw [hTb] at hcb2
                  simp only [encT] at hcb2
                  have HTb := Lib.hid hTb; clear hTb
                  go_wp2_with (first
                   | (go_at_call 87; refine (carries_any _ _ _ _ _ _).mono ?_; rintro e w' ⟨rfl, rfl⟩))
                  go_quiet (fail)
                  go_wp2_with fail
                  go_ret
                  refine ⟨retB (proves_no HC.out hS ?_), hb1'.trans ((drewN_below (belowA (belowA hBr (by omega)) (by omega)) _).mono (by omega))⟩
                  rw [HTl.out]
                  exact not_edge (hG.inn _ _) Hex.out HTa.out fun t ht => absurd (HTb.out.symm.trans ht) (by simp)
                | some db =>
                  rw [hTb] at hcb2
                  simp only [encT] at hcb2
                  have hdbm : ((db : Int) == -1) = false := by simp
                  have HTb := Lib.hid hTb; clear hTb
                  by_cases hless : z < db
                  · have hld : decide ((z : Int) < (db : Int)) = true := by simpa using hless
                    go_wp2_with (first
                     | (go_at_call 87; refine (carries_any _ _ _ _ _ _).mono ?_; rintro e w' ⟨rfl, rfl⟩))
                    go_quiet (fail)
                    go_wp2_with fail
                    go_ret
                    refine ⟨retB (proves_no HC.out hS ?_), hb1'.trans ((drewN_below (belowA (belowA hBr (by omega)) (by omega)) _).mono (by omega))⟩
                    rw [HTl.out]
                    exact not_edge (hG.inn _ _) Hex.out HTa.out fun t ht => by
                     have e := Option.some.inj (HTb.out.symm.trans ht)
                     have := HZ.out
                     show da + nm < t
                     omega
                  · have hld : decide ((z : Int) < (db : Int)) = false := by simp; omega
                    have hEn : ∀ t, T na = some t → ∃ t', T nb = some t' ∧ t' ≤ t + nm := fun t ht => by
                     have e := Option.some.inj (HTa.out.symm.trans ht)
                     have := HZ.out
                     exact ⟨db, HTb.out, by omega⟩
                    have HEn := Lib.hid hEn; clear hEn
                    by_cases hnS : nb = S
                    · have hnb : ((nb : Int) != (S : Int)) = false := by simp [hnS]
                      have HnS := Lib.hid hnS; clear hnS
                      go_wp2_with (first
                       | (go_at_call 87; refine (carries_any _ _ _ _ _ _).mono ?_; rintro e w' ⟨rfl, rfl⟩))
                      go_quiet (fail)
                      go_wp2_with fail
                      go_roundw
                      case rel =>
                       refine ⟨j + 1, f, by omega, by go_num, hFr.of_block (fun k hk => heap2 wr _ _ k hk), drewN_below (belowA (belowA hBr (by omega)) (by omega)) _, ?_, ?_⟩
                       · rw [Hey.out]; exact finv_same HFI.out fun u hu => .inl HnS.out
                       · rw [Hey.out]; exact einv_add HEI.out HEn.out
                      case measure => simp [intOf]; omega
                    · have hnb : ((nb : Int) != (S : Int)) = true := by simp; omega
                      have HnS := Lib.hid hnS; clear hnS
                      by_cases hdz : db = z
                      · have hdzb : ((db : Int) == (z : Int)) = true := by simp [hdz]
                        have HDZ := Lib.hid hdz; clear hdz
                        go_wp2_with (first
                         | (go_at_call 87; refine (carries_any _ _ _ _ _ _).mono ?_; rintro e w' ⟨rfl, rfl⟩))
                        go_quiet (fail)
                        go_wp2_with fail
                        go_roundw
                        case rel =>
                         refine ⟨j + 1, _, by omega, by go_num, by first | exact FAt.set (FAt.of_block hFr (fun k hk => heap2 wr _ _ k hk)) nb true | skip, by first | exact Below.setCell (p := ⟨w1.heap.size, nb, none⟩) (drewN_below (belowA (belowA hBr (by omega)) (by omega)) _) (Nat.le_refl _) _ | skip, ?_, ?_⟩
                         · rw [Hey.out]; exact finv_new (e := ⟨na, nb, nm⟩) HFI.out HTa.out HnS.out (by show T nb = some (da + nm); rw [HTb.out, HDZ.out, HZ.out])
                         · rw [Hey.out]; exact einv_add HEI.out HEn.out
                        case measure => simp [intOf]; omega
                      · have hdzb : ((db : Int) == (z : Int)) = false := by simp; omega
                        have HDZ := Lib.hid hdz; clear hdz
                        go_wp2_with (first
                         | (go_at_call 87; refine (carries_any _ _ _ _ _ _).mono ?_; rintro e w' ⟨rfl, rfl⟩))
                        go_quiet (fail)
                        go_wp2_with fail
                        go_roundw
                        case rel =>
                         refine ⟨j + 1, f, by omega, by go_num, hFr.of_block (fun k hk => heap2 wr _ _ k hk), drewN_below (belowA (belowA hBr (by omega)) (by omega)) _, ?_, ?_⟩
                         · rw [Hey.out]; exact finv_same HFI.out fun u hu => .inr fun hx => by
                             have e1 := Option.some.inj (HTa.out.symm.trans hu)
                             have e2 := Option.some.inj (HTb.out.symm.trans hx)
                             have := HZ.out
                             have := HDZ.out
                             have e3 : db = u + nm := e2
                             omega
                         · rw [Hey.out]; exact einv_add HEI.out HEn.out
                        case measure => simp [intOf]; omega
            · have hcar' : carB x.li ki = false := by simpa using hcar
              have Hey : Hid (edges ki false (l.take (j + 1)) = edges ki false (l.take j)) := Lib.hid <| by rw [take_snoc' hx.out, edges_snoc, edgeOf_no hcar', List.append_nil]
              clear hcar
              go_wp2_with (first
               | (go_at_call 87; refine (carries_any _ _ _ _ _ _).mono ?_; rintro e w' ⟨rfl, rfl⟩))
              go_roundw
              case rel =>
               refine ⟨j + 1, f, by omega, by go_num, hFr.of_block (fun k hk => heap2 wr _ _ k hk), belowA (belowA hBr (by omega)) (by omega), ?_, ?_⟩
               · rw [Hey.out]; exact HFI.out
               · rw [Hey.out]; exact HEI.out
              case measure => simp [intOf]; omega
          · have ej : j = l.length := by omega
            subst ej
            go_wp2_with fail
            go_meet
            case rel =>
             have h1 := HFI.out
             have h2 := HEI.out
             rw [List.take_length] at h1 h2
             exact ⟨f, hFr, hBr, h1, h2⟩
        case rest =>
         obtain ⟨f, hFr, hBr, hFI, hEI⟩ := hcut
         have HFI := Lib.hid hFI; clear hFI
         have HEI := Lib.hid hEI; clear hEI
         obtain ⟨w3, hw3⟩ : ∃ w3 : World, w3 = wc := ⟨_, rfl⟩
         subst hw3
         have hb3 : Below w.heap.size w w3 := hb1'.trans (hBr.mono (by omega))
         have hcS := (hb3.cell (p := ⟨tb, toff + S, none⟩) htb).trans (HTc.out S hS)
         go_wp2_with fail
         go_loop [122] (fun c => ∃ j : Nat, j ≤ N ∧ c = I j ∧ (∀ v t, v < j → T v = some t → Fnd (edges ki false l) S T v)) (fun c => N - (intOf c).toNat)
         case atStart => exact ⟨0, by omega, rfl, fun v t hv => by omega⟩
         case round =>
          obtain ⟨j, hj, rfl, hfd⟩ := hrel
          have HFD := Lib.hid hfd; clear hfd
          by_cases hlt : j < N
          · have hcj := (hb3.cell (p := ⟨tb, toff + j, none⟩) htb).trans (HTc.out j hlt)
            have hcf := hFr.cell hlt
            have hji : (j : Int) < (N : Int) := by omega
            cases hTj : T j with
            | none =>
              rw [hTj] at hcj
              simp only [encT] at hcj
              have HTj := Lib.hid hTj; clear hTj
              go_wp2_with fail
              go_round
              case rel =>
               refine ⟨j + 1, by omega, by go_num, fun v t hv ht => ?_⟩
               by_cases hvj : v = j
               · subst hvj; exact absurd (HTj.out.symm.trans ht) (by simp)
               · exact HFD.out v t (by omega) ht
              case measure => simp [intOf]; omega
            | some d =>
              rw [hTj] at hcj
              simp only [encT] at hcj
              have hdm : ((d : Int) != -1) = true := by simp
              have HTj := Lib.hid hTj; clear hTj
              cases hfj : f j with
              | true =>
                rw [hfj] at hcf
                have HFj := Lib.hid hfj; clear hfj
                go_wp2_with fail
                go_round
                case rel =>
                 refine ⟨j + 1, by omega, by go_num, fun v t hv ht => ?_⟩
                 by_cases hvj : v = j
                 · subst hvj; exact (HFI.out v hlt).1 HFj.out
                 · exact HFD.out v t (by omega) ht
                case measure => simp [intOf]; omega
              | false =>
                rw [hfj] at hcf
                have HFj := Lib.hid hfj; clear hfj
                go_wp2_with fail
                go_ret
                refine ⟨retB (proves_no HC.out hS ?_), hb3⟩
                rw [HTl.out]
                exact not_found hS (hG.inn _ _) hlt HTj.out fun h => by
                 have := (HFI.out j hlt).2 h
                 rw [HFj.out] at this
                 cases this
          · have ej : j = N := by omega
            subst ej
            go_wp2_with fail
            go_ret
            refine ⟨retB ?_, hb3⟩
            by_cases h0S : T S = some 0
            · have e : (encT (T S) == 0) = true := by rw [h0S]; rfl
              have hy := proves_yes (ts := ts) (ki := ki) HC.out hS (by
               rw [HTl.out]
               exact is_dlist (hG.posi _ _) (hG.inn _ _) h0S HEI.out fun v t hv ht => fnd_last (HFD.out v t hv ht) ht)
              rw [← hy]
              simpa using e
            · have hy := proves_no (ts := ts) (ki := ki) HC.out hS (by
                rw [HTl.out]
                exact not_zero hS h0S)
              rw [← hy]
              have : encT (T S) ≠ 0 := fun h => h0S (encT_inj (by rw [h]; rfl))
              simpa using this
     · have HlenN := Lib.hid hlen
       have hne : ((ts.length : Int) != (N : Int)) = true := by simp; omega
       clear hlen
       go_enter Try.func54, Try.ntmps54
       go_wp2_with (first
        | (go_at_call 22; refine (check_any _ _ l _ (hl.below RRoad.mono ((Below.refl _ _).alloc (Nat.le_refl _) _))).mono ?_; rintro e w1 ⟨rfl, hb1⟩; obtain ⟨hB1, hb1', hs1, hc10, hc11⟩ := box2s hb1)
        | (go_at_call 55; refine (in_any _ _ _ _).mono ?_; rintro e w' ⟨rfl, rfl⟩))
       go_ret
       exact ⟨retB (proves_bad (fun h => HlenN.out (by have := h.2.2.2; omega))), hb1'⟩
   · have hin : inB s 0 ((N : Int) - 1) = false := by rw [inB_not]; omega
     go_enter Try.func54, Try.ntmps54
     go_wp2_with (first
      | (go_at_call 22; refine (check_any _ _ l _ (hl.below RRoad.mono ((Below.refl _ _).alloc (Nat.le_refl _) _))).mono ?_; rintro e w1 ⟨rfl, hb1⟩; obtain ⟨hB1, hb1', hs1, hc10, hc11⟩ := box2s hb1)
      | (go_at_call 55; refine (in_any _ _ _ _).mono ?_; rintro e w' ⟨rfl, rfl⟩))
     go_ret
     exact ⟨retB (proves_bad (fun h => hs ⟨h.2.1, h.2.2.1⟩)), hb1'⟩
 · have hcb : (chkNet n l != 0) = true := by simpa using hc
   have HC := Lib.hid hc; clear hc
   go_enter Try.func54, Try.ntmps54
   go_wp2_with (first
    | (go_at_call 22; refine (check_any _ _ l _ (hl.below RRoad.mono ((Below.refl _ _).alloc (Nat.le_refl _) _))).mono ?_; rintro e w1 ⟨rfl, hb1⟩; obtain ⟨hB1, hb1', hs1, hc10, hc11⟩ := box2s hb1))
   go_ret
   exact ⟨retB (proves_bad (fun h => HC.out h.1)), hb1'⟩
end Go.Proofs.Ytbnbpfjfkedbaaa.Rn
