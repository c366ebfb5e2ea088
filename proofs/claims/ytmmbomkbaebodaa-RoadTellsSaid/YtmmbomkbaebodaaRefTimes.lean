/-
  The reference's Times: it goes through all roads again and again.
-/
import Derived.Test.YtmmbomkbaebodaaTimes
import Derived.BigRegion
namespace Go.Proofs.Ytmmbomkbaebodaa
set_option linter.unusedVariables false
set_option linter.unusedSimpArgs false
open Go.RowKit

theorem Carries_b (f t m li kilos : Int) (w : World) :
    Calls Try.prog 26 #[.agg #[I f, I t, I m, I li], I kilos] w fun e w' => e = .returned (B (carB li kilos)) ∧ Below w.heap.size w w' :=
  (Carries_any f t m li kilos w).mono fun _ _ ⟨he, hw⟩ => ⟨he, by subst hw; exact belowA (Below.refl _ _) (Nat.le_refl _)⟩
theorem Carries_y (f t m li kilos : Int) (w : World) (b : Bool) (h : carB li kilos = b) :
    Calls Try.prog 26 #[.agg #[I f, I t, I m, I li], I kilos] w fun e w' => e = .returned (.bool b) ∧ Below w.heap.size w w' := by subst h; exact Carries_b f t m li kilos w
theorem carries_y (f t m li kilos : Int) (w : World) (b : Bool) (h : carB li kilos = b) :
    Calls Try.prog 24 #[.agg #[I f, I t, I m, I li], I kilos] w fun e w' => e = .returned (.bool b) ∧ Below w.heap.size w w' := by
  subst h
  exact (carries_any f t m li kilos w).mono fun _ _ ⟨he, hw⟩ => ⟨he, by subst hw; exact belowA (Below.refl _ _) (Nat.le_refl _)⟩
theorem carries_b (f t m li kilos : Int) (w : World) :
    Calls Try.prog 24 #[.agg #[I f, I t, I m, I li], I kilos] w fun e w' => e = .returned (B (carB li kilos)) ∧ Below w.heap.size w w' :=
  (carries_any f t m li kilos w).mono fun _ _ ⟨he, hw⟩ => ⟨he, by subst hw; exact belowA (Below.refl _ _) (Nat.le_refl _)⟩

theorem box2s {w wr : World} {c0 c1 : Value} {T : TypeId} (h : Below (w.alloc (.cells #[c0, c1] T)).heap.size (w.alloc (.cells #[c0, c1] T)) wr) :
    Below (w.heap.size + 1) (w.alloc (.cells #[c0, c1] T)) wr ∧ Below w.heap.size w wr ∧ w.heap.size < wr.heap.size ∧ wr.cell? ⟨w.heap.size, 0, none⟩ = some c0 ∧ wr.cell? ⟨w.heap.size, 1, none⟩ = some c1 := by
  have h' : Below (w.heap.size + 1) (w.alloc (.cells #[c0, c1] T)) wr := by rw [World.size_alloc] at h; exact h
  exact ⟨h', box2 h'⟩

instance (w : World) : Nonempty (Ext w) := ⟨⟨w, Below.refl _ _⟩⟩
/-- What the reference's rounds keep. -/
structure Rf (w0 wr : World) (O n : Nat) (E : List Ed) (s : Nat) (T : Nat → Option Nat) (M : Nat) : Prop where
  out : OutAt wr O n T
  below : Below O w0 wr
  sound : Sound E s T
  most : ∀ v t, T v = some t → t ≤ M

theorem Rf.ext {w0 wr w' : World} {O n : Nat} {E : List Ed} {s : Nat} {T : Nat → Option Nat} {M : Nat} (h : Rf w0 wr O n E s T M) (hb : Below wr.heap.size wr w') : Rf w0 w' O n E s T M := by
  have hO : O < wr.heap.size := (Array.getElem?_eq_some_iff.1 h.out).1
  refine ⟨?_, h.below.trans (hb.mono (by omega)), h.sound, h.most⟩
  unfold OutAt
  rw [hb.block O hO]
  exact h.out

theorem Rf.next {w0 wr w' : World} {O n : Nat} {E : List Ed} {s : Nat} {T : Nat → Option Nat} {k i : Nat} (h : Rf w0 wr O n E s T (k * 600000000 + i * 1000000)) (hb : Below wr.heap.size wr w') : Rf w0 w' O n E s T (k * 600000000 + (i + 1) * 1000000) :=
  ⟨(h.ext hb).out, (h.ext hb).below, h.sound, fun v t hv => Nat.le_trans (h.most v t hv) (Nat.add_le_add_left (Nat.mul_le_mul_right _ (Nat.le_succ i)) _)⟩
theorem Rf.relax {w0 wr : World} {O n : Nat} {E : List Ed} {s : Nat} {T : Nat → Option Nat} {M : Nat} (h : Rf w0 wr O n E s T M) {e : Ed} (he : e ∈ E) {u : Nat} (hu : T e.a = some u) (hless : ∀ t, T e.b = some t → u + e.m < t) (hm : e.m ≤ 1000000) :
    Rf w0 (wr.setCell ⟨O, e.b, none⟩ (I (u + e.m : Nat))) O n E s (setT T e.b (u + e.m)) (M + 1000000) := by
  refine ⟨h.out.set _ _, h.below.setCell (p := ⟨O, e.b, none⟩) (Nat.le_refl _) _, relax_sound h.sound he hu hless, fun v t hv => ?_⟩
  unfold setT at hv
  split at hv
  · simp only [Option.some.injEq] at hv; subst hv
    have := h.most _ _ hu
    omega
  · have := h.most _ _ hv; omega

theorem step_sum (k i A B : Nat) : k * A + i * B + B = k * A + (i + 1) * B := by rw [Nat.add_assoc, ← Nat.succ_mul]
/-- A round's step that makes a time less. -/
theorem rf_step {w0 wr w5 : World} {O n s k i na nb nm da z : Nat} {E F : List Ed} {T0 T : Nat → Option Nat} (hR : Rf w0 wr O n E s T (k * 600000000 + i * 1000000)) (hb : Below wr.heap.size wr w5) (he : (⟨na, nb, nm⟩ : Ed) ∈ E) (hm : nm ≤ 1000000) (hTa : T na = some da) (hless : ∀ t, T nb = some t → da + nm < t)
    (hz : da + nm = z) (hN : NotLater T0 T) (hL : Looked F T0 T) : Rf w0 (w5.setCell ⟨O, nb, none⟩ (I z)).drew O n E s (setT T nb z) (k * 600000000 + (i + 1) * 1000000) ∧ NotLater T0 (setT T nb z) ∧ Looked (F ++ [⟨na, nb, nm⟩]) T0 (setT T nb z) := by
  subst hz
  have h1 := (hR.ext hb).relax he hTa hless hm
  have hnl := relax_notLater (T := T) (v := nb) (t := da + nm) hless
  refine ⟨⟨h1.out, h1.below.drew, h1.sound, fun v t hv => ?_⟩, hN.trans hnl, ?_⟩
  · have := h1.most v t hv
    rw [step_sum] at this
    exact this
  · intro e' he'
    rcases List.mem_append.1 he' with h | h
    · exact looked_keep hL hnl e' h
    · rw [List.mem_singleton] at h
      subst h
      intro u hu
      obtain ⟨t', ht, hle⟩ := hN _ _ hu
      have e : t' = da := Option.some.inj (ht.symm.trans hTa)
      exact ⟨da + nm, by simp [setT], by show da + nm ≤ u + nm; omega⟩

theorem looked_one {e : Ed} {T0 T : Nat → Option Nat} (h : ∀ u, T0 e.a = some u → ∃ t', T e.b = some t' ∧ t' ≤ u + e.m) : Looked [e] T0 T := fun e' he' => by
  rw [List.mem_singleton] at he'; subst he'; exact h

theorem edges_mem {ki : Int} {bk : Bool} {l : List Rd} {x : Rd} (hx : x ∈ l) (h : carB x.li ki = true) : (if bk then (⟨x.to.toNat, x.fr.toNat, x.mi.toNat⟩ : Ed) else ⟨x.fr.toNat, x.to.toNat, x.mi.toNat⟩) ∈ edges ki bk l := by
  simp only [edges, List.mem_flatMap]
  exact ⟨x, hx, by rw [edgeOf_yes h]; simp⟩

/-- A list that is being filled with None. -/
def FillAt (w : World) (O n j : Nat) : Prop := w.heap[O]? = some (.cells ((List.range n).map fun v => if v < j then I (-1) else I 0).toArray 3 (0, 0))
theorem fill_start (w : World) (n : Nat) : FillAt (w.alloc (.cells (Array.replicate n (.int .i64 0)) 3)) w.heap.size n 0 := by
  unfold FillAt
  rw [heap_alloc_new]
  congr 2
  apply Array.ext'
  apply List.ext_getElem?
  intro i
  simp [List.getElem?_replicate]
  split <;> simp_all
theorem FillAt.cell {w : World} {O n j : Nat} (h : FillAt w O n j) (hj : j < n) : w.cell? ⟨O, j, none⟩ = some (I 0) := by
  rw [cell_of_row w _ j _ _ (0, 0) h]; simp [hj]
theorem FillAt.free {w : World} {O n j : Nat} (h : FillAt w O n j) : w.frozen? ⟨O, j, none⟩ = false := frozen_of_row w _ j _ _ h
theorem FillAt.step {w : World} {O n j : Nat} (h : FillAt w O n j) : FillAt (w.setCell ⟨O, j, none⟩ (I (-1))) O n (j + 1) := by
  unfold FillAt
  rw [heap_setCell_same w _ j _ _ _ h]
  congr 2
  apply Array.ext'
  apply List.ext_getElem?
  intro i
  simp only [List.setIfInBounds_toArray, List.getElem?_set, List.getElem?_map, List.length_map, List.length_range]
  by_cases hi : i < n
  · by_cases hv : j = i
    · subst hv; simp [hi]
    · simp only [hi, hv, List.getElem?_range, Option.map_some, if_false]
      have : (i < j) = (i < j + 1) := by apply propext; omega
      simp [this]
  · by_cases hv : j = i
    · subst hv; simp [hi]
    · simp [hi, hv]
theorem FillAt.done {w : World} {O n : Nat} (h : FillAt w O n n) : OutAt w O n (fun _ => none) := by
  unfold OutAt
  rw [h]
  congr 3
  apply List.map_congr_left
  intro v hv
  simp [encT, List.mem_range.1 hv]

theorem sound_start (E : List Ed) (s : Nat) : Sound E s (setT (fun _ => none) s 0) := by
  refine ⟨by simp [setT], fun v t h => ?_⟩
  unfold setT at h
  split at h
  · rename_i hv; subst hv; simp only [Option.some.injEq] at h; subst h; exact .nil
  · cases h

set_option maxRecDepth 100000 in
set_option maxHeartbeats 40000000 in
theorem rtimes_good (N S : Nat) (v : Value) (l : List Rd) (ki : Int) (w : World) (hl : RoadsAt w v l) (hc : chkNet N l = 0) (hS : S < N) :
    Calls Try.prog 17 #[.agg #[I N, v], I S, I ki] w (RetInts w (dlist (edges ki false l) N S)) := by
  obtain ⟨a, cap, rfl, hlc, hcap⟩ := hl.shape
  have hG := good_of hc
  have hcb : (chkNet N l != 0) = false := by simp [hc]
  have HC := Lib.hid hc; clear hc
  have hin : inB (S : Int) 0 ((N : Int) - 1) = true := by rw [inB_iff]; omega
  have hn := hG.nodes
  have hk := hG.len
  have hmi := fun u => run_make1 (P := Try.prog) 25 3 _ _ Try.underlying25 info_int rfl N (by omega) (by omega) u
  go_enter Try.func17, Try.ntmps17
  go_upto_block 0 with (first
    | (go_at_call 14; refine (Check_any _ _ l _ (hl.below RRoad.mono ((Below.refl _ _).alloc (Nat.le_refl _) _))).mono ?_; rintro e w1 ⟨rfl, hb1⟩; obtain ⟨hB1, hb1', hs1, hc10, hc11⟩ := box2s hb1)
    | (go_at_call 25; refine (node_any _ _ _ _ _ _).mono ?_; rintro e w' ⟨rfl, rfl⟩))
  go_cut [8] (fun _ wx => OutAt wx (w1.heap.size + 1) N (fun _ => none) ∧ Below (w1.heap.size + 1) (w1.alloc (.cells #[I N, .slice a l.length cap] 24)) wx)
  case first =>
    go_wp2_with fail
    go_loopw [8] (fun c wr => ∃ j : Nat, j ≤ N ∧ c = I j ∧ FillAt wr (w1.heap.size + 1) N j ∧ Below (w1.heap.size + 1) (w1.alloc (.cells #[I N, .slice a l.length cap] 24)) wr) (fun c _ => N - (intOf c).toNat)
    case atStart => exact ⟨0, by omega, rfl, by simpa using fill_start (w1.alloc _) N, (Below.refl _ _).alloc (by simp) _⟩
    case round =>
      obtain ⟨j, hj, rfl, hh, hBb⟩ := hrel
      by_cases hlt : j < N
      · have hcj := hh.cell hlt
        have hfj := hh.free
        have hji : (j : Int) < (N : Int) := by omega
        go_wp2_with fail
        go_roundw
        case rel => exact ⟨j + 1, by omega, by go_num, hh.step, hBb.setCell (p := ⟨_, j, none⟩) (Nat.le_refl _) _⟩
        case measure => simp [intOf]; omega
      · have e : j = N := by omega
        subst e
        go_wp2_with fail
        go_meet
        case rel => exact ⟨hh.done, hBb⟩
  case rest =>
    obtain ⟨hO, hBA⟩ := hcut
    obtain ⟨O, hOe⟩ : ∃ O, O = w1.heap.size + 1 := ⟨_, rfl⟩
    obtain ⟨wA, hwA⟩ : ∃ wA, wA = w1.alloc (.cells #[I N, .slice a l.length cap] 24) := ⟨_, rfl⟩
    have hAO : wA.heap.size = O := by rw [hwA, hOe]; simp
    have hbA : Below w.heap.size w wA := by rw [hwA]; exact belowA hb1' (Nat.le_refl _)
    have hcA0 : wA.cell? ⟨w.heap.size, 0, none⟩ = some (I N) := by rw [hwA, World.cell?_alloc_lt _ _ _ hs1]; exact hc10
    have hcA1 : wA.cell? ⟨w.heap.size, 1, none⟩ = some (.slice a l.length cap) := by rw [hwA, World.cell?_alloc_lt _ _ _ hs1]; exact hc11
    have hsA : w.heap.size < O := by omega
    rw [← hwA, ← hOe] at hBA
    rw [← hOe] at hO ⊢
    clear hb1 hc10 hc11 hB1 hs1 hb1'
    have HA := Lib.hid hwA; clear hwA
    have HO := Lib.hid hOe; clear hOe
    have HAO := Lib.hid hAO; clear hAO
    have hcS := hO.cell hS
    have hfS := hO.free S
    have hSi : (S : Int) < (N : Int) := by omega
    obtain ⟨wB, hwB⟩ : ∃ wB : World, wB = wc := ⟨_, rfl⟩
    subst hwB
    have hR0 : Rf wA (wB.setCell ⟨O, S, none⟩ (I (0 : Nat))) O N (edges ki false l) S (setT (fun _ => none) S 0) 0 :=
      ⟨hO.set S 0, hBA.setCell (p := ⟨O, S, none⟩) (Nat.le_refl _) _, sound_start _ _, fun v t hv => by
        unfold setT at hv
        split at hv
        · simp only [Option.some.injEq] at hv; omega
        · cases hv⟩
    go_wp2_with fail
    go_loopw [9] (fun c wr => ∃ (k : Nat) (T : Nat → Option Nat), k ≤ N ∧ c = I k ∧ Rf wA wr O N (edges ki false l) S T (k * 600000000) ∧ Done (edges ki false l) N S T k) (fun c _ => N - (intOf c).toNat)
    case atStart => exact ⟨0, _, by omega, rfl, by simpa using hR0, done_zero (hG.posi _ _) (hG.inn _ _) (by simp [setT])⟩
    case round =>
      obtain ⟨k, T0, hkN, rfl, hR, hD⟩ := hrel
      obtain ⟨wo, hwo⟩ : ∃ wo : World, wo = wr := ⟨_, rfl⟩
      subst hwo
      have HD := Lib.hid hD; clear hD
      have hc0 : wo.cell? ⟨w.heap.size, 0, none⟩ = some (I N) := (hR.below.cell (p := ⟨w.heap.size, 0, none⟩) hsA).trans hcA0
      by_cases hkl : k < N
      · have hkd : decide ((k : Int) < (N : Int)) = true := by simpa using hkl
        go_wp2_with fail
        go_loopw [10] (fun c wr => ∃ (i : Nat) (T : Nat → Option Nat), i ≤ l.length ∧ c = I i ∧ Rf wA wr O N (edges ki false l) S T (k * 600000000 + i * 1000000) ∧ NotLater T0 T ∧ Looked (edges ki false (l.take i)) T0 T) (fun c _ => l.length - (intOf c).toNat)
        case atStart => exact ⟨0, T0, by omega, rfl, by simpa using hR, NotLater.refl _, by rw [List.take_zero, edges_nil]; intro e he; cases he⟩
        case round =>
          obtain ⟨i, T, hil, rfl, hRi, hNL, hLk⟩ := hrel
          have HL := Lib.hid hLk; clear hLk
          have HN := Lib.hid hNL; clear hNL
          have hc1 : wr.cell? ⟨w.heap.size, 1, none⟩ = some (.slice a l.length cap) := (hRi.below.cell (p := ⟨w.heap.size, 1, none⟩) hsA).trans hcA1
          by_cases hlt : i < l.length
          · obtain ⟨b, off, x, rfl, hbl, hx, g0, g1, g2, g3⟩ := RoadsAt.get4 (hl.below RRoad.mono (hbA.trans (hRi.below.mono (by have := HAO.out; omega)))) hlt
            obtain ⟨r1, r2, r3, r4, r5, r6⟩ := hG.road x (List.mem_of_getElem? hx.out)
            obtain ⟨na, ha⟩ : ∃ na : Nat, x.fr = (na : Int) := ⟨x.fr.toNat, by omega⟩
            obtain ⟨nb, hto⟩ : ∃ nb : Nat, x.to = (nb : Int) := ⟨x.to.toNat, by omega⟩
            obtain ⟨nm, hm⟩ : ∃ nm : Nat, x.mi = (nm : Int) := ⟨x.mi.toNat, by omega⟩
            have haN : na < N := by omega
            have hbN : nb < N := by omega
            have hai : (na : Int) < (N : Int) := by omega
            have hbi : (nb : Int) < (N : Int) := by omega
            have hca := hRi.out.cell haN
            have hcb2 := hRi.out.cell hbN
            have hOl : O < wr.heap.size := (Array.getElem?_eq_some_iff.1 hRi.out).1
            have hsw : w.heap.size < wr.heap.size := by omega
            by_cases hcar : carB x.li ki = true
            · have hex : (⟨na, nb, nm⟩ : Ed) ∈ edges ki false l := by
                have := edges_mem (bk := false) (List.mem_of_getElem? hx.out) hcar
                simpa [ha, hto, hm] using this
              have hey : edgeOf ki false x = [⟨na, nb, nm⟩] := by rw [edgeOf_yes hcar]; simp [ha, hto, hm]
              have Hex := Lib.hid hex; clear hex
              have Hey := Lib.hid hey; clear hey
              cases hTa : T na with
              | none =>
                rw [hTa] at hca
                simp only [encT] at hca
                have HTa := Lib.hid hTa; clear hTa
                go_upto_region 16 with fail
                have hext := ext_cell (wr.alloc (.cells #[I na, I nb, I nm, I x.li] 38))
                refine wp_region_ext_lit (by kernel_rfl) (by kernel_rfl) ?_
                repeat (go_big_quiet_step ((go_at_call 26; refine ext_call (Carries_y _ _ _ _ _ _ _ (by assumption)))))
                refine wpQuiet_nil ?_
                intro w5 hb5
                have hb6 : Below wr.heap.size wr w5 := (belowA (Below.refl wr.heap.size wr) (Nat.le_refl _)).trans (hb5.mono (by simp))
                clear hext
                go_wp2_with fail
                go_roundw
                case rel =>
                  refine ⟨i + 1, T, by omega, by go_num, hRi.next hb6, HN.out, ?_⟩
                  rw [take_snoc' hx.out, edges_snoc]
                  rw [Hey.out]; exact looked_append HL.out (looked_one fun u hu => by
                    obtain ⟨t', ht, _⟩ := HN.out _ _ hu
                    exact absurd (HTa.out.symm.trans ht) (by simp))
                case measure => simp [intOf]; omega
              | some da =>
                rw [hTa] at hca
                simp only [encT] at hca
                have hda : da ≤ 70000000000 := by have := hRi.most _ _ hTa; omega
                have hda0 : decide ((0 : Int) ≤ (da : Int)) = true := by simp
                have hda1 : (0 : Int) ≤ (da : Int) := by omega
                have HTa := Lib.hid hTa; clear hTa
                cases hTb : T nb with
                | none =>
                  rw [hTb] at hcb2
                  simp only [encT] at hcb2
                  have HTb := Lib.hid hTb; clear hTb
                  go_upto_region 16 with fail
                  have hext := ext_cell (wr.alloc (.cells #[I na, I nb, I nm, I x.li] 38))
                  refine wp_region_ext_lit (by kernel_rfl) (by kernel_rfl) ?_
                  repeat (go_big_quiet_step ((go_at_call 26; refine ext_call (Carries_y _ _ _ _ _ _ _ (by assumption)))))
                  refine wpQuiet_nil ?_
                  intro w5 hb5
                  have hb6 : Below wr.heap.size wr w5 := (belowA (Below.refl wr.heap.size wr) (Nat.le_refl _)).trans (hb5.mono (by simp))
                  clear hext
                  have hO5 := (hRi.ext hb6).out
                  have k1 := hO5.cell haN
                  rw [HTa.out] at k1
                  simp only [encT] at k1
                  have k2 := hO5.cell hbN
                  have k3 := hO5.free nb
                  have hx0 : w5.cell? ⟨wr.heap.size, 0, none⟩ = some (I na) := (hb5.cell (p := ⟨wr.heap.size, 0, none⟩) (by simp)).trans (by simp)
                  have hx1 : w5.cell? ⟨wr.heap.size, 1, none⟩ = some (I nb) := (hb5.cell (p := ⟨wr.heap.size, 1, none⟩) (by simp)).trans (by simp)
                  have hx2 : w5.cell? ⟨wr.heap.size, 2, none⟩ = some (I nm) := (hb5.cell (p := ⟨wr.heap.size, 2, none⟩) (by simp)).trans (by simp)
                  obtain ⟨z, hz⟩ : ∃ z : Nat, (da : Int) + (nm : Int) = (z : Int) := ⟨da + nm, by omega⟩
                  go_wp2_with fail
                  go_region
                  all_goals
                    go_wp2_with fail
                    go_roundw
                    case rel =>
                      have R := rf_step hRi hb6 Hex.out (by omega) HTa.out (fun t ht => absurd (HTb.out.symm.trans ht) (by simp)) (z := z) (by omega) HN.out HL.out
                      refine ⟨i + 1, _, by omega, by go_num, R.1, R.2.1, ?_⟩
                      rw [take_snoc' hx.out, edges_snoc, Hey.out]
                      exact R.2.2
                    case measure => simp [intOf]; omega
                | some db =>
                  rw [hTb] at hcb2
                  simp only [encT] at hcb2
                  have hdb0 : decide ((db : Int) < 0) = false := by simp
                  have HTb := Lib.hid hTb; clear hTb
                  by_cases hless : da + nm < db
                  · have hld : decide ((da : Int) + (nm : Int) < (db : Int)) = true := by simp; omega
                    go_upto_region 16 with fail
                    have hext := ext_cell (wr.alloc (.cells #[I na, I nb, I nm, I x.li] 38))
                    refine wp_region_ext_lit (by kernel_rfl) (by kernel_rfl) ?_
                    repeat (go_big_quiet_step ((go_at_call 26; refine ext_call (Carries_y _ _ _ _ _ _ _ (by assumption)))))
                    refine wpQuiet_nil ?_
                    intro w5 hb5
                    have hb6 : Below wr.heap.size wr w5 := (belowA (Below.refl wr.heap.size wr) (Nat.le_refl _)).trans (hb5.mono (by simp))
                    clear hext
                    have hO5 := (hRi.ext hb6).out
                    have k1 := hO5.cell haN
                    rw [HTa.out] at k1
                    simp only [encT] at k1
                    have k2 := hO5.cell hbN
                    have k3 := hO5.free nb
                    have hx0 : w5.cell? ⟨wr.heap.size, 0, none⟩ = some (I na) := (hb5.cell (p := ⟨wr.heap.size, 0, none⟩) (by simp)).trans (by simp)
                    have hx1 : w5.cell? ⟨wr.heap.size, 1, none⟩ = some (I nb) := (hb5.cell (p := ⟨wr.heap.size, 1, none⟩) (by simp)).trans (by simp)
                    have hx2 : w5.cell? ⟨wr.heap.size, 2, none⟩ = some (I nm) := (hb5.cell (p := ⟨wr.heap.size, 2, none⟩) (by simp)).trans (by simp)
                    obtain ⟨z, hz⟩ : ∃ z : Nat, (da : Int) + (nm : Int) = (z : Int) := ⟨da + nm, by omega⟩
                    go_wp2_with fail
                    go_region
                    all_goals
                      go_wp2_with fail
                      go_roundw
                      case rel =>
                        have R := rf_step hRi hb6 Hex.out (by omega) HTa.out (fun t ht => by have e := Option.some.inj (HTb.out.symm.trans ht); omega) (z := z) (by omega) HN.out HL.out
                        refine ⟨i + 1, _, by omega, by go_num, R.1, R.2.1, ?_⟩
                        rw [take_snoc' hx.out, edges_snoc, Hey.out]
                        exact R.2.2
                      case measure => simp [intOf]; omega
                  · have hld : decide ((da : Int) + (nm : Int) < (db : Int)) = false := by simp; omega
                    go_upto_region 16 with fail
                    have hext := ext_cell (wr.alloc (.cells #[I na, I nb, I nm, I x.li] 38))
                    refine wp_region_ext_lit (by kernel_rfl) (by kernel_rfl) ?_
                    repeat (go_big_quiet_step ((go_at_call 26; refine ext_call (Carries_y _ _ _ _ _ _ _ (by assumption)))))
                    refine wpQuiet_nil ?_
                    intro w5 hb5
                    have hb6 : Below wr.heap.size wr w5 := (belowA (Below.refl wr.heap.size wr) (Nat.le_refl _)).trans (hb5.mono (by simp))
                    clear hext
                    go_wp2_with fail
                    go_roundw
                    case rel =>
                      refine ⟨i + 1, T, by omega, by go_num, hRi.next hb6, HN.out, ?_⟩
                      rw [take_snoc' hx.out, edges_snoc]
                      rw [Hey.out]; exact looked_append HL.out (looked_one fun u hu => by
                        obtain ⟨t', ht, hle⟩ := HN.out _ _ hu
                        have e : t' = da := Option.some.inj (ht.symm.trans HTa.out)
                        exact ⟨db, HTb.out, by show db ≤ u + nm; omega⟩)
                    case measure => simp [intOf]; omega
            · have hcar' : carB x.li ki = false := by simpa using hcar
              have HE : Hid (edgeOf ki false x = []) := Lib.hid (edgeOf_no hcar')
              clear hcar
              go_upto_region 16 with fail
              have hext := ext_cell (wr.alloc (.cells #[I na, I nb, I nm, I x.li] 38))
              refine wp_region_ext_lit (by kernel_rfl) (by kernel_rfl) ?_
              repeat (go_big_quiet_step ((go_at_call 26; refine ext_call (Carries_y _ _ _ _ _ _ _ (by assumption)))))
              refine wpQuiet_nil ?_
              intro w5 hb5
              have hb6 : Below wr.heap.size wr w5 := (belowA (Below.refl wr.heap.size wr) (Nat.le_refl _)).trans (hb5.mono (by simp))
              clear hext
              go_wp2_with fail
              go_roundw
              case rel =>
                refine ⟨i + 1, T, by omega, by go_num, hRi.next hb6, HN.out, ?_⟩
                rw [take_snoc' hx.out, edges_snoc]
                rw [HE.out, List.append_nil]; exact HL.out
              case measure => simp [intOf]; omega
          · have ei : i = l.length := by omega
            subst ei
            go_wp2_with fail
            go_roundw
            case rel =>
              have hL := HL.out
              rw [List.take_length] at hL
              exact ⟨k + 1, T, by omega, by go_num, ⟨hRi.out, hRi.below, hRi.sound, fun v t hv => by have := hRi.most v t hv; omega⟩, done_succ (hG.posi _ _) (hG.inn _ _) HD.out hRi.sound hL⟩
            case measure => simp [intOf]; omega
      · have ek : k = N := by omega
        subst ek
        have hkd : decide ((k : Int) < (k : Int)) = false := by simp
        go_wp2_with fail
        go_ret
        refine ⟨_, rfl, ?_, hbA.trans (hR.below.mono (by have := HAO.out; omega))⟩
        have h1 := hR.out.ints hn
        have e : ((List.range k).map fun v => encT (T0 v)) = dlist (edges ki false l) k S := List.map_congr_left fun v _ => by rw [done_all hR.sound HD.out v]
        rw [← e]; exact h1

end Go.Proofs.Ytmmbomkbaebodaa
