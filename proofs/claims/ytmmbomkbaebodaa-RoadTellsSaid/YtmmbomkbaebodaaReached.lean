/-
  The reference's reached: the walk.
-/
import Derived.Test.YtmmbomkbaebodaaSmallW
import Derived.Test.YtmmbomkbaebodaaRegion
import Derived.IntWalk
namespace Go.Proofs.Ytmmbomkbaebodaa
set_option linter.unusedVariables false
set_option linter.unusedSimpArgs false
open Go.RowKit

attribute [local go_sem] relOp relAt relUpon

/-- An edge of E leads to node v just in time. -/
def Hit (E : List Ed) (T : Nat → Option Nat) (v : Nat) : Prop := ∃ e ∈ E, e.b = v ∧ ∃ u, T e.a = some u ∧ T v = some (u + e.m)
theorem hit_nil (T : Nat → Option Nat) (v : Nat) : ¬ Hit [] T v := by rintro ⟨e, he, _⟩; cases he
theorem no_add {E F : List Ed} {T : Nat → Option Nat} {v : Nat} (h : ¬ Hit E T v) (hF : F = []) : ¬ Hit (E ++ F) T v := by rw [hF, List.append_nil]; exact h
theorem no_snoc {E : List Ed} {e : Ed} {T : Nat → Option Nat} {v : Nat} (h : ¬ Hit E T v) (he : e.b = v → ∀ u, T e.a = some u → T v ≠ some (u + e.m)) : ¬ Hit (E ++ [e]) T v := by
  rintro ⟨x, hx, hb, u, h1, h2⟩
  rcases List.mem_append.1 hx with hx | hx
  · exact h ⟨x, hx, hb, u, h1, h2⟩
  · obtain rfl := List.mem_singleton.1 hx
    exact he hb u h1 h2

theorem edges_hit {ki : Int} {l : List Rd} {x : Rd} {e : Ed} (hx : x ∈ l) (h : edgeOf ki false x = [e]) : e ∈ edges ki false l := by
  unfold edges
  exact List.mem_flatMap.2 ⟨x, hx, by rw [h]; simp⟩
def RetIff (w : World) (R : Prop) (e : Ending) (w' : World) : Prop := ∃ b : Bool, e = .returned (.bool b) ∧ (b = true ↔ R) ∧ Below w.heap.size w w'

set_option maxRecDepth 100000 in
set_option maxHeartbeats 40000000 in
theorem reached_any (N S V t : Nat) (ki : Int) (v vt : Value) (l : List Rd) (T : Nat → Option Nat) (w : World) (hl : RoadsAt w v l) (ht : IntsAt w vt (tl N T)) (hG : Good N l) (hV : V < N) (hTV : T V = some t) (hT : ∀ v t, T v = some t → t ≤ 100000000) :
    Calls Try.prog 27 #[.agg #[I N, v], I S, I ki, vt, I V] w (RetIff w (V = S ∨ Hit (edges ki false l) T V)) := by
  obtain ⟨a, cap, rfl, hlc, hcap⟩ := hl.shape
  unfold maxLen at hcap
  obtain ⟨b0, o0, ct, rfl, hb0, hc0t⟩ : ∃ b0 o0 ct, vt = .slice (some ⟨b0, o0, none⟩) N ct ∧ b0 < w.heap.size ∧ ∀ i, i < N → w.cell? ⟨b0, o0 + i, none⟩ = some (I (encT (T i))) := by
    obtain ⟨aa, ct, rfl, h1, h2⟩ := ht.shape
    have hlen := tl_length N T
    obtain ⟨b, off, rfl, hb, hc⟩ := IntsAt.row ht (by omega)
    exact ⟨b, off, ct, by rw [hlen], hb, fun i hi => hc i _ (tl_get hi)⟩
  have hR := hG.road
  have hk := hG.len
  have HR := Lib.hid hR; clear hR
  have HC := Lib.hid hc0t; clear hc0t
  have HT := Lib.hid hT; clear hT
  have htb := HT.out V t hTV
  have fV := HC.out V hV
  rw [hTV] at fV
  simp only [encT] at fV
  have HTV := Lib.hid hTV; clear hTV
  go_enter Try.func27, Try.ntmps27
  go_wp2_with fail
  go_loopw [11] (fun i wr => ∃ j : Nat, j ≤ l.length ∧ i = I j ∧ ¬ Hit (edges ki false (l.take j)) T V ∧ Below (w.heap.size + 1) (w.alloc (.cells #[I N, .slice a l.length cap] 24)) wr) (fun i _ => l.length - (intOf i).toNat)
  case atStart => exact ⟨0, by omega, rfl, by rw [List.take_zero, edges_nil]; exact hit_nil _ _, Below.refl _ _⟩
  case round =>
    obtain ⟨j, hj, rfl, hno, hB⟩ := hrel
    obtain ⟨hb, hs, hc0, hc1⟩ := box2 hB
    have HNO := Lib.hid hno; clear hno
    by_cases hlt : j < l.length
    · obtain ⟨b, off, x, rfl, hbl, hx, g0, g1, g2, g3⟩ := RoadsAt.get4 (hl.below RRoad.mono hb) hlt
      obtain ⟨r1, r2, r3, r4, r5, r6⟩ := HR.out x (List.mem_of_getElem? hx.out)
      obtain ⟨na, ha⟩ : ∃ na : Nat, x.fr = (na : Int) := ⟨x.fr.toNat, by omega⟩
      obtain ⟨nb, hto⟩ : ∃ nb : Nat, x.to = (nb : Int) := ⟨x.to.toNat, by omega⟩
      obtain ⟨nm, hm⟩ : ∃ nm : Nat, x.mi = (nm : Int) := ⟨x.mi.toNat, by omega⟩
      have haN : na < N := by omega
      have hai : (na : Int) < (N : Int) := by omega
      have hnm : (nm : Int) ≤ 1000000 := by omega
      have hVi : (V : Int) < (N : Int) := by omega
      have fv := (hb.cell (p := ⟨b0, o0 + V, none⟩) hb0).trans fV
      have fa := (hb.cell (p := ⟨b0, o0 + na, none⟩) hb0).trans (HC.out na haN)
      have hb0r : b0 < wr.heap.size := by have := hb.size; omega
      have hji : (j : Int) < (l.length : Int) := by omega
      rw [ha] at g0
      rw [hto] at g1
      rw [hm] at g2
      have HA := Lib.hid ha; clear ha
      have HTO := Lib.hid hto; clear hto
      have HM := Lib.hid hm; clear hm
      by_cases hcar : carB x.li ki = true
      · have hey : edgeOf ki false x = [⟨na, nb, nm⟩] := by rw [edgeOf_yes hcar]; simp [HA.out, HTO.out, HM.out]
        have Hey := Lib.hid hey; clear hey
        by_cases hbV : nb = V
        · have hbt : ((nb : Int) == (V : Int)) = true := by rw [hbV]; simp
          cases hTa : T na with
          | none =>
            rw [hTa] at fa
            simp only [encT] at fa
            have HTa := Lib.hid hTa; clear hTa
            have HBV := Lib.hid hbV; clear hbV
            go_upto_region 5 with fail
            refine wp_region_rel (by kernel_rfl) (by kernel_rfl) (by kernel_rfl) ?_
            repeat
              (with_reducible apply rel_is
               · intro wx hx
                 have hc := (bcell hx).2.1
                 try simp only [List.nil_append, List.cons_append]
                 repeat (with_reducible refine reads_is ?_)
                 with_reducible refine reads_nil ?_
                 go_simp
                 first
                     | exact ⟨Grows.refl _, rfl⟩
                     | exact rfl
                     | (go_at_call 26; exact Carries_y _ _ _ _ _ _ _ hcar))
            with_reducible refine rel_end ?_
            intro w5 hg5
            simp only [List.nil_append, List.cons_append]
            repeat (with_reducible refine final_is ?_)
            with_reducible refine final_nil ?_
            go_simp
            have hB5 := (hB.alloc (by omega) (.cells #[I na, I nb, I nm, I x.li] 38)).trans (Below.mono hg5 (by simp; omega))
            go_wp2_with fail
            go_roundw
            case rel =>
              refine ⟨j + 1, by omega, by go_num, ?_, hB5⟩
              rw [take_snoc' hx.out, edges_snoc]
              rw [Hey.out]; exact no_snoc HNO.out (fun _ u hu => absurd (HTa.out.symm.trans hu) (by simp))
            case measure => simp [intOf]; omega
          | some da =>
            rw [hTa] at fa
            simp only [encT] at fa
            have hda := HT.out na da hTa
            have hge : decide ((0 : Int) ≤ (da : Int)) = true := by simp
            have HTa := Lib.hid hTa; clear hTa
            have hwr : IntKind.i64.wrap ((da : Int) + (nm : Int)) = (da : Int) + (nm : Int) := IntWalk.i64_in _ (by omega)
            by_cases hsum : da + nm = t
            · have hst : ((da : Int) + (nm : Int) == (t : Int)) = true := by rw [beq_iff_eq]; omega
              have hsn : (da + nm == t) = true := by simpa using hsum
              have HS := Lib.hid hsum; clear hsum
              have HBV := Lib.hid hbV; clear hbV
              go_upto_region 5 with fail
              refine wp_region_rel (by kernel_rfl) (by kernel_rfl) (by kernel_rfl) ?_
              repeat
                (with_reducible apply rel_is
                 · intro wx hx
                   have hc := (bcell hx).2.1
                   try simp only [List.nil_append, List.cons_append]
                   repeat (with_reducible refine reads_is ?_)
                   with_reducible refine reads_nil ?_
                   go_simp
                   first
                       | exact ⟨Grows.refl _, rfl⟩
                       | exact rfl
                       | (go_at_call 26; exact Carries_y _ _ _ _ _ _ _ hcar))
              with_reducible refine rel_end ?_
              intro w5 hg5
              simp only [List.nil_append, List.cons_append]
              repeat (with_reducible refine final_is ?_)
              with_reducible refine final_nil ?_
              go_simp
              go_wp2_with fail
              go_ret
              refine ⟨true, rfl, iff_of_true rfl (Or.inr (show Hit (edges ki false l) T V from ⟨⟨na, nb, nm⟩, edges_hit (List.mem_of_getElem? hx.out) Hey.out, HBV.out, da, HTa.out, by rw [HTV.out, HS.out]⟩)), ?_⟩
              exact (hb.alloc hb.size (.cells #[I na, I nb, I nm, I x.li] 38)).trans (Below.mono hg5 (by have := hb.size; simp; omega))
            · have hst : ((da : Int) + (nm : Int) == (t : Int)) = false := by rw [beq_eq_false_iff_ne]; omega
              have hsn : (da + nm == t) = false := by simpa using hsum
              have HS := Lib.hid hsum; clear hsum
              have HBV := Lib.hid hbV; clear hbV
              go_upto_region 5 with fail
              refine wp_region_rel (by kernel_rfl) (by kernel_rfl) (by kernel_rfl) ?_
              repeat
                (with_reducible apply rel_is
                 · intro wx hx
                   have hc := (bcell hx).2.1
                   try simp only [List.nil_append, List.cons_append]
                   repeat (with_reducible refine reads_is ?_)
                   with_reducible refine reads_nil ?_
                   go_simp
                   first
                       | exact ⟨Grows.refl _, rfl⟩
                       | exact rfl
                       | (go_at_call 26; exact Carries_y _ _ _ _ _ _ _ hcar))
              with_reducible refine rel_end ?_
              intro w5 hg5
              simp only [List.nil_append, List.cons_append]
              repeat (with_reducible refine final_is ?_)
              with_reducible refine final_nil ?_
              go_simp
              have hB5 := (hB.alloc (by omega) (.cells #[I na, I nb, I nm, I x.li] 38)).trans (Below.mono hg5 (by simp; omega))
              go_wp2_with fail
              go_roundw
              case rel =>
                refine ⟨j + 1, by omega, by go_num, ?_, hB5⟩
                rw [take_snoc' hx.out, edges_snoc]
                rw [Hey.out]; exact no_snoc HNO.out (fun _ u hu hv => HS.out (by have e1 := Option.some.inj (HTa.out.symm.trans hu); have e2 := Option.some.inj (HTV.out.symm.trans hv); subst e1; exact e2.symm))
              case measure => simp [intOf]; omega
        · have hbt : ((nb : Int) == (V : Int)) = false := by rw [beq_eq_false_iff_ne]; omega
          have HBV := Lib.hid hbV; clear hbV
          go_upto_region 5 with fail
          refine wp_region_rel (by kernel_rfl) (by kernel_rfl) (by kernel_rfl) ?_
          repeat
            (with_reducible apply rel_is
             · intro wx hx
               have hc := (bcell hx).2.1
               try simp only [List.nil_append, List.cons_append]
               repeat (with_reducible refine reads_is ?_)
               with_reducible refine reads_nil ?_
               go_simp
               first
                   | exact ⟨Grows.refl _, rfl⟩
                   | exact rfl)
          with_reducible refine rel_end ?_
          intro w5 hg5
          simp only [List.nil_append, List.cons_append]
          repeat (with_reducible refine final_is ?_)
          with_reducible refine final_nil ?_
          go_simp
          have hB5 := (hB.alloc (by omega) (.cells #[I na, I nb, I nm, I x.li] 38)).trans (Below.mono hg5 (by simp; omega))
          go_wp2_with fail
          go_roundw
          case rel =>
            refine ⟨j + 1, by omega, by go_num, ?_, hB5⟩
            rw [take_snoc' hx.out, edges_snoc]
            rw [Hey.out]; exact no_snoc HNO.out (fun h => absurd h HBV.out)
          case measure => simp [intOf]; omega
      · have hcar : carB x.li ki = false := by simpa using hcar
        by_cases hbV : nb = V
        · have hbt : ((nb : Int) == (V : Int)) = true := by rw [hbV]; simp
          have HBV := Lib.hid hbV; clear hbV
          go_upto_region 5 with fail
          refine wp_region_rel (by kernel_rfl) (by kernel_rfl) (by kernel_rfl) ?_
          repeat
            (with_reducible apply rel_is
             · intro wx hx
               have hc := (bcell hx).2.1
               try simp only [List.nil_append, List.cons_append]
               repeat (with_reducible refine reads_is ?_)
               with_reducible refine reads_nil ?_
               go_simp
               first
                   | exact ⟨Grows.refl _, rfl⟩
                   | exact rfl
                   | (go_at_call 26; exact Carries_y _ _ _ _ _ _ _ hcar))
          with_reducible refine rel_end ?_
          intro w5 hg5
          simp only [List.nil_append, List.cons_append]
          repeat (with_reducible refine final_is ?_)
          with_reducible refine final_nil ?_
          go_simp
          have hB5 := (hB.alloc (by omega) (.cells #[I na, I nb, I nm, I x.li] 38)).trans (Below.mono hg5 (by simp; omega))
          go_wp2_with fail
          go_roundw
          case rel =>
            refine ⟨j + 1, by omega, by go_num, ?_, hB5⟩
            rw [take_snoc' hx.out, edges_snoc]
            exact no_add HNO.out (edgeOf_no hcar)
          case measure => simp [intOf]; omega
        · have hbt : ((nb : Int) == (V : Int)) = false := by rw [beq_eq_false_iff_ne]; omega
          have HBV := Lib.hid hbV; clear hbV
          go_upto_region 5 with fail
          refine wp_region_rel (by kernel_rfl) (by kernel_rfl) (by kernel_rfl) ?_
          repeat
            (with_reducible apply rel_is
             · intro wx hx
               have hc := (bcell hx).2.1
               try simp only [List.nil_append, List.cons_append]
               repeat (with_reducible refine reads_is ?_)
               with_reducible refine reads_nil ?_
               go_simp
               first
                   | exact ⟨Grows.refl _, rfl⟩
                   | exact rfl)
          with_reducible refine rel_end ?_
          intro w5 hg5
          simp only [List.nil_append, List.cons_append]
          repeat (with_reducible refine final_is ?_)
          with_reducible refine final_nil ?_
          go_simp
          have hB5 := (hB.alloc (by omega) (.cells #[I na, I nb, I nm, I x.li] 38)).trans (Below.mono hg5 (by simp; omega))
          go_wp2_with fail
          go_roundw
          case rel =>
            refine ⟨j + 1, by omega, by go_num, ?_, hB5⟩
            rw [take_snoc' hx.out, edges_snoc]
            exact no_add HNO.out (edgeOf_no hcar)
          case measure => simp [intOf]; omega
    · have e : j = l.length := by omega
      subst e
      go_wp2_with fail
      go_ret
      have hno := HNO.out
      rw [List.take_length] at hno
      refine ⟨_, rfl, ?_, hb⟩
      simp only [hno, or_false, beq_iff_eq]
      constructor
      · intro h; omega
      · intro h; omega
end Go.Proofs.Ytmmbomkbaebodaa
