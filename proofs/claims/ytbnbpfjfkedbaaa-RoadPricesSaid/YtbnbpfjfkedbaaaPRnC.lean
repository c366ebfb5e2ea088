/-
  The walks of Same, Few, later, the reference's Check.
-/
import Derived.Test.YtbnbpfjfkedbaaaPRnB
namespace Go.Proofs.Ytbnbpfjfkedbaaa.Rn
set_option linter.unusedVariables false
set_option linter.unusedSimpArgs false
set_option linter.unusedSectionVars false
set_option maxRecDepth 100000
open Go.RowKit
theorem same_any (va vb : Value) (a b : List Int) (w : World) (ha : IntsAt w va a) (hb : IntsAt w vb b) :
    Calls Try.prog 53 #[va, vb] w fun e w' => e = .returned (B (decide (a = b))) ∧ Below w.heap.size w w' := by
 obtain ⟨aa, ca, rfl, hla, hca⟩ := ha.shape
 obtain ⟨ab, cb, rfl, hlb, hcb⟩ := hb.shape
 unfold maxLen at hca hcb
 by_cases hl : a.length = b.length
 · rw [← hl] at hb ⊢
   have Hl := Lib.hid hl; clear hl
   go_enter Try.func53, Try.ntmps53
   go_wp2
   go_loopw [5] (fun i wr => ∃ j : Nat, j ≤ a.length ∧ i = I j ∧ a.take j = b.take j ∧ Below w.heap.size w wr) (fun i _ => a.length - (intOf i).toNat)
   case atStart => exact ⟨0, by omega, rfl, by simp, Below.refl _ _⟩
   case round =>
    obtain ⟨j, hj, rfl, hp, hB⟩ := hrel
    have Hp := Lib.hid hp; clear hp
    by_cases hlt : j < a.length
    · obtain ⟨ba, oa, x, rfl, hba, hx, g0⟩ := IntsAt.get1 (ha.below RInt.mono hB) hlt
      obtain ⟨bb, ob, y, rfl, hbb, hy, g1⟩ := IntsAt.get1 (hb.below RInt.mono hB) (by rw [← Hl.out]; exact hlt)
      go_wp2
      go_quiet (fail)
      go_wp2
      · have hxy : (x != y) = true := by assumption
        go_ret
        refine ⟨retB ?_, drewN_below hB _⟩
        have h1 := same_step hx.out hy.out Hp.out
        symm; rw [decide_eq_false_iff_not]; rintro rfl
        simp [h1.1 rfl] at hxy
      · have hxy : (x != y) = false := by assumption
        go_roundw
        case rel => exact ⟨j + 1, by omega, by go_num, (same_step hx.out hy.out Hp.out).2 (by simpa using hxy), drewN_below hB _⟩
        case measure => simp [intOf]; omega
    · have e : j = a.length := by omega
      subst e
      go_wp2
      go_ret
      exact ⟨retB (by simp [same_end Hl.out Hp.out]), hB⟩
 · have hne : ((a.length : Int) != (b.length : Int)) = true := by simp; omega
   go_enter Try.func53, Try.ntmps53
   go_wp2
   go_ret
   refine ⟨retB ?_, Below.refl _ _⟩
   symm; rw [decide_eq_false_iff_not]; rintro rfl; exact hl rfl
theorem chkRoads_zero {n : Int} {l : List Rd} (h : chkRoads n l = 0) : ∀ r ∈ l, chkRoad n r = 0 := by
 induction l with
 | nil => intro r hr; cases hr
 | cons x l ih =>
   unfold chkRoads at h
   split at h
   · intro r hr
     rcases List.mem_cons.1 hr with rfl | hr
     · assumption
     · exact ih h r hr
   · rename_i hx; exact absurd h hx
theorem chkRoad_zero {n : Int} {r : Rd} (h : chkRoad n r = 0) : 0 ≤ r.fr ∧ r.fr < n ∧ 0 ≤ r.to ∧ r.to < n ∧ r.fr ≠ r.to ∧ 1 ≤ r.mi ∧ r.mi ≤ 1000000 ∧ (r.li = -1 ∨ 1 ≤ r.li ∧ r.li ≤ 1000000) := by
 grind [chkRoad, inB]
theorem chkNet_zero {n : Int} {l : List Rd} (h : chkNet n l = 0) : 0 ≤ n ∧ n ≤ 100 ∧ l.length ≤ 600 ∧ ∀ r ∈ l, chkRoad n r = 0 := by
 unfold chkNet at h
 split at h
 · simp at h
 · rename_i h1
   split at h
   · simp at h
   · have : inB n 0 100 = true := by simpa using h1
     rw [inB_iff] at this
     exact ⟨this.1, this.2, by omega, chkRoads_zero h⟩
theorem good_of {N : Nat} {l : List Rd} (h : chkNet N l = 0) : Good N l := by
 obtain ⟨_, h1, h2, h3⟩ := chkNet_zero h
 refine ⟨by omega, h2, fun r hr => ?_⟩
 have := chkRoad_zero (h3 r hr)
 omega
noncomputable def timesL (n : Int) (l : List Rd) (s ki : Int) : List Int := if chkNet n l = 0 ∧ 0 ≤ s ∧ s < n then dlist (edges ki false l) n.toNat s.toNat else []
theorem timesL_good {N S : Nat} {l : List Rd} {ki : Int} (h : chkNet N l = 0) (hs : S < N) : timesL N l S ki = dlist (edges ki false l) N S := by
 unfold timesL; rw [if_pos ⟨h, by omega, by omega⟩]; simp
theorem timesL_bad1 {n s : Int} {l : List Rd} {ki : Int} (h : chkNet n l ≠ 0) : timesL n l s ki = [] := by
 unfold timesL; rw [if_neg (fun x => h x.1)]
theorem timesL_bad2 {n s : Int} {l : List Rd} {ki : Int} (h : ¬ (0 ≤ s ∧ s < n)) : timesL n l s ki = [] := by
 unfold timesL; rw [if_neg (fun x => h x.2)]
theorem ints_nil (w : World) : IntsAt w (.slice none 0 0) [] := ⟨none, 0, rfl, Nat.le_refl _, by unfold maxLen; omega, .inl rfl⟩
theorem times_new (n s ki : Int) (v : Value) (l : List Rd) (w : World) (hl : RoadsAt w v l) :
    Calls Try.prog 24 #[.agg #[I n, v], I s, I ki] w (RetNew w (timesL n l s ki)) := by
 by_cases hc : chkNet n l = 0
 · have hcb : (chkNet n l != 0) = false := by simp [hc]
   obtain ⟨h0, h1, h2, h3⟩ := chkNet_zero hc
   obtain ⟨N, rfl⟩ : ∃ N : Nat, n = (N : Int) := ⟨n.toNat, by omega⟩
   have hG := good_of hc
   have HC := Lib.hid hc; clear hc h3
   by_cases hs : 0 ≤ s ∧ s < N
   · obtain ⟨S, rfl⟩ : ∃ S : Nat, s = (S : Int) := ⟨s.toNat, by omega⟩
     have hin : inB (S : Int) 0 ((N : Int) - 1) = true := by rw [inB_iff]; omega
     have hS : S < N := by omega
     rw [timesL_good HC.out hS]
     obtain ⟨a, cap, rfl, hlc, hcap⟩ := hl.shape
     go_enter Try.func24, Try.ntmps24
     go_wp2_with (first
      | (go_at_call 22; refine (check_any _ _ l _ (hl.below RRoad.mono ((Below.refl _ _).alloc (Nat.le_refl _) _))).mono ?_; rintro e w1 ⟨rfl, hb1⟩; obtain ⟨hz1, hc1, hf1⟩ := bcell hb1; have hb1' := (belowA (o := .cells #[I N, .slice a l.length cap] 55) (Below.refl w.heap.size w) (Nat.le_refl _)).trans (hb1.mono (by simp)))
      | (go_at_call 55; refine (in_any _ _ _ _).mono ?_; rintro e w' ⟨rfl, rfl⟩)
      | (go_at_call 58; refine (search_new N _ l S _ _ _ (hl.below RRoad.mono hb1') hG hS).mono ?_; rintro e w2 ⟨v2, rfl, hi2, hb2, hn2⟩))
     go_ret
     exact ⟨_, rfl, hi2, hb1'.trans (hb2.mono hb1'.size), fun b hb => Nat.le_trans hb1'.size (hn2 b hb)⟩
   · have hin : inB s 0 ((N : Int) - 1) = false := by rw [inB_not]; omega
     rw [timesL_bad2 hs]
     obtain ⟨a, cap, rfl, hlc, hcap⟩ := hl.shape
     go_enter Try.func24, Try.ntmps24
     go_wp2_with (first
      | (go_at_call 22; refine (check_any _ _ l _ (hl.below RRoad.mono ((Below.refl _ _).alloc (Nat.le_refl _) _))).mono ?_; rintro e w1 ⟨rfl, hb1⟩; obtain ⟨hz1, hc1, hf1⟩ := bcell hb1; have hb1' := (belowA (o := .cells #[I N, .slice a l.length cap] 55) (Below.refl w.heap.size w) (Nat.le_refl _)).trans (hb1.mono (by simp)))
      | (go_at_call 55; refine (in_any _ _ _ _).mono ?_; rintro e w' ⟨rfl, rfl⟩))
     go_ret
     exact ⟨_, rfl, ints_nil _, hb1', fun b hb => by simp [Value.ownBlock] at hb⟩
 · have hcb : (chkNet n l != 0) = true := by simpa using hc
   rw [timesL_bad1 hc]
   obtain ⟨a, cap, rfl, hlc, hcap⟩ := hl.shape
   have HC := Lib.hid hc; clear hc
   go_enter Try.func24, Try.ntmps24
   go_wp2_with (first
    | (go_at_call 22; refine (check_any _ _ l _ (hl.below RRoad.mono ((Below.refl _ _).alloc (Nat.le_refl _) _))).mono ?_; rintro e w1 ⟨rfl, hb1⟩; obtain ⟨hz1, hc1, hf1⟩ := bcell hb1; have hb1' := (belowA (o := .cells #[I n, .slice a l.length cap] 55) (Below.refl w.heap.size w) (Nat.le_refl _)).trans (hb1.mono (by simp))))
   go_ret
   exact ⟨_, rfl, ints_nil _, hb1', fun b hb => by simp [Value.ownBlock] at hb⟩
theorem times_any (n s ki : Int) (v : Value) (l : List Rd) (w : World) (hl : RoadsAt w v l) :
    Calls Try.prog 24 #[.agg #[I n, v], I s, I ki] w (RetInts w (timesL n l s ki)) := (times_new n s ki v l w hl).mono fun _ _ h => h.ints
def tl (n : Nat) (T : Nat → Option Nat) : List Int := (List.range n).map fun v => encT (T v)
theorem tl_length (n : Nat) (T : Nat → Option Nat) : (tl n T).length = n := by simp [tl]
theorem tl_get {n : Nat} {T : Nat → Option Nat} {v : Nat} (hv : v < n) : (tl n T)[v]? = some (encT (T v)) := by simp [tl, hv]
theorem tl_eq {n : Nat} {T T' : Nat → Option Nat} (h : tl n T = tl n T') {v : Nat} (hv : v < n) : T v = T' v := by
 have h1 := tl_get (T := T) hv
 rw [h, tl_get hv] at h1
 exact (encT_inj (Option.some.inj h1)).symm
def okT (x : Int) : Prop := x = -1 ∨ (0 ≤ x ∧ x ≤ 100000000)
theorem tl_of {ts : List Int} (h : ∀ x ∈ ts, okT x) : ∃ T, ts = tl ts.length T ∧ ∀ v t, T v = some t → t ≤ 100000000 := by
 refine ⟨fun v => match ts[v]? with | some x => if x = -1 then none else some x.toNat | none => none, ?_, fun v t hv => ?_⟩
 · apply List.ext_getElem?
   intro i
   by_cases hi : i < ts.length
   · rw [tl_get hi, List.getElem?_eq_getElem hi]
     have := h ts[i] (List.getElem_mem hi)
     congr 1
     by_cases hm : ts[i] = -1
     · simp [hm, encT]
     · simp only [hm, if_false, encT]
       rcases this with h | h
       · exact absurd h hm
       · omega
   · rw [List.getElem?_eq_none (by omega), List.getElem?_eq_none (by rw [tl_length]; omega)]
 · simp only at hv
   split at hv
   · rename_i x hx
     split at hv
     · cases hv
     · simp only [Option.some.injEq] at hv
       rcases h x (List.mem_of_getElem? hx) with h | h
       · contradiction
       · omega
   · cases hv
theorem dlist_ok {E : List Ed} {n s : Nat} (hp : Posi E) (hin : In E n) (hM : ∀ e ∈ E, e.m ≤ 1000000) (hn : n ≤ 100) : ∀ x ∈ dlist E n s, okT x := by
 intro x hx
 simp only [dlist, List.mem_map] at hx
 obtain ⟨v, _, rfl⟩ := hx
 cases h : dst E s v with
 | none => left; rfl
 | some d =>
   right
   have := dst_bound hp hin hM h
   have := Nat.mul_le_mul_right 1000000 hn
   simp [encT]
   omega
def Fnd (F : List Ed) (s : Nat) (T : Nat → Option Nat) (v : Nat) : Prop := (v = s ∧ T s = some 0) ∨ ∃ e ∈ F, e.b = v ∧ v ≠ s ∧ ∃ u, T e.a = some u ∧ T v = some (u + e.m)
theorem not_edge {E : List Ed} {n s : Nat} {T : Nat → Option Nat} (hin : In E n) {e : Ed} (he : e ∈ E) {u : Nat} (hu : T e.a = some u) (h : ∀ t, T e.b = some t → u + e.m < t) : tl n T ≠ dlist E n s := by
 intro hq
 have ha := tl_eq (T' := dst E s) hq (hin e he).1
 have hb := tl_eq (T' := dst E s) hq (hin e he).2
 obtain ⟨t', ht', hle⟩ := dst_edge he (ha ▸ hu)
 have := h t' (hb.trans ht')
 omega
theorem not_found {E : List Ed} {n s : Nat} {T : Nat → Option Nat} (hs : s < n) (hin : In E n) {v t : Nat} (hv : v < n) (ht : T v = some t) (h : ¬ Fnd E s T v) : tl n T ≠ dlist E n s := by
 intro hq
 have hT : ∀ x, x < n → T x = dst E s x := fun x hx => tl_eq (T' := dst E s) hq hx
 apply h
 by_cases hvs : v = s
 · left; exact ⟨hvs, by rw [hT s hs]; exact dst_self E s⟩
 · right
   rw [hT v hv] at ht
   rcases dst_last ht with ⟨h1, _⟩ | ⟨e, he, rfl, u, hu, rfl⟩
   · contradiction
   · exact ⟨e, he, rfl, hvs, u, by rw [hT _ (hin e he).1]; exact hu, by rw [hT _ hv]; exact ht⟩
theorem not_zero {E : List Ed} {n s : Nat} {T : Nat → Option Nat} (hs : s < n) (h : T s ≠ some 0) : tl n T ≠ dlist E n s := by
 intro hq
 exact h ((tl_eq (T' := dst E s) hq hs).trans (dst_self E s))
theorem is_dlist {E : List Ed} {n s : Nat} {T : Nat → Option Nat} (hp : Posi E) (hin : In E n) (h0 : T s = some 0) (hb : ∀ e ∈ E, ∀ t, T e.a = some t → ∃ t', T e.b = some t' ∧ t' ≤ t + e.m)
    (hf : ∀ v t, v < n → T v = some t → v = s ∨ ∃ e ∈ E, e.b = v ∧ ∃ u, T e.a = some u ∧ t = u + e.m) : tl n T = dlist E n s := by
 have c : Cert E n s T := ⟨h0, hb, fun v hv t ht => hf v t hv ht⟩
 unfold tl dlist
 apply List.map_congr_left
 intro v hv
 rw [c.eq hp hin (List.mem_range.1 hv)]
theorem fnd_last {E : List Ed} {s v t : Nat} {T : Nat → Option Nat} (h : Fnd E s T v) (ht : T v = some t) : v = s ∨ ∃ e ∈ E, e.b = v ∧ ∃ u, T e.a = some u ∧ t = u + e.m := by
 rcases h with ⟨h, _⟩ | ⟨e, he, hb, _, u, hu, hv⟩
 · exact .inl h
 · exact .inr ⟨e, he, hb, u, hu, Option.some.inj (ht.symm.trans hv)⟩
noncomputable def provesL (n : Int) (l : List Rd) (s ki : Int) (ts : List Int) : Bool := by
 classical
 exact decide (chkNet n l = 0 ∧ 0 ≤ s ∧ s < n ∧ ts = timesL n l s ki)
theorem proves_bad {n s ki : Int} {l : List Rd} {ts : List Int} (h : ¬ (chkNet n l = 0 ∧ 0 ≤ s ∧ s < n ∧ (ts.length : Int) = n)) : false = provesL n l s ki ts := by
 unfold provesL
 symm
 rw [decide_eq_false_iff_not]
 rintro ⟨h1, h2, h3, rfl⟩
 apply h
 obtain ⟨h0, _⟩ := chkNet_zero h1
 refine ⟨h1, h2, h3, ?_⟩
 unfold timesL
 rw [if_pos ⟨h1, h2, h3⟩, dlist_length]
 omega
theorem proves_no {N S : Nat} {ki : Int} {l : List Rd} {ts : List Int} (hc : chkNet N l = 0) (hS : S < N) (h : ts ≠ dlist (edges ki false l) N S) : false = provesL N l S ki ts := by
 unfold provesL
 symm
 rw [decide_eq_false_iff_not, timesL_good hc hS]
 exact fun x => h x.2.2.2
theorem proves_yes {N S : Nat} {ki : Int} {l : List Rd} {ts : List Int} (hc : chkNet N l = 0) (hS : S < N) (h : ts = dlist (edges ki false l) N S) : true = provesL N l S ki ts := by
 unfold provesL
 symm
 rw [decide_eq_true_iff, timesL_good hc hS]
 exact ⟨hc, by omega, by omega, h⟩
noncomputable def lef (l : List Rd) (ki : Int) (b : Nat) : Nat → Option Nat := dst (edges ki true l) b
def OkR (l : List Rd) (ki : Int) (b at' i : Nat) : Prop := ∃ x, l[i]? = some x ∧ x.fr = (at' : Int) ∧ carB x.li ki = true ∧ ∃ u, lef l ki b x.to.toNat = some u ∧ lef l ki b at' = some (u + x.mi.toNat)
inductive PathR (l : List Rd) (ki : Int) (b : Nat) : Nat → List Nat → Prop
 | nil : PathR l ki b b []
 | cons {at' i : Nat} {x : Rd} {p : List Nat} : at' ≠ b → OkR l ki b at' i → (∀ i', i' < i → ¬ OkR l ki b at' i') → l[i]? = some x → PathR l ki b x.to.toNat p → PathR l ki b at' (i :: p)
theorem PathR.det {l : List Rd} {ki : Int} {b at' : Nat} {p q : List Nat} (h : PathR l ki b at' p) (k : PathR l ki b at' q) : p = q := by
 induction h generalizing q with
 | nil =>
   cases k with
   | nil => rfl
   | cons h => exact absurd rfl h
 | cons hne hok hmin hx hp ih =>
   cases k with
   | nil => exact absurd rfl hne
   | cons hne' hok' hmin' hx' hp' =>
     rename_i i x p i' x' p'
     have e : i = i' := by
      rcases Nat.lt_trichotomy i i' with h | h | h
      · exact absurd hok (hmin' _ h)
      · exact h
      · exact absurd hok' (hmin _ h)
     subst e
     rw [hx] at hx'
     simp only [Option.some.injEq] at hx'
     subst hx'
     rw [ih hp']
theorem least_index (P : Nat → Prop) (h : ∃ t, P t) : ∃ m, P m ∧ ∀ t, t < m → ¬ P t := by
 obtain ⟨m, hm, hl⟩ := exists_least P h
 exact ⟨m, hm, fun t ht hp => by have := hl t hp; omega⟩
theorem path_exists {n : Nat} {l : List Rd} (hG : Good n l) (ki : Int) (b : Nat) : ∀ (d at' : Nat), lef l ki b at' = some d → ∃ p, PathR l ki b at' p ∧ p.length ≤ sooner (edges ki true l) n b d := by
 intro d
 induction d using Nat.strongRecOn with
 | ind d ih =>
   intro at' hd
   by_cases hb : at' = b
   · subst hb; exact ⟨[], .nil, Nat.zero_le _⟩
   · rcases dst_last hd with ⟨h, _⟩ | ⟨e, he, hea, u, hu, hdu⟩
     · exact absurd h hb
     · obtain ⟨r, hr, hcar, rfl⟩ := mem_edges he
       have hrr := hG.road r hr
       simp only [if_true] at hea hu hdu
       obtain ⟨i, hi⟩ := List.getElem?_of_mem hr
       have hok : OkR l ki b at' i := ⟨r, hi, by omega, hcar, u, hu, by rw [hd, hdu]⟩
       obtain ⟨m, hm, hmin⟩ := least_index _ ⟨i, hok⟩
       obtain ⟨x, hx, hxf, hxc, u', hu', hd'⟩ := hm
       have hxr := hG.road x (List.mem_of_getElem? hx)
       rw [hd] at hd'
       simp only [Option.some.injEq] at hd'
       obtain ⟨p, hp, hpl⟩ := ih u' (by omega) x.to.toNat hu'
       refine ⟨m :: p, .cons hb ⟨x, hx, hxf, hxc, u', hu', by rw [hd, hd']⟩ hmin hx hp, ?_⟩
       have h1 := sooner_lt (n := n) (t := d) (show x.to.toNat < n by omega) hu' (by omega)
       simp only [List.length_cons]
       omega
noncomputable def pathP (l : List Rd) (ki : Int) (b at' : Nat) : List Nat := by
 classical
 exact if h : ∃ p, PathR l ki b at' p then Classical.choose h else []
theorem pathP_eq {l : List Rd} {ki : Int} {b at' : Nat} {p : List Nat} (h : PathR l ki b at' p) : pathP l ki b at' = p := by
 unfold pathP
 rw [dif_pos ⟨p, h⟩]
 exact (Classical.choose_spec (p := fun p => PathR l ki b at' p) ⟨p, h⟩).det h
noncomputable def pathL (n : Int) (l : List Rd) (a b ki : Int) : Option (List Int) :=
 if chkNet n l = 0 ∧ (0 ≤ a ∧ a < n) ∧ (0 ≤ b ∧ b < n) then
  match lef l ki b.toNat a.toNat with
  | some _ => some ((pathP l ki b.toNat a.toNat).map fun i : Nat => (i : Int))
  | none => none
 else none
theorem pathL_bad {n a b ki : Int} {l : List Rd} (h : ¬ (chkNet n l = 0 ∧ (0 ≤ a ∧ a < n) ∧ (0 ≤ b ∧ b < n))) : pathL n l a b ki = none := by
 unfold pathL; rw [if_neg h]
theorem pathL_none {N S D : Nat} {ki : Int} {l : List Rd} (hc : chkNet N l = 0) (ha : S < N) (hb : D < N) (h : lef l ki D S = none) : pathL N l S D ki = none := by
 unfold pathL
 rw [if_pos ⟨hc, by omega, by omega⟩]
 simp [h]
theorem pathL_some {N S D d : Nat} {ki : Int} {l : List Rd} (hc : chkNet N l = 0) (ha : S < N) (hb : D < N) (h : lef l ki D S = some d) : pathL N l S D ki = some ((pathP l ki D S).map fun i : Nat => (i : Int)) := by
 unfold pathL
 rw [if_pos ⟨hc, by omega, by omega⟩]
 simp [h]
def RetPath (w : World) (o : Option (List Int)) (e : Ending) (w' : World) : Prop := ∃ v, e = .returned (.tuple #[v, .bool o.isSome]) ∧ IntsAt w' v (o.getD []) ∧ Below w.heap.size w w'
theorem owns_ints {w : World} {v : Value} {p : List Int} (h : w.ownsRow 0 3 1 v p.length (p.map I)) : IntsAt w v p := by
 rcases h.2 with ⟨rfl, h0⟩ | ⟨g, cap, cur, rfl, _, hg, hc, hm, hs, ht⟩
 · have : p = [] := List.eq_nil_of_length_eq_zero h0
   subst this; exact ints_nil w
 · refine ⟨_, cap, rfl, hc, hm, .inr ⟨g, 0, rfl, (Array.getElem?_eq_some_iff.1 hg).1, fun i x hi => ⟨[I x], rfl, rfl, fun j u hj => ?_⟩⟩⟩
   cases j with
   | zero =>
     simp only [List.getElem?_cons_zero, Option.some.injEq] at hj
     subst hj
     have hlt := (List.getElem?_eq_some_iff.1 hi).1
     have := World.ownsRow.cellAt h i (by omega)
     rw [List.getElem?_map, hi] at this
     simpa using this
   | succ j => simp at hj
def certB (E : List Ed) (n s : Nat) (T : List (Option Nat)) : Bool :=
 T.getD s none == some 0
  && E.all (fun e => match T.getD e.a none with | none => true | some t => match T.getD e.b none with | none => false | some t' => decide (t' ≤ t + e.m))
  && (List.range n).all (fun v => match T.getD v none with | none => true | some t => v == s || E.any (fun e => e.b == v && match T.getD e.a none with | none => false | some u => t == u + e.m))
theorem certB_cert {E : List Ed} {n s : Nat} {T : List (Option Nat)} (h : certB E n s T = true) : Cert E n s (fun v => T.getD v none) := by
 simp only [certB, Bool.and_eq_true, List.all_eq_true, List.mem_range, beq_iff_eq] at h
 obtain ⟨⟨h1, h2⟩, h3⟩ := h
 refine ⟨h1, fun e he t ht => ?_, fun v hv t ht => ?_⟩
 · have := h2 e he
   rw [ht] at this
   cases hb : T.getD e.b none with
   | none => rw [hb] at this; simp at this
   | some t' => rw [hb] at this; exact ⟨t', rfl, by simpa using this⟩
 · have := h3 v hv
   rw [ht] at this
   simp only [Bool.or_eq_true, beq_iff_eq, List.any_eq_true, Bool.and_eq_true] at this
   rcases this with h | ⟨e, he, hb, hm⟩
   · exact .inl h
   · refine .inr ⟨e, he, hb, ?_⟩
     cases ha : T.getD e.a none with
     | none => rw [ha] at hm; simp at hm
     | some u => rw [ha] at hm; exact ⟨u, rfl, by simpa using hm⟩
def okB (T : List (Option Nat)) (l : List Rd) (ki : Int) (at' i : Nat) : Bool :=
 match l[i]? with
 | none => false
 | some x => x.fr == (at' : Int) && carB x.li ki && match T.getD x.to.toNat none with | none => false | some u => T.getD at' none == some (u + x.mi.toNat)
def pathB (T : List (Option Nat)) (l : List Rd) (ki : Int) (b : Nat) : Nat → List Nat → Bool
 | at', [] => at' == b
 | at', i :: p => at' != b && okB T l ki at' i && (List.range i).all (fun j => !okB T l ki at' j) && match l[i]? with | none => false | some x => decide (x.to.toNat < T.length) && pathB T l ki b x.to.toNat p
theorem okB_iff {T : List (Option Nat)} {l : List Rd} {ki : Int} {b at' i n : Nat} (hT : ∀ v, v < n → lef l ki b v = T.getD v none) (hto : ∀ x ∈ l, x.to.toNat < n) (hat : at' < n) : okB T l ki at' i = true ↔ OkR l ki b at' i := by
 unfold okB OkR
 cases h : l[i]? with
 | none => simp
 | some x =>
   have hx := hto x (List.mem_of_getElem? h)
   dsimp only
   rw [← hT _ hx, ← hT _ hat]
   simp only [Bool.and_eq_true, beq_iff_eq, Option.some.injEq]
   constructor
   · rintro ⟨⟨h1, h2⟩, h3⟩
     cases hl : lef l ki b x.to.toNat with
     | none => rw [hl] at h3; simp at h3
     | some u => rw [hl] at h3; exact ⟨x, rfl, h1, h2, u, hl, by simpa using h3⟩
   · rintro ⟨y, rfl, h1, h2, u, hl, h3⟩
     refine ⟨⟨h1, h2⟩, ?_⟩
     rw [hl]
     simpa using h3
theorem pathB_path {T : List (Option Nat)} {l : List Rd} {ki : Int} {b n : Nat} (hT : ∀ v, v < n → lef l ki b v = T.getD v none) (hto : ∀ x ∈ l, x.to.toNat < n) : ∀ (p : List Nat) (at' : Nat), at' < n → pathB T l ki b at' p = true → PathR l ki b at' p := by
 intro p
 induction p with
 | nil => intro at' _ h; simp only [pathB, beq_iff_eq] at h; subst h; exact .nil
 | cons i p ih =>
   intro at' hat h
   simp only [pathB, Bool.and_eq_true, bne_iff_ne, List.all_eq_true, List.mem_range, Bool.not_eq_true'] at h
   obtain ⟨⟨⟨h1, h2⟩, h3⟩, h4⟩ := h
   cases hx : l[i]? with
   | none => rw [hx] at h4; simp at h4
   | some x =>
     rw [hx] at h4
     simp only [Bool.and_eq_true] at h4
     exact .cons h1 ((okB_iff hT hto hat).1 h2) (fun j hj hk => by rw [← okB_iff hT hto hat, h3 j hj] at hk; cases hk) hx (ih _ (hto x (List.mem_of_getElem? hx)) h4.2)
theorem dlist_cert {E : List Ed} {n s : Nat} {T : List (Option Nat)} (hp : Posi E) (hin : In E n) (h : certB E n s T = true) : ∀ v, v < n → dst E s v = T.getD v none := fun v hv => (((certB_cert h).eq hp hin hv)).symm
def exL : List Rd := [⟨0, 1, 5, -1⟩, ⟨1, 2, 5, 10000⟩, ⟨0, 2, 20, -1⟩, ⟨2, 0, 3, -1⟩]
theorem exL_chk : chkNet ((4 : Nat) : Int) exL = 0 := by decide
theorem exL_good : Good 4 exL := good_of exL_chk
theorem ex_times (ki : Int) (T : List (Option Nat)) (h : certB (edges ki false exL) 4 0 T = true) : timesL 4 exL 0 ki = (List.range 4).map fun v => encT (T.getD v none) := by
 refine (timesL_good (N := 4) (S := 0) exL_chk (by omega)).trans ?_
 unfold dlist
 apply List.map_congr_left
 intro v hv
 rw [dlist_cert (exL_good.posi ki false) (exL_good.inn ki false) h v (by simpa using hv)]
theorem ex_path (ki : Int) (a b : Nat) (ha : a < 4) (hb : b < 4) (T : List (Option Nat)) (p : List Nat) (h : certB (edges ki true exL) 4 b T = true) (hp : pathB T exL ki b a p = true) (hs : (T.getD a none).isSome = true) : pathL 4 exL a b ki = some (p.map fun i : Nat => (i : Int)) := by
 have hT := dlist_cert (exL_good.posi ki true) (exL_good.inn ki true) h
 obtain ⟨d, hd⟩ := Option.isSome_iff_exists.1 hs
 have hl : lef exL ki b a = some d := (hT a ha).trans hd
 refine (pathL_some (N := 4) exL_chk ha hb hl).trans ?_
 rw [pathP_eq (pathB_path (n := 4) hT (by decide) p a ha hp)]
theorem ex_nopath (ki : Int) (a b : Nat) (ha : a < 4) (hb : b < 4) (T : List (Option Nat)) (h : certB (edges ki true exL) 4 b T = true) (hs : T.getD a none = none) : pathL 4 exL a b ki = none := by
 have hT := dlist_cert (exL_good.posi ki true) (exL_good.inn ki true) h
 exact pathL_none (N := 4) exL_chk ha hb ((hT a ha).trans hs)
theorem ex1 : timesL 4 exL 0 10000 = [0, 5, 10, -1] := ex_times 10000 [some 0, some 5, some 10, none] (by decide)
theorem ex2 : timesL 4 exL 0 10001 = [0, 5, 20, -1] := ex_times 10001 [some 0, some 5, some 20, none] (by decide)
theorem ex3 : pathL 4 exL 0 2 10000 = some [0, 1] := ex_path 10000 0 2 (by omega) (by omega) [some 10, some 5, some 0, none] [0, 1] (by decide) (by decide) rfl
theorem ex4 : pathL 4 exL 0 2 10001 = some [2] := ex_path 10001 0 2 (by omega) (by omega) [some 20, none, some 0, none] [2] (by decide) (by decide) rfl
theorem ex5 : pathL 4 exL 1 0 10000 = some [1, 3] := ex_path 10000 1 0 (by omega) (by omega) [some 0, some 8, some 3, none] [1, 3] (by decide) (by decide) rfl
theorem ex6 : pathL 4 exL 1 0 10001 = none := ex_nopath 10001 1 0 (by omega) (by omega) [some 0, none, some 3, none] (by decide) rfl
theorem ex7 : provesL 4 exL 0 10000 [0, 5, 10, -1] = true := (proves_yes (N := 4) (S := 0) exL_chk (by omega) (by rw [← timesL_good (N := 4) (S := 0) exL_chk (by omega)]; exact ex1.symm)).symm
theorem ex8 : provesL 4 exL 0 10000 [0, 5, 9, -1] = false := (proves_no (N := 4) (S := 0) exL_chk (by omega) (by rw [← timesL_good (N := 4) (S := 0) exL_chk (by omega)]; intro h; exact absurd (h.trans ex1) (by decide))).symm
theorem ex9 : provesL 4 exL 0 10000 [0, 5, 10, 30] = false := (proves_no (N := 4) (S := 0) exL_chk (by omega) (by rw [← timesL_good (N := 4) (S := 0) exL_chk (by omega)]; intro h; exact absurd (h.trans ex1) (by decide))).symm
theorem ex10 : chkNet 101 [] = 1 := by decide
theorem flat_get {α β : Type} (f : α → List β) {s : Nat} (hf : ∀ x, (f x).length = s) : ∀ (l : List α) (i : Nat) (x : α), l[i]? = some x → ∀ (j : Nat) (u : β), (f x)[j]? = some u → (l.flatMap f)[i * s + j]? = some u := by
 intro l
 induction l with
 | nil => intro i x h; simp at h
 | cons y l ih =>
   intro i x h j u hu
   rw [List.flatMap_cons]
   cases i with
   | zero =>
     simp only [List.getElem?_cons_zero, Option.some.injEq] at h
     subst h
     have hj := (List.getElem?_eq_some_iff.1 hu).1
     rw [Nat.zero_mul, Nat.zero_add, List.getElem?_append_left hj]
     exact hu
   | succ i =>
     simp only [List.getElem?_cons_succ] at h
     rw [List.getElem?_append_right (by rw [hf, Nat.succ_mul]; omega), hf]
     have e : (i + 1) * s + j - s = i * s + j := by rw [Nat.succ_mul]; omega
     rw [e]
     exact ih i x h j u hu
def cellsR (r : Rd) : List Value := [I r.fr, I r.to, I r.mi, I r.li]
theorem roads_block {w : World} {g cap : Nat} {cs : Array Value} {t : TypeId} {fr : Nat × Nat} {l : List Rd} (h : w.heap[g]? = some (.cells cs t fr)) (hc : l.length ≤ cap) (hm : cap ≤ maxLen) (he : cs.toList.take (l.length * 4) = l.flatMap cellsR) :
    RoadsAt w (.slice (some ⟨g, 0, none⟩) l.length cap) l := by
 refine ⟨_, cap, rfl, hc, hm, .inr ⟨g, 0, rfl, (Array.getElem?_eq_some_iff.1 h).1, fun i x hi => ⟨cellsR x, rfl, rfl, fun j u hu => ?_⟩⟩⟩
 rw [Nat.zero_add, cell_of_row w g _ cs t fr h]
 have := flat_get cellsR (s := 4) (fun _ => rfl) l i x hi j u hu
 rw [← he, List.getElem?_take] at this
 split at this
 · simpa using this
 · cases this
theorem ints_block {w : World} {g cap : Nat} {cs : Array Value} {t : TypeId} {fr : Nat × Nat} {l : List Int} (h : w.heap[g]? = some (.cells cs t fr)) (hc : l.length ≤ cap) (hm : cap ≤ maxLen) (he : cs.toList.take l.length = l.map I) :
    IntsAt w (.slice (some ⟨g, 0, none⟩) l.length cap) l := by
 refine ⟨_, cap, rfl, hc, hm, .inr ⟨g, 0, rfl, (Array.getElem?_eq_some_iff.1 h).1, fun i x hi => ⟨[I x], rfl, rfl, fun j u hu => ?_⟩⟩⟩
 rw [Nat.zero_add, cell_of_row w g _ cs t fr h]
 cases j with
 | zero =>
   simp only [List.getElem?_cons_zero, Option.some.injEq] at hu
   subst hu
   have : (l.map I)[i]? = some (I x) := by simp [hi]
   rw [← he, List.getElem?_take] at this
   split at this
   · simpa using this
   · cases this
 | succ j => simp at hu
abbrev exCells : Array Value := #[I 0, I 1, I 5, I (-1), I 1, I 2, I 5, I 10000, I 0, I 2, I 20, I (-1), I 2, I 0, I 3, I (-1)]
theorem example_any (w : World) : Calls Try.prog 51 #[] w fun e w' => e = .returned (.agg #[I 4, .slice (some ⟨w.heap.size + 1, 0, none⟩) 4 4]) ∧ (w.alloc (.cells #[I 4, .slice (some ⟨w.heap.size + 1, 0, none⟩) 4 4] 55)).alloc (.cells exCells 66) = w' := by
 go_enter Try.func51, Try.ntmps51
 go_wp2_with fail
 refine bodyPost_ret_by (results_cell_row rfl _ _ w.heap.size 55 _ (0, 0) _ rfl (heap_alloc2_old w _ _) Try.underlying55 rfl (by kernel_rfl)) rfl ?_
 exact ⟨rfl, rfl⟩
theorem ints_new {w : World} {cs : Array Value} {t : TypeId} {n : Nat} (l : List Int) (hm : n ≤ maxLen) (hl : l.length = n) (he : cs.toList.take l.length = l.map I) : IntsAt (w.alloc (.cells cs t)) (.slice (some ⟨w.heap.size, 0, none⟩) n n) l := by
 subst hl
 exact ints_block (heap_alloc_new w _) (Nat.le_refl _) hm he
structure BoxAt (w : World) (b : Nat) (v : Value) (wx : World) : Prop where
 c0 : wx.cell? ⟨b, 0, none⟩ = some (I 4)
 c1 : wx.cell? ⟨b, 1, none⟩ = some v
 roads : RoadsAt wx v exL
 ge : w.heap.size ≤ b
 lt : b < wx.heap.size
 below : Below w.heap.size w wx
theorem BoxAt.mono {w wx wy : World} {b : Nat} {v : Value} (h : BoxAt w b v wx) (hb : Below wx.heap.size wx wy) : BoxAt w b v wy where
 c0 := (hb.cell (p := ⟨b, 0, none⟩) h.lt).trans h.c0
 c1 := (hb.cell (p := ⟨b, 1, none⟩) h.lt).trans h.c1
 roads := h.roads.below RRoad.mono hb
 ge := h.ge
 lt := Nat.lt_of_lt_of_le h.lt hb.size
 below := h.below.trans (hb.mono (by have := h.ge; have := h.lt; omega))
theorem box_at (w : World) : BoxAt w (w.heap.size + 1 + 1) (.slice (some ⟨w.heap.size + 1, 0, none⟩) 4 4) (((w.alloc (.cells #[I 4, .slice (some ⟨w.heap.size + 1, 0, none⟩) 4 4] 55)).alloc (.cells exCells 66)).alloc (.cells #[I 4, .slice (some ⟨w.heap.size + 1, 0, none⟩) 4 4] 55)) where
 c0 := by
  have h := heap_alloc_new ((w.alloc (.cells #[I 4, .slice (some ⟨w.heap.size + 1, 0, none⟩) 4 4] 55)).alloc (.cells exCells 66)) (.cells #[I 4, .slice (some ⟨w.heap.size + 1, 0, none⟩) 4 4] 55)
  rw [World.size_alloc, World.size_alloc] at h
  rw [cell_of_row _ _ 0 _ _ (0, 0) h]; rfl
 c1 := by
  have h := heap_alloc_new ((w.alloc (.cells #[I 4, .slice (some ⟨w.heap.size + 1, 0, none⟩) 4 4] 55)).alloc (.cells exCells 66)) (.cells #[I 4, .slice (some ⟨w.heap.size + 1, 0, none⟩) 4 4] 55)
  rw [World.size_alloc, World.size_alloc] at h
  rw [cell_of_row _ _ 1 _ _ (0, 0) h]; rfl
 roads := by
  have h : ((w.alloc (.cells #[I 4, .slice (some ⟨w.heap.size + 1, 0, none⟩) 4 4] 55)).alloc (.cells exCells 66)).heap[w.heap.size + 1]? = some (.cells exCells 66) := heap_alloc2_new w _ _
  exact roads_block (l := exL) (by rw [Below.heap_alloc _ _ _ (by simp)]; exact h) (by simp [exL]) (by unfold maxLen; simp [exL]) (by rfl)
 ge := by omega
 lt := by simp
 below := belowA (belowA (belowA (Below.refl _ _) (Nat.le_refl _)) (Nat.le_refl _)) (Nat.le_refl _)
end Go.Proofs.Ytbnbpfjfkedbaaa.Rn
