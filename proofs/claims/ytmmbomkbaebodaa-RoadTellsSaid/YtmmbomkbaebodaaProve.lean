/-
  What the checkers of times look at: plain mathematics.
-/
import Derived.Test.YtmmbomkbaebodaaTimes
namespace Go.Proofs.Ytmmbomkbaebodaa
set_option linter.unusedVariables false
set_option linter.unusedSimpArgs false
open Go.RowKit

/-- The times T as a list. -/
def tl (n : Nat) (T : Nat → Option Nat) : List Int := (List.range n).map fun v => encT (T v)
theorem tl_length (n : Nat) (T : Nat → Option Nat) : (tl n T).length = n := by simp [tl]
theorem tl_get {n : Nat} {T : Nat → Option Nat} {v : Nat} (hv : v < n) : (tl n T)[v]? = some (encT (T v)) := by simp [tl, hv]
theorem tl_eq {n : Nat} {T T' : Nat → Option Nat} (h : tl n T = tl n T') {v : Nat} (hv : v < n) : T v = T' v := by
  have h1 := tl_get (T := T) hv
  rw [h, tl_get hv] at h1
  exact (encT_inj (Option.some.inj h1)).symm

/-- A list that holds None and times up to a bound only. -/
def okT (x : Int) : Prop := x = -1 ∨ (0 ≤ x ∧ x ≤ 100000000)
theorem tl_of {ts : List Int} (h : ∀ x ∈ ts, okT x) : ∃ T, ts = tl ts.length T ∧ ∀ v t, T v = some t → t ≤ 100000000 := by
  refine ⟨fun v => match ts[v]? with | some x => if x = -1 then none else some x.toNat | none => none, ?_, fun v t hv => ?_⟩
  · apply List.ext_getElem?
    intro i
    by_cases hi : i < ts.length
    · rw [tl_get hi, List.getElem?_eq_getElem hi]
      have := h ts[i] (List.getElem_mem hi)
      congr 1
      by_cases hm : ts[i] = -1
      · simp [hm, encT]
      · simp only [hm, if_false, encT]
        rcases this with h | h
        · exact absurd h hm
        · omega
    · rw [List.getElem?_eq_none (by omega), List.getElem?_eq_none (by rw [tl_length]; omega)]
  · simp only at hv
    split at hv
    · rename_i x hx
      split at hv
      · cases hv
      · simp only [Option.some.injEq] at hv
        rcases h x (List.mem_of_getElem? hx) with h | h
        · contradiction
        · omega
    · cases hv

theorem dlist_ok {E : List Ed} {n s : Nat} (hp : Posi E) (hin : In E n) (hM : ∀ e ∈ E, e.m ≤ 1000000) (hn : n ≤ 100) : ∀ x ∈ dlist E n s, okT x := by
  intro x hx
  simp only [dlist, List.mem_map] at hx
  obtain ⟨v, _, rfl⟩ := hx
  cases h : dst E s v with
  | none => left; rfl
  | some d =>
    right
    have := dst_bound hp hin hM h
    have := Nat.mul_le_mul_right 1000000 hn
    simp [encT]
    omega

/-- Node v has a road by which its time is founded. -/
def Fnd (F : List Ed) (s : Nat) (T : Nat → Option Nat) (v : Nat) : Prop := (v = s ∧ T s = some 0) ∨ ∃ e ∈ F, e.b = v ∧ v ≠ s ∧ ∃ u, T e.a = some u ∧ T v = some (u + e.m)

theorem not_edge {E : List Ed} {n s : Nat} {T : Nat → Option Nat} (hin : In E n) {e : Ed} (he : e ∈ E) {u : Nat} (hu : T e.a = some u) (h : ∀ t, T e.b = some t → u + e.m < t) : tl n T ≠ dlist E n s := by
  intro hq
  have ha := tl_eq (T' := dst E s) hq (hin e he).1
  have hb := tl_eq (T' := dst E s) hq (hin e he).2
  obtain ⟨t', ht', hle⟩ := dst_edge he (ha ▸ hu)
  have := h t' (hb.trans ht')
  omega

theorem not_found {E : List Ed} {n s : Nat} {T : Nat → Option Nat} (hs : s < n) (hin : In E n) {v t : Nat} (hv : v < n) (ht : T v = some t) (h : ¬ Fnd E s T v) : tl n T ≠ dlist E n s := by
  intro hq
  have hT : ∀ x, x < n → T x = dst E s x := fun x hx => tl_eq (T' := dst E s) hq hx
  apply h
  by_cases hvs : v = s
  · left; exact ⟨hvs, by rw [hT s hs]; exact dst_self E s⟩
  · right
    rw [hT v hv] at ht
    rcases dst_last ht with ⟨h1, _⟩ | ⟨e, he, rfl, u, hu, rfl⟩
    · contradiction
    · exact ⟨e, he, rfl, hvs, u, by rw [hT _ (hin e he).1]; exact hu, by rw [hT _ hv]; exact ht⟩

theorem not_zero {E : List Ed} {n s : Nat} {T : Nat → Option Nat} (hs : s < n) (h : T s ≠ some 0) : tl n T ≠ dlist E n s := by
  intro hq
  exact h ((tl_eq (T' := dst E s) hq hs).trans (dst_self E s))

theorem is_dlist {E : List Ed} {n s : Nat} {T : Nat → Option Nat} (hp : Posi E) (hin : In E n) (h0 : T s = some 0) (hb : ∀ e ∈ E, ∀ t, T e.a = some t → ∃ t', T e.b = some t' ∧ t' ≤ t + e.m)
    (hf : ∀ v t, v < n → T v = some t → v = s ∨ ∃ e ∈ E, e.b = v ∧ ∃ u, T e.a = some u ∧ t = u + e.m) : tl n T = dlist E n s := by
  have c : Cert E n s T := ⟨h0, hb, fun v hv t ht => hf v t hv ht⟩
  unfold tl dlist
  apply List.map_congr_left
  intro v hv
  rw [c.eq hp hin (List.mem_range.1 hv)]

theorem fnd_last {E : List Ed} {s v t : Nat} {T : Nat → Option Nat} (h : Fnd E s T v) (ht : T v = some t) : v = s ∨ ∃ e ∈ E, e.b = v ∧ ∃ u, T e.a = some u ∧ t = u + e.m := by
  rcases h with ⟨h, _⟩ | ⟨e, he, hb, _, u, hu, hv⟩
  · exact .inl h
  · exact .inr ⟨e, he, hb, u, hu, Option.some.inj (ht.symm.trans hv)⟩

/-- What Proves returns. -/
noncomputable def provesL (n : Int) (l : List Rd) (s ki : Int) (ts : List Int) : Bool := by
  classical
  exact decide (chkNet n l = 0 ∧ 0 ≤ s ∧ s < n ∧ ts = timesL n l s ki)

theorem proves_bad {n s ki : Int} {l : List Rd} {ts : List Int} (h : ¬ (chkNet n l = 0 ∧ 0 ≤ s ∧ s < n ∧ (ts.length : Int) = n)) : false = provesL n l s ki ts := by
  unfold provesL
  symm
  rw [decide_eq_false_iff_not]
  rintro ⟨h1, h2, h3, rfl⟩
  apply h
  obtain ⟨h0, _⟩ := chkNet_zero h1
  refine ⟨h1, h2, h3, ?_⟩
  unfold timesL
  rw [if_pos ⟨h1, h2, h3⟩, dlist_length]
  omega
theorem proves_no {N S : Nat} {ki : Int} {l : List Rd} {ts : List Int} (hc : chkNet N l = 0) (hS : S < N) (h : ts ≠ dlist (edges ki false l) N S) : false = provesL N l S ki ts := by
  unfold provesL
  symm
  rw [decide_eq_false_iff_not, timesL_good hc hS]
  exact fun x => h x.2.2.2
theorem proves_yes {N S : Nat} {ki : Int} {l : List Rd} {ts : List Int} (hc : chkNet N l = 0) (hS : S < N) (h : ts = dlist (edges ki false l) N S) : true = provesL N l S ki ts := by
  unfold provesL
  symm
  rw [decide_eq_true_iff, timesL_good hc hS]
  exact ⟨hc, by omega, by omega, h⟩

end Go.Proofs.Ytmmbomkbaebodaa
