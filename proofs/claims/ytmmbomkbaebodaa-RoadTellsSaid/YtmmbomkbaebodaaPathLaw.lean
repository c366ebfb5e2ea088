/-
  The first one of the shortest ways: plain mathematics.
-/
import Derived.Test.YtmmbomkbaebodaaTimes
namespace Go.Proofs.Ytmmbomkbaebodaa
set_option linter.unusedVariables false
set_option linter.unusedSimpArgs false
open Go.RowKit

/-- The times to node b. -/
noncomputable def lef (l : List Rd) (ki : Int) (b : Nat) : Nat → Option Nat := dst (edges ki true l) b

/-- Road i is on a shortest way from at to b. -/
def OkR (l : List Rd) (ki : Int) (b at' i : Nat) : Prop := ∃ x, l[i]? = some x ∧ x.fr = (at' : Int) ∧ carB x.li ki = true ∧ ∃ u, lef l ki b x.to.toNat = some u ∧ lef l ki b at' = some (u + x.mi.toNat)

inductive PathR (l : List Rd) (ki : Int) (b : Nat) : Nat → List Nat → Prop
  | nil : PathR l ki b b []
  | cons {at' i : Nat} {x : Rd} {p : List Nat} : at' ≠ b → OkR l ki b at' i → (∀ i', i' < i → ¬ OkR l ki b at' i') → l[i]? = some x → PathR l ki b x.to.toNat p → PathR l ki b at' (i :: p)

theorem PathR.det {l : List Rd} {ki : Int} {b at' : Nat} {p q : List Nat} (h : PathR l ki b at' p) (k : PathR l ki b at' q) : p = q := by
  induction h generalizing q with
  | nil =>
    cases k with
    | nil => rfl
    | cons h => exact absurd rfl h
  | cons hne hok hmin hx hp ih =>
    cases k with
    | nil => exact absurd rfl hne
    | cons hne' hok' hmin' hx' hp' =>
      rename_i i x p i' x' p'
      have e : i = i' := by
        rcases Nat.lt_trichotomy i i' with h | h | h
        · exact absurd hok (hmin' _ h)
        · exact h
        · exact absurd hok' (hmin _ h)
      subst e
      rw [hx] at hx'
      simp only [Option.some.injEq] at hx'
      subst hx'
      rw [ih hp']

theorem least_index (P : Nat → Prop) (h : ∃ t, P t) : ∃ m, P m ∧ ∀ t, t < m → ¬ P t := by
  obtain ⟨m, hm, hl⟩ := exists_least P h
  exact ⟨m, hm, fun t ht hp => by have := hl t hp; omega⟩

theorem path_exists {n : Nat} {l : List Rd} (hG : Good n l) (ki : Int) (b : Nat) : ∀ (d at' : Nat), lef l ki b at' = some d → ∃ p, PathR l ki b at' p ∧ p.length ≤ sooner (edges ki true l) n b d := by
  intro d
  induction d using Nat.strongRecOn with
  | ind d ih =>
    intro at' hd
    by_cases hb : at' = b
    · subst hb; exact ⟨[], .nil, Nat.zero_le _⟩
    · rcases dst_last hd with ⟨h, _⟩ | ⟨e, he, hea, u, hu, hdu⟩
      · exact absurd h hb
      · obtain ⟨r, hr, hcar, rfl⟩ := mem_edges he
        have hrr := hG.road r hr
        simp only [if_true] at hea hu hdu
        obtain ⟨i, hi⟩ := List.getElem?_of_mem hr
        have hok : OkR l ki b at' i := ⟨r, hi, by omega, hcar, u, hu, by rw [hd, hdu]⟩
        obtain ⟨m, hm, hmin⟩ := least_index _ ⟨i, hok⟩
        obtain ⟨x, hx, hxf, hxc, u', hu', hd'⟩ := hm
        have hxr := hG.road x (List.mem_of_getElem? hx)
        rw [hd] at hd'
        simp only [Option.some.injEq] at hd'
        obtain ⟨p, hp, hpl⟩ := ih u' (by omega) x.to.toNat hu'
        refine ⟨m :: p, .cons hb ⟨x, hx, hxf, hxc, u', hu', by rw [hd, hd']⟩ hmin hx hp, ?_⟩
        have h1 := sooner_lt (n := n) (t := d) (show x.to.toNat < n by omega) hu' (by omega)
        simp only [List.length_cons]
        omega

noncomputable def pathP (l : List Rd) (ki : Int) (b at' : Nat) : List Nat := by
  classical
  exact if h : ∃ p, PathR l ki b at' p then Classical.choose h else []
theorem pathP_eq {l : List Rd} {ki : Int} {b at' : Nat} {p : List Nat} (h : PathR l ki b at' p) : pathP l ki b at' = p := by
  unfold pathP
  rw [dif_pos ⟨p, h⟩]
  exact (Classical.choose_spec (p := fun p => PathR l ki b at' p) ⟨p, h⟩).det h

/-- What Path returns. -/
noncomputable def pathL (n : Int) (l : List Rd) (a b ki : Int) : Option (List Int) :=
  if chkNet n l = 0 ∧ (0 ≤ a ∧ a < n) ∧ (0 ≤ b ∧ b < n) then
    match lef l ki b.toNat a.toNat with
    | some _ => some ((pathP l ki b.toNat a.toNat).map fun i : Nat => (i : Int))
    | none => none
  else none

theorem pathL_bad {n a b ki : Int} {l : List Rd} (h : ¬ (chkNet n l = 0 ∧ (0 ≤ a ∧ a < n) ∧ (0 ≤ b ∧ b < n))) : pathL n l a b ki = none := by
  unfold pathL; rw [if_neg h]
theorem pathL_none {N S D : Nat} {ki : Int} {l : List Rd} (hc : chkNet N l = 0) (ha : S < N) (hb : D < N) (h : lef l ki D S = none) : pathL N l S D ki = none := by
  unfold pathL
  rw [if_pos ⟨hc, by omega, by omega⟩]
  simp [h]
theorem pathL_some {N S D d : Nat} {ki : Int} {l : List Rd} (hc : chkNet N l = 0) (ha : S < N) (hb : D < N) (h : lef l ki D S = some d) : pathL N l S D ki = some ((pathP l ki D S).map fun i : Nat => (i : Int)) := by
  unfold pathL
  rw [if_pos ⟨hc, by omega, by omega⟩]
  simp [h]

/-- The result of a Path. -/
def RetPath (w : World) (o : Option (List Int)) (e : Ending) (w' : World) : Prop := ∃ v, e = .returned (.tuple #[v, .bool o.isSome]) ∧ IntsAt w' v (o.getD []) ∧ Below w.heap.size w w'

/-- An owned row of ints reads as its list. -/
theorem owns_ints {w : World} {v : Value} {p : List Int} (h : w.ownsRow 0 3 1 v p.length (p.map I)) : IntsAt w v p := by
  rcases h.2 with ⟨rfl, h0⟩ | ⟨g, cap, cur, rfl, _, hg, hc, hm, hs, ht⟩
  · have : p = [] := List.eq_nil_of_length_eq_zero h0
    subst this; exact ints_nil w
  · refine ⟨_, cap, rfl, hc, hm, .inr ⟨g, 0, rfl, (Array.getElem?_eq_some_iff.1 hg).1, fun i x hi => ⟨[I x], rfl, rfl, fun j u hj => ?_⟩⟩⟩
    cases j with
    | zero =>
      simp only [List.getElem?_cons_zero, Option.some.injEq] at hj
      subst hj
      have hlt := (List.getElem?_eq_some_iff.1 hi).1
      have := World.ownsRow.cellAt h i (by omega)
      rw [List.getElem?_map, hi] at this
      simpa using this
    | succ j => simp at hj

end Go.Proofs.Ytmmbomkbaebodaa
