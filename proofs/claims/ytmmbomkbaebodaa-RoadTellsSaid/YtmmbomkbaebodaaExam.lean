/-
  The network of the examples: its times and its paths, by certificates that are looked at by evaluation.
-/
import Derived.Test.YtmmbomkbaebodaaProve
import Derived.Test.YtmmbomkbaebodaaPathLaw
namespace Go.Proofs.Ytmmbomkbaebodaa
set_option linter.unusedVariables false
set_option linter.unusedSimpArgs false
open Go.RowKit

def certB (E : List Ed) (n s : Nat) (T : List (Option Nat)) : Bool :=
  T.getD s none == some 0
    && E.all (fun e => match T.getD e.a none with | none => true | some t => match T.getD e.b none with | none => false | some t' => decide (t' ≤ t + e.m))
    && (List.range n).all (fun v => match T.getD v none with | none => true | some t => v == s || E.any (fun e => e.b == v && match T.getD e.a none with | none => false | some u => t == u + e.m))

theorem certB_cert {E : List Ed} {n s : Nat} {T : List (Option Nat)} (h : certB E n s T = true) : Cert E n s (fun v => T.getD v none) := by
  simp only [certB, Bool.and_eq_true, List.all_eq_true, List.mem_range, beq_iff_eq] at h
  obtain ⟨⟨h1, h2⟩, h3⟩ := h
  refine ⟨h1, fun e he t ht => ?_, fun v hv t ht => ?_⟩
  · have := h2 e he
    rw [ht] at this
    cases hb : T.getD e.b none with
    | none => rw [hb] at this; simp at this
    | some t' => rw [hb] at this; exact ⟨t', rfl, by simpa using this⟩
  · have := h3 v hv
    rw [ht] at this
    simp only [Bool.or_eq_true, beq_iff_eq, List.any_eq_true, Bool.and_eq_true] at this
    rcases this with h | ⟨e, he, hb, hm⟩
    · exact .inl h
    · refine .inr ⟨e, he, hb, ?_⟩
      cases ha : T.getD e.a none with
      | none => rw [ha] at hm; simp at hm
      | some u => rw [ha] at hm; exact ⟨u, rfl, by simpa using hm⟩

def okB (T : List (Option Nat)) (l : List Rd) (ki : Int) (at' i : Nat) : Bool :=
  match l[i]? with
  | none => false
  | some x => x.fr == (at' : Int) && carB x.li ki && match T.getD x.to.toNat none with | none => false | some u => T.getD at' none == some (u + x.mi.toNat)

def pathB (T : List (Option Nat)) (l : List Rd) (ki : Int) (b : Nat) : Nat → List Nat → Bool
  | at', [] => at' == b
  | at', i :: p => at' != b && okB T l ki at' i && (List.range i).all (fun j => !okB T l ki at' j) && match l[i]? with | none => false | some x => decide (x.to.toNat < T.length) && pathB T l ki b x.to.toNat p

theorem okB_iff {T : List (Option Nat)} {l : List Rd} {ki : Int} {b at' i n : Nat} (hT : ∀ v, v < n → lef l ki b v = T.getD v none) (hto : ∀ x ∈ l, x.to.toNat < n) (hat : at' < n) : okB T l ki at' i = true ↔ OkR l ki b at' i := by
  unfold okB OkR
  cases h : l[i]? with
  | none => simp
  | some x =>
    have hx := hto x (List.mem_of_getElem? h)
    dsimp only
    rw [← hT _ hx, ← hT _ hat]
    simp only [Bool.and_eq_true, beq_iff_eq, Option.some.injEq]
    constructor
    · rintro ⟨⟨h1, h2⟩, h3⟩
      cases hl : lef l ki b x.to.toNat with
      | none => rw [hl] at h3; simp at h3
      | some u => rw [hl] at h3; exact ⟨x, rfl, h1, h2, u, hl, by simpa using h3⟩
    · rintro ⟨y, rfl, h1, h2, u, hl, h3⟩
      refine ⟨⟨h1, h2⟩, ?_⟩
      rw [hl]
      simpa using h3

theorem pathB_path {T : List (Option Nat)} {l : List Rd} {ki : Int} {b n : Nat} (hT : ∀ v, v < n → lef l ki b v = T.getD v none) (hto : ∀ x ∈ l, x.to.toNat < n) : ∀ (p : List Nat) (at' : Nat), at' < n → pathB T l ki b at' p = true → PathR l ki b at' p := by
  intro p
  induction p with
  | nil => intro at' _ h; simp only [pathB, beq_iff_eq] at h; subst h; exact .nil
  | cons i p ih =>
    intro at' hat h
    simp only [pathB, Bool.and_eq_true, bne_iff_ne, List.all_eq_true, List.mem_range, Bool.not_eq_true'] at h
    obtain ⟨⟨⟨h1, h2⟩, h3⟩, h4⟩ := h
    cases hx : l[i]? with
    | none => rw [hx] at h4; simp at h4
    | some x =>
      rw [hx] at h4
      simp only [Bool.and_eq_true] at h4
      exact .cons h1 ((okB_iff hT hto hat).1 h2) (fun j hj hk => by rw [← okB_iff hT hto hat, h3 j hj] at hk; cases hk) hx (ih _ (hto x (List.mem_of_getElem? hx)) h4.2)

theorem dlist_cert {E : List Ed} {n s : Nat} {T : List (Option Nat)} (hp : Posi E) (hin : In E n) (h : certB E n s T = true) : ∀ v, v < n → dst E s v = T.getD v none := fun v hv => (((certB_cert h).eq hp hin hv)).symm

/-- The network of the examples. -/
def exL : List Rd := [⟨0, 1, 5, -1⟩, ⟨1, 2, 5, 10000⟩, ⟨0, 2, 20, -1⟩, ⟨2, 0, 3, -1⟩]
theorem exL_chk : chkNet ((4 : Nat) : Int) exL = 0 := by decide
theorem exL_good : Good 4 exL := good_of exL_chk

theorem ex_times (ki : Int) (T : List (Option Nat)) (h : certB (edges ki false exL) 4 0 T = true) : timesL 4 exL 0 ki = (List.range 4).map fun v => encT (T.getD v none) := by
  refine (timesL_good (N := 4) (S := 0) exL_chk (by omega)).trans ?_
  unfold dlist
  apply List.map_congr_left
  intro v hv
  rw [dlist_cert (exL_good.posi ki false) (exL_good.inn ki false) h v (by simpa using hv)]
theorem ex_path (ki : Int) (a b : Nat) (ha : a < 4) (hb : b < 4) (T : List (Option Nat)) (p : List Nat) (h : certB (edges ki true exL) 4 b T = true) (hp : pathB T exL ki b a p = true) (hs : (T.getD a none).isSome = true) : pathL 4 exL a b ki = some (p.map fun i : Nat => (i : Int)) := by
  have hT := dlist_cert (exL_good.posi ki true) (exL_good.inn ki true) h
  obtain ⟨d, hd⟩ := Option.isSome_iff_exists.1 hs
  have hl : lef exL ki b a = some d := (hT a ha).trans hd
  refine (pathL_some (N := 4) exL_chk ha hb hl).trans ?_
  rw [pathP_eq (pathB_path (n := 4) hT (by decide) p a ha hp)]
theorem ex_nopath (ki : Int) (a b : Nat) (ha : a < 4) (hb : b < 4) (T : List (Option Nat)) (h : certB (edges ki true exL) 4 b T = true) (hs : T.getD a none = none) : pathL 4 exL a b ki = none := by
  have hT := dlist_cert (exL_good.posi ki true) (exL_good.inn ki true) h
  exact pathL_none (N := 4) exL_chk ha hb ((hT a ha).trans hs)

theorem ex1 : timesL 4 exL 0 10000 = [0, 5, 10, -1] := ex_times 10000 [some 0, some 5, some 10, none] (by decide)
theorem ex2 : timesL 4 exL 0 10001 = [0, 5, 20, -1] := ex_times 10001 [some 0, some 5, some 20, none] (by decide)
theorem ex3 : pathL 4 exL 0 2 10000 = some [0, 1] := ex_path 10000 0 2 (by omega) (by omega) [some 10, some 5, some 0, none] [0, 1] (by decide) (by decide) rfl
theorem ex4 : pathL 4 exL 0 2 10001 = some [2] := ex_path 10001 0 2 (by omega) (by omega) [some 20, none, some 0, none] [2] (by decide) (by decide) rfl
theorem ex5 : pathL 4 exL 1 0 10000 = some [1, 3] := ex_path 10000 1 0 (by omega) (by omega) [some 0, some 8, some 3, none] [1, 3] (by decide) (by decide) rfl
theorem ex6 : pathL 4 exL 1 0 10001 = none := ex_nopath 10001 1 0 (by omega) (by omega) [some 0, none, some 3, none] (by decide) rfl
theorem ex7 : provesL 4 exL 0 10000 [0, 5, 10, -1] = true := (proves_yes (N := 4) (S := 0) exL_chk (by omega) (by rw [← timesL_good (N := 4) (S := 0) exL_chk (by omega)]; exact ex1.symm)).symm
theorem ex8 : provesL 4 exL 0 10000 [0, 5, 9, -1] = false := (proves_no (N := 4) (S := 0) exL_chk (by omega) (by rw [← timesL_good (N := 4) (S := 0) exL_chk (by omega)]; intro h; exact absurd (h.trans ex1) (by decide))).symm
theorem ex9 : provesL 4 exL 0 10000 [0, 5, 10, 30] = false := (proves_no (N := 4) (S := 0) exL_chk (by omega) (by rw [← timesL_good (N := 4) (S := 0) exL_chk (by omega)]; intro h; exact absurd (h.trans ex1) (by decide))).symm
theorem ex10 : chkNet 101 [] = 1 := by decide
end Go.Proofs.Ytmmbomkbaebodaa
