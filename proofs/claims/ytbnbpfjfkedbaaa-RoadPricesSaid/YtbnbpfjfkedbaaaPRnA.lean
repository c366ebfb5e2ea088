/-
  Networks: data, the plain functions that the checks compute, and how a network lies in memory.
-/
import Derived.Test.YtbnbpfjfkedbaaaPLib
import Derived.Test.YtbnbpfjfkedbaaaRows
import Derived.BigRegion
import Derived.Deep.RegionHeld3
import Derived.Deep.AppendLies
import Derived.WalkSpells
import Derived.Outline
import Derived.Deep.RegionLaw
namespace Go.Proofs.Ytbnbpfjfkedbaaa.Rn
set_option linter.unusedVariables false
set_option linter.unusedSimpArgs false
set_option linter.unusedSectionVars false
set_option maxRecDepth 100000
open Go.RowKit
structure Rd where
 fr : Int
 to : Int
 mi : Int
 li : Int
 deriving DecidableEq
def RRoad (_ : World) (cs : List Value) (r : Rd) : Prop := cs = [I r.fr, I r.to, I r.mi, I r.li]
theorem RRoad.mono : MonoR RRoad := fun _ _ _ _ _ h => h
abbrev RoadsAt (w : World) (v : Value) (l : List Rd) : Prop := SliceR RRoad 4 w v l
theorem RoadsAt.get4 {w : World} {a : Option Addr} {n cap : Nat} {l : List Rd} (h : RoadsAt w (.slice a n cap) l) {i : Nat} (hi : i < l.length) :
    ∃ b off x, a = some ⟨b, off, none⟩ ∧ b < w.heap.size ∧ Hid (l[i]? = some x) ∧ w.cell? ⟨b, off + i * 4, none⟩ = some (I x.fr) ∧ w.cell? ⟨b, off + i * 4 + 1, none⟩ = some (I x.to)
     ∧ w.cell? ⟨b, off + i * 4 + 2, none⟩ = some (I x.mi) ∧ w.cell? ⟨b, off + i * 4 + 3, none⟩ = some (I x.li) := by
 obtain ⟨b, off, x, cs, ha, hb, hx, hr, hs, hj⟩ := SliceR.get h hi
 exact ⟨b, off, x, ha, hb, hx, by simpa using hj 0 (I x.fr) (by rw [hr]; rfl), hj 1 (I x.to) (by rw [hr]; rfl), hj 2 (I x.mi) (by rw [hr]; rfl), hj 3 (I x.li) (by rw [hr]; rfl)⟩
def inB (n lo hi : Int) : Bool := decide (lo ≤ n) && decide (n ≤ hi)
theorem inB_iff {n lo hi : Int} : inB n lo hi = true ↔ lo ≤ n ∧ n ≤ hi := by simp [inB]
theorem inB_not {n lo hi : Int} : inB n lo hi = false ↔ n < lo ∨ hi < n := by
 rw [← Bool.not_eq_true, inB_iff]; omega
def chkRoad (n : Int) (r : Rd) : Int :=
 if (!inB r.fr 0 (n - 1)) || (!inB r.to 0 (n - 1)) || r.fr == r.to then 1
 else if (!inB r.mi 1 1000000) || (r.li != -1 && !inB r.li 1 1000000) then 3 else 0
def chkRoads (n : Int) : List Rd → Int
 | [] => 0
 | r :: l => if chkRoad n r = 0 then chkRoads n l else chkRoad n r
def chkNet (n : Int) (l : List Rd) : Int := if inB n 0 100 = false then 1 else if 600 < l.length then 6 else chkRoads n l
theorem chkRoads_drop (n : Int) (l : List Rd) (j : Nat) (r : Rd) (h : l[j]? = some r) : chkRoads n (l.drop j) = if chkRoad n r = 0 then chkRoads n (l.drop (j + 1)) else chkRoad n r := by
 obtain ⟨hj, hr⟩ := List.getElem?_eq_some_iff.1 h
 rw [List.drop_eq_getElem_cons hj, hr]
 rfl
theorem chkRoads_end (n : Int) (l : List Rd) : chkRoads n (l.drop l.length) = 0 := by rw [List.drop_length]; rfl
theorem chk_bad {n : Int} {l : List Rd} {j : Nat} {r : Rd} (hd : chkRoads n (l.drop j) = chkRoads n l) (hx : l[j]? = some r) (h : chkRoad n r ≠ 0) : chkRoads n l = chkRoad n r := by
 rw [← hd, chkRoads_drop n l j r hx, if_neg h]
theorem chk_good {n : Int} {l : List Rd} {j : Nat} {r : Rd} (hd : chkRoads n (l.drop j) = chkRoads n l) (hx : l[j]? = some r) (h : chkRoad n r = 0) : chkRoads n (l.drop (j + 1)) = chkRoads n l := by
 rw [← hd, chkRoads_drop n l j r hx, if_pos h]
theorem chkNet_in {n : Int} {l : List Rd} (h : inB n 0 100 = true) (hl : l.length ≤ 600) : chkNet n l = chkRoads n l := by
 unfold chkNet; rw [if_neg (by simp [h]), if_neg (by omega)]
theorem chk_ret {n v : Int} {l : List Rd} {j : Nat} {r : Rd} (hin : inB n 0 100 = true) (hlen : (l.length : Int) ≤ 600) (hd : chkRoads n (l.drop j) = chkRoads n l) (hx : l[j]? = some r) (h : chkRoad n r = v) (hv : v ≠ 0) : v = chkNet n l := by
 rw [chkNet_in hin (by omega), chk_bad hd hx (by rw [h]; exact hv), h]
def carB (li kilos : Int) : Bool := decide (li = -1) || decide (kilos ≤ li)
theorem same_step {a b : List Int} {j : Nat} {x y : Int} (hx : a[j]? = some x) (hy : b[j]? = some y) (hp : a.take j = b.take j) : a.take (j + 1) = b.take (j + 1) ↔ x = y := by
 rw [List.take_add_one, List.take_add_one, hx, hy, hp]
 simp
theorem same_end {a b : List Int} (hl : a.length = b.length) (hp : a.take a.length = b.take a.length) : a = b := by
 rw [List.take_length] at hp
 rw [hp, hl, List.take_length]
structure Ed where
 a : Nat
 b : Nat
 m : Nat
 deriving DecidableEq
inductive Way (E : List Ed) (s : Nat) : Nat → Nat → Prop
 | nil : Way E s s 0
 | snoc {t : Nat} (e : Ed) : e ∈ E → Way E s e.a t → Way E s e.b (t + e.m)
theorem exists_least (P : Nat → Prop) (h : ∃ t, P t) : ∃ m, P m ∧ ∀ t, P t → m ≤ t := by
 obtain ⟨t, ht⟩ := h
 induction t using Nat.strongRecOn with
 | ind t ih =>
   by_cases hs : ∃ u, u < t ∧ P u
   · obtain ⟨u, hu, hp⟩ := hs; exact ih u hu hp
   · exact ⟨t, ht, fun u hu => Nat.le_of_not_lt fun hlt => hs ⟨u, hlt, hu⟩⟩
def IsDst (E : List Ed) (s v : Nat) : Option Nat → Prop
 | none => ∀ t, ¬ Way E s v t
 | some d => Way E s v d ∧ ∀ t, Way E s v t → d ≤ t
theorem dst_exists (E : List Ed) (s v : Nat) : ∃ d, IsDst E s v d := by
 by_cases h : ∃ t, Way E s v t
 · obtain ⟨m, h1, h2⟩ := exists_least _ h
   exact ⟨some m, h1, h2⟩
 · exact ⟨none, fun t ht => h ⟨t, ht⟩⟩
noncomputable def dst (E : List Ed) (s v : Nat) : Option Nat := Classical.choose (dst_exists E s v)
theorem dst_spec (E : List Ed) (s v : Nat) : IsDst E s v (dst E s v) := Classical.choose_spec (dst_exists E s v)
theorem IsDst.unique {E : List Ed} {s v : Nat} {d d' : Option Nat} (h : IsDst E s v d) (h' : IsDst E s v d') : d = d' := by
 cases d with
 | none =>
   cases d' with
   | none => rfl
   | some x => exact absurd h'.1 (h x)
 | some x =>
   cases d' with
   | none => exact absurd h.1 (h' x)
   | some y => have := h.2 y h'.1; have := h'.2 x h.1; congr 1; omega
theorem IsDst.eq {E : List Ed} {s v : Nat} {d : Option Nat} (h : IsDst E s v d) : dst E s v = d := (dst_spec E s v).unique h
theorem dst_way {E : List Ed} {s v d : Nat} (h : dst E s v = some d) : Way E s v d := by have := dst_spec E s v; rw [h] at this; exact this.1
theorem dst_le {E : List Ed} {s v d t : Nat} (h : dst E s v = some d) (w : Way E s v t) : d ≤ t := by have := dst_spec E s v; rw [h] at this; exact this.2 t w
theorem dst_none {E : List Ed} {s v : Nat} (h : dst E s v = none) (t : Nat) : ¬ Way E s v t := by have := dst_spec E s v; rw [h] at this; exact this t
theorem dst_of_way {E : List Ed} {s v t : Nat} (w : Way E s v t) : ∃ d, dst E s v = some d ∧ d ≤ t := by
 cases h : dst E s v with
 | none => exact absurd w (dst_none h t)
 | some d => exact ⟨d, rfl, dst_le h w⟩
theorem dst_self (E : List Ed) (s : Nat) : dst E s s = some 0 := by
 obtain ⟨d, h, hd⟩ := dst_of_way (Way.nil (E := E) (s := s))
 rw [h]; congr 1; omega
theorem dst_edge {E : List Ed} {s : Nat} {e : Ed} (he : e ∈ E) {t : Nat} (h : dst E s e.a = some t) : ∃ t', dst E s e.b = some t' ∧ t' ≤ t + e.m :=
 dst_of_way (Way.snoc e he (dst_way h))
theorem dst_last {E : List Ed} {s v t : Nat} (h : dst E s v = some t) : (v = s ∧ t = 0) ∨ ∃ e ∈ E, e.b = v ∧ ∃ u, dst E s e.a = some u ∧ t = u + e.m := by
 have w := dst_way h
 cases w with
 | nil => exact .inl ⟨rfl, rfl⟩
 | snoc e he w' =>
   obtain ⟨u, hu, hle⟩ := dst_of_way w'
   obtain ⟨t', ht', hle'⟩ := dst_edge he hu
   rw [h] at ht'
   simp only [Option.some.injEq] at ht'
   exact .inr ⟨e, he, rfl, u, hu, by omega⟩
structure Cert (E : List Ed) (n s : Nat) (T : Nat → Option Nat) : Prop where
 zero : T s = some 0
 edge : ∀ e ∈ E, ∀ t, T e.a = some t → ∃ t', T e.b = some t' ∧ t' ≤ t + e.m
 last : ∀ v, v < n → ∀ t, T v = some t → v = s ∨ ∃ e ∈ E, e.b = v ∧ ∃ u, T e.a = some u ∧ t = u + e.m
def Posi (E : List Ed) : Prop := ∀ e ∈ E, 1 ≤ e.m
def In (E : List Ed) (n : Nat) : Prop := ∀ e ∈ E, e.a < n ∧ e.b < n
theorem Cert.below {E : List Ed} {n s : Nat} {T : Nat → Option Nat} (c : Cert E n s T) {v t : Nat} (w : Way E s v t) : ∃ t', T v = some t' ∧ t' ≤ t := by
 induction w with
 | nil => exact ⟨0, c.zero, Nat.le_refl _⟩
 | snoc e he _ ih =>
   obtain ⟨u, hu, hle⟩ := ih
   obtain ⟨t', ht', hle'⟩ := c.edge e he u hu
   exact ⟨t', ht', by omega⟩
theorem Cert.way {E : List Ed} {n s : Nat} {T : Nat → Option Nat} (c : Cert E n s T) (hp : Posi E) (hin : In E n) : ∀ (t v : Nat), v < n → T v = some t → Way E s v t := by
 intro t
 induction t using Nat.strongRecOn with
 | ind t ih =>
   intro v hv h
   rcases c.last v hv t h with rfl | ⟨e, he, rfl, u, hu, rfl⟩
   · rw [c.zero] at h; simp only [Option.some.injEq] at h; subst h; exact .nil
   · have := hp e he
     exact .snoc e he (ih u (by omega) e.a (hin e he).1 hu)
theorem Cert.eq {E : List Ed} {n s : Nat} {T : Nat → Option Nat} (c : Cert E n s T) (hp : Posi E) (hin : In E n) {v : Nat} (hv : v < n) : T v = dst E s v := by
 symm
 apply IsDst.eq
 cases h : T v with
 | none =>
   intro t w
   obtain ⟨t', h', _⟩ := c.below w
   rw [h] at h'; cases h'
 | some t =>
   refine ⟨c.way hp hin t v hv h, fun t' w => ?_⟩
   obtain ⟨t'', h', hle⟩ := c.below w
   rw [h] at h'; simp only [Option.some.injEq] at h'; omega
noncomputable def sooner (E : List Ed) (n s t : Nat) : Nat := (List.range n).countP fun u => match dst E s u with | some d => decide (d < t) | none => false
theorem sooner_le (E : List Ed) (n s t : Nat) : sooner E n s t ≤ n := by
 have := List.countP_le_length (p := fun u => match dst E s u with | some d => decide (d < t) | none => false) (l := List.range n)
 simpa [sooner] using this
theorem countP_lt {α : Type} {p q : α → Bool} {l : List α} (h : ∀ x ∈ l, p x = true → q x = true) {y : α} (hy : y ∈ l) (hq : q y = true) (hp : p y = false) : l.countP p < l.countP q := by
 induction l with
 | nil => cases hy
 | cons x r ih =>
   have hm : r.countP p ≤ r.countP q := List.countP_mono_left fun z hz => h z (List.mem_cons_of_mem _ hz)
   simp only [List.countP_cons]
   rcases List.mem_cons.1 hy with rfl | hy'
   · simp [hq, hp]; omega
   · have h1 := ih (fun z hz => h z (List.mem_cons_of_mem _ hz)) hy'
     have h2 := h x (List.mem_cons_self ..)
     by_cases hx : p x = true
     · simp [hx, h2 hx]; omega
     · simp [hx]; split <;> omega
theorem sooner_lt {E : List Ed} {n s u d t : Nat} (hu : u < n) (h : dst E s u = some d) (hdt : d < t) : sooner E n s d < sooner E n s t := by
 unfold sooner
 refine countP_lt (fun x _ hx => ?_) (List.mem_range.2 hu) ?_ ?_
 · revert hx; split
   · intro hx; simp only [decide_eq_true_eq] at hx ⊢; omega
   · intro hx; exact hx
 · rw [h]; simpa using hdt
 · rw [h]; simp
theorem dst_le_sooner {E : List Ed} {n s M : Nat} (hp : Posi E) (hin : In E n) (hM : ∀ e ∈ E, e.m ≤ M) : ∀ (t v : Nat), dst E s v = some t → t ≤ sooner E n s t * M := by
 intro t
 induction t using Nat.strongRecOn with
 | ind t ih =>
   intro v h
   rcases dst_last h with ⟨_, rfl⟩ | ⟨e, he, rfl, u, hu, rfl⟩
   · omega
   · have h1 := hp e he
     have h2 := ih u (by omega) e.a hu
     have h3 := sooner_lt (n := n) (t := u + e.m) (hin e he).1 hu (by omega)
     have h4 := hM e he
     have h5 := Nat.mul_le_mul_right M (show sooner E n s u + 1 ≤ sooner E n s (u + e.m) from h3)
     rw [Nat.add_mul] at h5
     omega
theorem dst_bound {E : List Ed} {n s M : Nat} (hp : Posi E) (hin : In E n) (hM : ∀ e ∈ E, e.m ≤ M) {t v : Nat} (h : dst E s v = some t) : t ≤ n * M := by
 have h1 := dst_le_sooner hp hin hM t v h
 have h2 := Nat.mul_le_mul_right M (sooner_le E n s t)
 omega
def encT : Option Nat → Int
 | none => -1
 | some d => d
theorem encT_inj {a b : Option Nat} (h : encT a = encT b) : a = b := by
 cases a <;> cases b <;> simp [encT] at h ⊢ <;> omega
noncomputable def dlist (E : List Ed) (n s : Nat) : List Int := (List.range n).map fun v => encT (dst E s v)
theorem dlist_length (E : List Ed) (n s : Nat) : (dlist E n s).length = n := by simp [dlist]
theorem dlist_get (E : List Ed) {n s v : Nat} (hv : v < n) : (dlist E n s)[v]? = some (encT (dst E s v)) := by simp [dlist, hv]
structure Sound (E : List Ed) (s : Nat) (T : Nat → Option Nat) : Prop where
 zero : T s = some 0
 way : ∀ v t, T v = some t → Way E s v t
def NotLater (T0 T : Nat → Option Nat) : Prop := ∀ v t, T0 v = some t → ∃ t', T v = some t' ∧ t' ≤ t
theorem NotLater.refl (T : Nat → Option Nat) : NotLater T T := fun _ t h => ⟨t, h, Nat.le_refl _⟩
theorem NotLater.trans {A B C : Nat → Option Nat} (h : NotLater A B) (k : NotLater B C) : NotLater A C := fun v t ht => by
 obtain ⟨t', h', hl⟩ := h v t ht
 obtain ⟨t'', h'', hl'⟩ := k v t' h'
 exact ⟨t'', h'', by omega⟩
def setT (T : Nat → Option Nat) (v t : Nat) : Nat → Option Nat := fun x => if x = v then some t else T x
structure Wave (E : List Ed) (s : Nat) (T : Nat → Option Nat) (H : List (Nat × Nat)) : Prop where
 right : ∀ v t, T v = some t → dst E s v = some t
 way : ∀ x ∈ H, Way E s x.2 x.1
 front : ∀ e ∈ E, ∀ t, T e.a = some t → T e.b ≠ none ∨ (t + e.m, e.b) ∈ H
 start : T s ≠ none ∨ (0, s) ∈ H
theorem Wave.ahead {E : List Ed} {s : Nat} {T : Nat → Option Nat} {H : List (Nat × Nat)} (h : Wave E s T H) {v t : Nat} (w : Way E s v t) (hv : T v = none) : ∃ x ∈ H, x.1 ≤ t := by
 induction w with
 | nil =>
   rcases h.start with h' | h'
   · exact absurd hv h'
   · exact ⟨_, h', Nat.le_refl _⟩
 | snoc e he w ih =>
   cases hu : T e.a with
   | none => obtain ⟨x, hx, hle⟩ := ih hu; exact ⟨x, hx, by omega⟩
   | some d =>
     have := dst_le (h.right _ _ hu) w
     rcases h.front e he d hu with h' | h'
     · exact absurd hv h'
     · exact ⟨_, h', by show d + e.m ≤ _; omega⟩
theorem Wave.least {E : List Ed} {s : Nat} {T : Nat → Option Nat} {H : List (Nat × Nat)} (h : Wave E s T H) {t v : Nat} (hm : (t, v) ∈ H) (hmin : ∀ x ∈ H, t ≤ x.1) (hv : T v = none) : dst E s v = some t := by
 apply IsDst.eq
 refine ⟨h.way _ hm, fun t' w => ?_⟩
 obtain ⟨x, hx, hle⟩ := h.ahead w hv
 have := hmin x hx
 omega
theorem Wave.last {E : List Ed} {s : Nat} {T : Nat → Option Nat} (h : Wave E s T []) (v : Nat) : T v = dst E s v := by
 cases hT : T v with
 | some t => exact (h.right _ _ hT).symm
 | none =>
   symm; apply IsDst.eq
   intro t w
   obtain ⟨x, hx, _⟩ := h.ahead w hT
   cases hx
theorem Wave.skip {E : List Ed} {s : Nat} {T : Nat → Option Nat} {H H' : List (Nat × Nat)} (h : Wave E s T H) {t v : Nat} (hmem : ∀ x, x ∈ H ↔ x = (t, v) ∨ x ∈ H') (hv : T v ≠ none) : Wave E s T H' where
 right := h.right
 way := fun x hx => h.way x ((hmem x).2 (.inr hx))
 front := fun e he u hu => by
  rcases h.front e he u hu with h' | h'
  · exact .inl h'
  · rcases (hmem _).1 h' with h'' | h''
    · simp only [Prod.mk.injEq] at h''; rw [h''.2]; exact .inl hv
    · exact .inr h''
 start := by
  rcases h.start with h' | h'
  · exact .inl h'
  · rcases (hmem _).1 h' with h'' | h''
    · simp only [Prod.mk.injEq] at h''; rw [h''.2]; exact .inl hv
    · exact .inr h''
theorem Wave.step {E : List Ed} {s : Nat} {T : Nat → Option Nat} {H H' H'' : List (Nat × Nat)} (h : Wave E s T H) {t v : Nat} (hmem : ∀ x, x ∈ H ↔ x = (t, v) ∨ x ∈ H') (hmin : ∀ x ∈ H, t ≤ x.1) (hv : T v = none)
    (hnew : ∀ x, x ∈ H'' ↔ x ∈ H' ∨ ∃ e ∈ E, e.a = v ∧ x = (t + e.m, e.b)) : Wave E s (setT T v t) H'' := by
 have hd := h.least ((hmem _).2 (.inl rfl)) hmin hv
 refine ⟨fun x u hx => ?_, fun x hx => ?_, fun e he u hu => ?_, ?_⟩
 · unfold setT at hx
   split at hx
   · rename_i hxv; subst hxv; simp only [Option.some.injEq] at hx; subst hx; exact hd
   · exact h.right _ _ hx
 · rcases (hnew x).1 hx with h' | ⟨e, he, rfl, rfl⟩
   · exact h.way x ((hmem x).2 (.inr h'))
   · exact .snoc e he (h.way _ ((hmem _).2 (.inl rfl)))
 · unfold setT at hu ⊢
   by_cases hb : e.b = v
   · simp [hb]
   · simp only [hb, if_false]
     split at hu
     · rename_i ha
       simp only [Option.some.injEq] at hu; subst hu
       exact .inr ((hnew _).2 (.inr ⟨e, he, ha, rfl⟩))
     · rcases h.front e he u hu with h' | h'
       · exact .inl h'
       · rcases (hmem _).1 h' with h'' | h''
         · simp only [Prod.mk.injEq] at h''; exact absurd h''.2 hb
         · exact .inr ((hnew _).2 (.inl h''))
 · unfold setT
   by_cases hs : s = v
   · simp [hs]
   · simp only [hs, if_false]
     rcases h.start with h' | h'
     · exact .inl h'
     · rcases (hmem _).1 h' with h'' | h''
       · simp only [Prod.mk.injEq] at h''; exact absurd h''.2 hs
       · exact .inr ((hnew _).2 (.inl h''))
theorem wave_start (E : List Ed) (s : Nat) : Wave E s (fun _ => none) [(0, s)] where
 right := fun _ _ h => by cases h
 way := fun x hx => by simp only [List.mem_singleton] at hx; subst hx; exact .nil
 front := fun _ _ _ h => by cases h
 start := .inr (by simp)
abbrev Stop := Nat × Nat
def tm (l : List Stop) (i : Nat) : Nat := (l[i]?.map Prod.fst).getD 0
def swapL (l : List Stop) (i k : Nat) : List Stop := if h : i < l.length ∧ k < l.length then (l.set i l[k]).set k l[i] else l
theorem swapL_length (l : List Stop) (i k : Nat) : (swapL l i k).length = l.length := by unfold swapL; split <;> simp
theorem swapL_perm (l : List Stop) (i k : Nat) : (swapL l i k).Perm l := by
 unfold swapL
 split
 · rename_i h; exact List.set_set_perm h.1 h.2
 · exact .refl _
theorem swapL_get {l : List Stop} {i k : Nat} (hi : i < l.length) (hk : k < l.length) (j : Nat) : (swapL l i k)[j]? = if j = k then l[i]? else if j = i then l[k]? else l[j]? := by
 unfold swapL
 rw [dif_pos ⟨hi, hk⟩]
 simp only [List.getElem?_set, List.length_set]
 grind
theorem tm_swap {l : List Stop} {i k : Nat} (hi : i < l.length) (hk : k < l.length) (j : Nat) : tm (swapL l i k) j = if j = k then tm l i else if j = i then tm l k else tm l j := by
 unfold tm
 rw [swapL_get hi hk]
 split
 · rfl
 · split <;> rfl
def HeapN (l : List Stop) (n : Nat) : Prop := ∀ c, 0 < c → c < n → tm l ((c - 1) / 2) ≤ tm l c
def UpInv (l : List Stop) (n j : Nat) : Prop := (∀ c, 0 < c → c < n → c ≠ j → tm l ((c - 1) / 2) ≤ tm l c) ∧ (0 < j → ∀ c, 0 < c → c < n → (c - 1) / 2 = j → tm l ((j - 1) / 2) ≤ tm l c)
theorem up_done {l : List Stop} {n j : Nat} (h : UpInv l n j) (hj : j = 0 ∨ tm l ((j - 1) / 2) ≤ tm l j) : HeapN l n := by
 intro c h0 hn
 by_cases hc : c = j
 · subst hc; rcases hj with h' | h'
   · omega
   · exact h'
 · exact h.1 c h0 hn hc
theorem up_step {l : List Stop} {n j : Nat} (hn : n ≤ l.length) (hj : j < n) (h0 : 0 < j) (h : UpInv l n j) (hlt : tm l j < tm l ((j - 1) / 2)) : UpInv (swapL l ((j - 1) / 2) j) n ((j - 1) / 2) := by
 obtain ⟨h1, h2⟩ := h
 have hi : (j - 1) / 2 < l.length := by omega
 have hj' : j < l.length := by omega
 refine ⟨fun c hc0 hcn hcj => ?_, fun hp c hc0 hcn hcp => ?_⟩
 · simp only [tm_swap hi hj']
   have a := h1 c hc0 hcn
   have b := h2 h0 c hc0 hcn
   grind
 · simp only [tm_swap hi hj']
   have a := h1 ((j - 1) / 2) hp (by omega) (by omega)
   have b := h1 c hc0 hcn
   rw [if_neg (by omega), if_neg (by omega)]
   by_cases hc : c = j
   · rw [if_pos hc]; exact a
   · have := b hc
     rw [hcp] at this
     rw [if_neg hc, if_neg (by omega)]
     omega
def DownInv (l : List Stop) (n i : Nat) : Prop := (∀ c, 0 < c → c < n → (c - 1) / 2 ≠ i → tm l ((c - 1) / 2) ≤ tm l c) ∧ (0 < i → ∀ c, 0 < c → c < n → (c - 1) / 2 = i → tm l ((i - 1) / 2) ≤ tm l c)
theorem down_leaf {l : List Stop} {n i : Nat} (h : DownInv l n i) (hl : n ≤ 2 * i + 1) : HeapN l n := by
 intro c h0 hn
 exact h.1 c h0 hn (by omega)
theorem down_done {l : List Stop} {n i j : Nat} (h : DownInv l n i) (hle : tm l i ≤ tm l j) (hj1 : 2 * i + 1 < n → tm l j ≤ tm l (2 * i + 1)) (hj2 : 2 * i + 2 < n → tm l j ≤ tm l (2 * i + 2)) : HeapN l n := by
 intro c h0 hn
 by_cases hc : (c - 1) / 2 = i
 · rw [hc]
   rcases (show c = 2 * i + 1 ∨ c = 2 * i + 2 by omega) with rfl | rfl
   · have := hj1 hn; omega
   · have := hj2 hn; omega
 · exact h.1 c h0 hn hc
theorem down_step {l : List Stop} {n i j : Nat} (hn : n ≤ l.length) (hj : j < n) (hjc : j = 2 * i + 1 ∨ j = 2 * i + 2) (h : DownInv l n i) (hlt : tm l j < tm l i)
    (hj1 : 2 * i + 1 < n → tm l j ≤ tm l (2 * i + 1)) (hj2 : 2 * i + 2 < n → tm l j ≤ tm l (2 * i + 2)) : DownInv (swapL l i j) n j := by
 obtain ⟨h1, h2⟩ := h
 have hi : i < l.length := by omega
 have hj' : j < l.length := by omega
 refine ⟨fun c hc0 hcn hcj => ?_, fun hp c hc0 hcn hcp => ?_⟩
 · simp only [tm_swap hi hj']
   by_cases hci : (c - 1) / 2 = i
   · have hcc : c = 2 * i + 1 ∨ c = 2 * i + 2 := by omega
     have hci' : c ≠ i := by omega
     rcases hcc with rfl | rfl
     · have := hj1 hcn; grind
     · have := hj2 hcn; grind
   · have a := h1 c hc0 hcn hci
     by_cases hc : c = j
     · omega
     · by_cases hc' : c = i
       · subst hc'
         have b := h2 hc0 j (by omega) hj (by omega)
         grind
       · grind
 · simp only [tm_swap hi hj']
   have a := h1 c hc0 hcn (by omega)
   have e : (j - 1) / 2 = i := by omega
   grind
theorem heap_root {l : List Stop} {n : Nat} (h : HeapN l n) : ∀ c, c < n → tm l 0 ≤ tm l c := by
 intro c
 induction c using Nat.strongRecOn with
 | ind c ih =>
   intro hc
   by_cases h0 : c = 0
   · subst h0; exact Nat.le_refl _
   · have := h c (by omega) hc
     have := ih ((c - 1) / 2) (by omega) (by omega)
     omega
theorem tm_of_get {l : List Stop} {i : Nat} {x : Stop} (h : l[i]? = some x) : tm l i = x.1 := by simp [tm, h]
theorem down_start {l : List Stop} {n : Nat} (h : HeapN l (n + 1)) (hl : l.length = n + 1) : DownInv (swapL l 0 n) n 0 := by
 refine ⟨fun c hc0 hcn hcj => ?_, fun hp => by omega⟩
 rw [tm_swap (by omega) (by omega), tm_swap (by omega) (by omega)]
 have := h c hc0 (by omega)
 grind
theorem up_start {l : List Stop} (x : Stop) (h : HeapN l l.length) : UpInv (l ++ [x]) (l.length + 1) l.length := by
 have e : ∀ c, c < l.length → tm (l ++ [x]) c = tm l c := fun c hc => by simp [tm, List.getElem?_append_left hc]
 refine ⟨fun c hc0 hcn hcj => ?_, fun hp c hc0 hcn hcp => by omega⟩
 rw [e _ (by omega), e _ (by omega)]
 exact h c hc0 (by omega)
def flat (l : List Stop) : List Value := l.flatMap fun x => [I x.1, I x.2]
theorem flat_length (l : List Stop) : (flat l).length = l.length * 2 := by
 induction l with
 | nil => rfl
 | cons x l ih => simp only [flat, List.flatMap_cons, List.length_append, List.length_cons, List.length_nil] at ih ⊢; omega
theorem flat_cons (x : Stop) (l : List Stop) : flat (x :: l) = I x.1 :: I x.2 :: flat l := rfl
theorem flat_append (l r : List Stop) : flat (l ++ r) = flat l ++ flat r := by simp [flat]
theorem flat_get0 {l : List Stop} {i : Nat} {x : Stop} (h : l[i]? = some x) : (flat l)[i * 2]? = some (I x.1) := by
 induction l generalizing i with
 | nil => simp at h
 | cons y l ih =>
   cases i with
   | zero => simp at h; subst h; rfl
   | succ i => rw [flat_cons, show (i + 1) * 2 = i * 2 + 1 + 1 by omega]; simpa using ih (by simpa using h)
theorem flat_get1 {l : List Stop} {i : Nat} {x : Stop} (h : l[i]? = some x) : (flat l)[i * 2 + 1]? = some (I x.2) := by
 induction l generalizing i with
 | nil => simp at h
 | cons y l ih =>
   cases i with
   | zero => simp at h; subst h; rfl
   | succ i => rw [flat_cons, show (i + 1) * 2 + 1 = (i * 2 + 1) + 1 + 1 by omega]; simpa using ih (by simpa using h)
theorem flat_set (l : List Stop) (i : Nat) (x : Stop) : flat (l.set i x) = ((flat l).set (i * 2) (I x.1)).set (i * 2 + 1) (I x.2) := by
 induction l generalizing i with
 | nil => rfl
 | cons y l ih =>
   cases i with
   | zero => rfl
   | succ i => rw [List.set_cons_succ, flat_cons, flat_cons, ih, show (i + 1) * 2 = i * 2 + 1 + 1 by omega]; rfl
theorem flat_take (l : List Stop) (n : Nat) : (flat l).take (n * 2) = flat (l.take n) := by
 induction l generalizing n with
 | nil => simp [flat]
 | cons y l ih =>
   cases n with
   | zero => rfl
   | succ n => rw [List.take_succ_cons, flat_cons, flat_cons, ← ih, show (n + 1) * 2 = n * 2 + 1 + 1 by omega]; rfl
def QRow (w : World) (g cap : Nat) (l : List Stop) : Prop := w.ownsRow 0 132 2 (.slice (some ⟨g, 0, none⟩) l.length cap) l.length (flat l)
structure But (g : Nat) (w w' : World) : Prop where
 os : w'.os = w.os
 tape : w'.tape = w.tape
 output : w'.output = w.output
 size : w.heap.size ≤ w'.heap.size
 block : ∀ k, k < w.heap.size → k ≠ g → w'.heap[k]? = w.heap[k]?
theorem But.refl (g : Nat) (w : World) : But g w w := ⟨rfl, rfl, rfl, Nat.le_refl _, fun _ _ _ => rfl⟩
theorem But.trans {g : Nat} {a b c : World} (h : But g a b) (k : But g b c) : But g a c :=
 ⟨k.os.trans h.os, k.tape.trans h.tape, k.output.trans h.output, Nat.le_trans h.size k.size, fun i hi hg => (k.block i (Nat.lt_of_lt_of_le hi h.size) hg).trans (h.block i hi hg)⟩
theorem But.drew {g : Nat} {a w : World} (h : But g a w) : But g a w.drew := ⟨h.os, h.tape, h.output, h.size, h.block⟩
theorem But.drewN {g : Nat} {a w : World} (h : But g a w) : ∀ n, But g a (w.drewN n)
 | 0 => h
 | n + 1 => (But.drewN h n).drew
theorem But.alloc {g : Nat} {a w : World} (h : But g a w) (o : Obj) : But g a (w.alloc o) :=
 h.trans ⟨rfl, rfl, rfl, by simp, fun k hk _ => Below.heap_alloc _ _ _ hk⟩
theorem But.grown {g : Nat} {a w w' : World} (h : But g a w) (hg : w.grownBy w' (some g)) : But g a w' :=
 h.trans ⟨hg.os, hg.tape, hg.output, hg.size, fun k hk hne => hg.block k hk (by simpa using hne)⟩
theorem But.cell {g : Nat} {w w' : World} (h : But g w w') {b o : Nat} {v : Value} (hc : w.cell? ⟨b, o, none⟩ = some v) (hb : b ≠ g) : w'.cell? ⟨b, o, none⟩ = some v :=
 (World.cell?_of_block (h.block b (World.block_lt_of_cell? w _ hc) hb)).trans hc
theorem QRow.lt {w : World} {g cap : Nat} {l : List Stop} (h : QRow w g cap l) : g < w.heap.size := (World.ownsRow.lt h g rfl).2
theorem QRow.get {w : World} {g cap : Nat} {l : List Stop} (h : QRow w g cap l) {i : Nat} {x : Stop} (hi : l[i]? = some x) :
    w.cell? ⟨g, i * 2, none⟩ = some (I x.1) ∧ w.cell? ⟨g, i * 2 + 1, none⟩ = some (I x.2) := by
 have hlt : i < l.length := (List.getElem?_eq_some_iff.1 hi).1
 exact ⟨(h.cellAt _ (by omega)).trans (flat_get0 hi), (h.cellAt _ (by omega)).trans (flat_get1 hi)⟩
theorem QRow.free {w : World} {g cap : Nat} {l : List Stop} (h : QRow w g cap l) (j : Nat) : w.frozen? ⟨g, j, none⟩ = false := h.frozenAt j
theorem QRow.of_block {w w' : World} {g cap : Nat} {l : List Stop} (h : QRow w g cap l) (hb : w'.heap[g]? = w.heap[g]?) : QRow w' g cap l := by
 obtain ⟨h1, h2⟩ := h
 refine ⟨h1, ?_⟩
 rcases h2 with ⟨h2, _⟩ | ⟨g', cap', cur, hv, hg, hh, r⟩
 · cases h2
 · refine .inr ⟨g', cap', cur, hv, hg, ?_, r⟩
   simp only [Value.slice.injEq, Option.some.injEq, Addr.mk.injEq, and_true, true_and] at hv
   obtain ⟨rfl, rfl⟩ := hv
   rw [hb]; exact hh
theorem QRow.drewN {w : World} {g cap : Nat} {l : List Stop} (h : QRow w g cap l) (n : Nat) : QRow (w.drewN n) g cap l := h.of_block rfl
theorem len_any (a : Option Addr) (n c : Nat) (w : World) : Calls Try.prog 88 #[.slice a n c] w fun e w' => e = .returned (I n) ∧ w = w' := by
 go_enter Try.func88, Try.ntmps88
 go_wp2
 go_ret
 exact ⟨rfl, rfl⟩
theorem less_any (g cap : Nat) (l : List Stop) (i k : Nat) (w : World) (h : QRow w g cap l) (hi : i < l.length) (hk : k < l.length) (hn : l.length ≤ 9223372036854775807) :
    Calls Try.prog 136 #[.slice (some ⟨g, 0, none⟩) l.length cap, I i, I k] w fun e w' => e = .returned (B (decide (tm l i < tm l k))) ∧ ∃ m, w' = w.drewN m := by
 obtain ⟨x, hx⟩ : ∃ x, l[i]? = some x := ⟨_, List.getElem?_eq_getElem hi⟩
 obtain ⟨y, hy⟩ : ∃ y, l[k]? = some y := ⟨_, List.getElem?_eq_getElem hk⟩
 have e1 := tm_of_get hx
 have e2 := tm_of_get hy
 obtain ⟨c0, _⟩ := h.get hx
 obtain ⟨c1, _⟩ := h.get hy
 rw [e1, e2]
 have hlt := h.lt
 clear e1 e2 hx hy
 go_enter Try.func136, Try.ntmps136
 go_wp2
 go_quiet (fail)
 go_wp2
 go_ret
 exact ⟨retB (by simp), _, rfl⟩
theorem QRow.swap4 {w : World} {g cap : Nat} {l : List Stop} (h : QRow w g cap l) {i k : Nat} {x y : Stop} (hi : l[i]? = some x) (hk : l[k]? = some y) :
    QRow ((((w.setCell ⟨g, i * 2, none⟩ (I y.1)).setCell ⟨g, i * 2 + 1, none⟩ (I y.2)).setCell ⟨g, k * 2, none⟩ (I x.1)).setCell ⟨g, k * 2 + 1, none⟩ (I x.2)) g cap (swapL l i k) ∧
    But g w ((((w.setCell ⟨g, i * 2, none⟩ (I y.1)).setCell ⟨g, i * 2 + 1, none⟩ (I y.2)).setCell ⟨g, k * 2, none⟩ (I x.1)).setCell ⟨g, k * 2 + 1, none⟩ (I x.2)) := by
 obtain ⟨hi', rfl⟩ := List.getElem?_eq_some_iff.1 hi
 obtain ⟨hk', rfl⟩ := List.getElem?_eq_some_iff.1 hk
 have s1 := World.ownsRow.stored h (i * 2) (I l[k].1)
 have s2 := World.ownsRow.stored s1.1 (i * 2 + 1) (I l[k].2)
 have s3 := World.ownsRow.stored s2.1 (k * 2) (I l[i].1)
 have s4 := World.ownsRow.stored s3.1 (k * 2 + 1) (I l[i].2)
 refine ⟨?_, ((((But.refl g w).grown s1.2).grown s2.2).grown s3.2).grown s4.2⟩
 have e : flat (swapL l i k) = ((((flat l).set (i * 2) (I l[k].1)).set (i * 2 + 1) (I l[k].2)).set (k * 2) (I l[i].1)).set (k * 2 + 1) (I l[i].2) := by
  unfold swapL; rw [dif_pos ⟨hi', hk'⟩, flat_set, flat_set]
 unfold QRow
 rw [swapL_length, e]
 exact s4.1
theorem swap_any (g cap : Nat) (l : List Stop) (i k : Nat) (w : World) (h : QRow w g cap l) (hi : i < l.length) (hk : k < l.length) (hn : l.length ≤ 9223372036854775807) :
    Calls Try.prog 139 #[.slice (some ⟨g, 0, none⟩) l.length cap, I i, I k] w fun e w' => e = .returned (.tuple #[]) ∧ QRow w' g cap (swapL l i k) ∧ But g w w' := by
 obtain ⟨x, hx⟩ : ∃ x, l[i]? = some x := ⟨_, List.getElem?_eq_getElem hi⟩
 obtain ⟨y, hy⟩ : ∃ y, l[k]? = some y := ⟨_, List.getElem?_eq_getElem hk⟩
 obtain ⟨c0, c1⟩ := h.get hx
 obtain ⟨d0, d1⟩ := h.get hy
 have hlt := h.lt
 have f0 := h.free (i * 2)
 have f1 := h.free (i * 2 + 1)
 have f2 := h.free (k * 2)
 have f3 := h.free (k * 2 + 1)
 obtain ⟨v0, e0⟩ := cell?_setCell_some (w := w) (p := ⟨g, i * 2, none⟩) (x := Value.int .i64 ↑y.1) (q := ⟨g, k * 2, none⟩) d0
 obtain ⟨v1, e1⟩ := cell?_setCell_some (w := w) (p := ⟨g, i * 2, none⟩) (x := Value.int .i64 ↑y.1) (q := ⟨g, k * 2 + 1, none⟩) d1
 obtain ⟨v2, e2⟩ := cell?_setCell_some (w := w.setCell ⟨g, i * 2, none⟩ (Value.int .i64 ↑y.1)) (p := ⟨g, i * 2 + 1, none⟩) (x := Value.int .i64 ↑y.2) (q := ⟨g, k * 2 + 1, none⟩) e1
 clear e1
 go_enter Try.func139, Try.ntmps139
 go_wp2
 go_region
 go_end0
 have R := h.swap4 hx hy
 exact ⟨rfl, R.1.drewN 1, R.2.drew⟩
structure QAt (w : World) (q g cap : Nat) (l : List Stop) : Prop where
 head : w.heap[q]? = some (.cells #[.slice (some ⟨g, 0, none⟩) l.length cap] 134 (0, 0))
 ne : q ≠ g
 row : QRow w g cap l
theorem QAt.cell {w : World} {q g cap : Nat} {l : List Stop} (h : QAt w q g cap l) : w.cell? ⟨q, 0, none⟩ = some (.slice (some ⟨g, 0, none⟩) l.length cap) := by
 rw [cell_of_row w q 0 _ _ (0, 0) h.head]; rfl
theorem meth_less {q : Nat} {v : Value} {w : World} (hc : w.cell? ⟨q, 0, none⟩ = some v) : (method 288 133 (.pointer (some ⟨q, 0, none⟩)) "Less").run Try.prog w = .ok (136, v) w := by
 have e : (method 288 133 (.pointer (some ⟨q, 0, none⟩)) "Less").run Try.prog w = (match w.cell? ⟨q, 0, none⟩ with | some v => .ok (136, v) w | none => match w.farLoad Try.prog ⟨q, 0, none⟩ false with | .ok (v, _) => .ok (136, v) w | .error h => .halt h w) := by kernel_rfl
 rw [e, hc]
theorem meth_swap {q : Nat} {v : Value} {w : World} (hc : w.cell? ⟨q, 0, none⟩ = some v) : (method 288 133 (.pointer (some ⟨q, 0, none⟩)) "Swap").run Try.prog w = .ok (139, v) w := by
 have e : (method 288 133 (.pointer (some ⟨q, 0, none⟩)) "Swap").run Try.prog w = (match w.cell? ⟨q, 0, none⟩ with | some v => .ok (139, v) w | none => match w.farLoad Try.prog ⟨q, 0, none⟩ false with | .ok (v, _) => .ok (139, v) w | .error h => .halt h w) := by kernel_rfl
 rw [e, hc]
theorem meth_len {q : Nat} {v : Value} {w : World} (hc : w.cell? ⟨q, 0, none⟩ = some v) : (method 288 133 (.pointer (some ⟨q, 0, none⟩)) "Len").run Try.prog w = .ok (88, v) w := by
 have e : (method 288 133 (.pointer (some ⟨q, 0, none⟩)) "Len").run Try.prog w = (match w.cell? ⟨q, 0, none⟩ with | some v => .ok (88, v) w | none => match w.farLoad Try.prog ⟨q, 0, none⟩ false with | .ok (v, _) => .ok (88, v) w | .error h => .halt h w) := by kernel_rfl
 rw [e, hc]
theorem meth_push (q : Nat) (w : World) : (method 288 133 (.pointer (some ⟨q, 0, none⟩)) "Push").run Try.prog w = .ok (138, .pointer (some ⟨q, 0, none⟩)) w := by kernel_rfl
theorem meth_pop (q : Nat) (w : World) : (method 288 133 (.pointer (some ⟨q, 0, none⟩)) "Pop").run Try.prog w = .ok (137, .pointer (some ⟨q, 0, none⟩)) w := by kernel_rfl
theorem QAt.drewN {w : World} {q g cap : Nat} {l : List Stop} (h : QAt w q g cap l) (n : Nat) : QAt (w.drewN n) q g cap l := ⟨h.head, h.ne, h.row.drewN n⟩
theorem QAt.swapped {w w' : World} {q g cap : Nat} {l l' : List Stop} (h : QAt w q g cap l) (hl : l'.length = l.length) (hr : QRow w' g cap l') (hb : But g w w') : QAt w' q g cap l' := by
 have hq : q < w.heap.size := (Array.getElem?_eq_some_iff.1 h.head).1
 exact ⟨by rw [hb.block q hq h.ne, hl]; exact h.head, h.ne, hr⟩
set_option maxHeartbeats 1000000 in
theorem up_any (q g cap : Nat) (l : List Stop) (j : Nat) (w : World) (h : QAt w q g cap l) (hj : j < l.length) (hu : UpInv l l.length j) (hn : l.length ≤ 4611686018427387903) :
    Calls Try.prog 111 #[.iface 133 (.pointer (some ⟨q, 0, none⟩)), I j] w fun e w' => e = .returned (.tuple #[]) ∧ ∃ l', QAt w' q g cap l' ∧ l'.Perm l ∧ HeapN l' l'.length ∧ But g w w' := by
 go_enter Try.func111, Try.ntmps111
 go_wp2
 go_loopw [1] (fun v wr => ∃ (j : Nat) (l' : List Stop), v = I j ∧ j < l'.length ∧ l'.length = l.length ∧ l'.Perm l ∧ UpInv l' l'.length j ∧ QAt wr q g cap l' ∧ But g w wr) (fun v _ => (intOf v).toNat)
 case atStart => exact ⟨j, l, rfl, hj, rfl, .refl _, hu, h, But.refl _ _⟩
 case round =>
  obtain ⟨j, l', rfl, hj, hll, hp, hu, hQ, hB⟩ := hrel
  have Hll := Lib.hid hll; clear hll
  have hn' : l'.length ≤ 4611686018427387903 := by rw [Hll.out]; exact hn
  have hn'' : l'.length ≤ 9223372036854775807 := by omega
  by_cases h0 : j = 0
  · subst h0
    go_wp2
    go_end0
    exact ⟨rfl, l', hQ, hp, up_done hu (.inl rfl), hB⟩
  · have hj1 : 1 ≤ j := by omega
    obtain ⟨p, hpj⟩ : ∃ p : Nat, p = (j - 1) / 2 := ⟨_, rfl⟩
    have ep : ((j : Int) - 1) / 2 = (p : Int) := by omega
    have hpl : p < l'.length := by omega
    have hne : ((p : Int) == (j : Int)) = false := by simp; omega
    have Hpj := Lib.hid hpj; clear hpj
    have hm1 := meth_less hQ.cell
    have hm2 : ∀ m, _ := fun m => meth_swap (hQ.drewN m).cell
    by_cases hlt : tm l' j < tm l' p
    · have hd : decide (tm l' j < tm l' p) = true := by simpa using hlt
      have hlt' := Lib.hid hlt; clear hlt
      go_wp2_with (first
       | (go_at_call 136; refine (less_any _ _ _ _ _ _ hQ.row hj hpl hn'').mono ?_; rintro e w' ⟨rfl, m, rfl⟩)
       | (go_at_call 139; refine (swap_any _ _ _ _ _ _ (hQ.row.drewN _) hpl hj hn'').mono ?_; rintro e w' ⟨rfl, hr1, hb1⟩))
      go_roundw
      case rel =>
       refine ⟨p, swapL l' p j, rfl, by rw [swapL_length]; exact hpl, by rw [swapL_length]; exact Hll.out, (swapL_perm _ _ _).trans hp, ?_, (hQ.drewN _).swapped (swapL_length _ _ _) hr1 hb1, hB.trans (((But.refl g wr).drewN _).trans hb1)⟩
       rw [swapL_length, Hpj.out]
       exact up_step (Nat.le_refl _) hj hj1 hu (by rw [← Hpj.out]; exact hlt'.out)
      case measure => simp [intOf]; have := Hpj.out; omega
    · have hd : decide (tm l' j < tm l' p) = false := by simpa using hlt
      have hlt' := Lib.hid hlt; clear hlt
      go_wp2_with (first
       | (go_at_call 136; refine (less_any _ _ _ _ _ _ hQ.row hj hpl hn'').mono ?_; rintro e w' ⟨rfl, m, rfl⟩))
      go_end0
      exact ⟨rfl, l', hQ.drewN _, hp, up_done hu (.inr (by rw [← Hpj.out]; have := hlt'.out; omega)), hB.drewN _⟩
theorem down_use {l : List Stop} {n i j1 j2 j : Nat} (h1 : j1 = 2 * i + 1) (h2 : j2 = j1 + 1) (hj : (j = j1 ∧ (j2 < n → tm l j1 ≤ tm l j2)) ∨ (j = j2 ∧ j2 < n ∧ tm l j2 < tm l j1)) :
    (2 * i + 1 < n → tm l j ≤ tm l (2 * i + 1)) ∧ (2 * i + 2 < n → tm l j ≤ tm l (2 * i + 2)) ∧ (j = 2 * i + 1 ∨ j = 2 * i + 2) := by
 subst h1
 have e : j2 = 2 * i + 2 := by omega
 subst e
 rcases hj with ⟨rfl, h⟩ | ⟨rfl, h, h'⟩
 · exact ⟨fun _ => Nat.le_refl _, h, .inl rfl⟩
 · exact ⟨fun _ => Nat.le_of_lt h', fun _ => Nat.le_refl _, .inr rfl⟩
theorem down_next {w wr w' : World} {q g cap : Nat} {l l' : List Stop} {n i j m : Nat} (hN : n + 1 = l.length) (hll : l'.length = l.length) (hp : l'.Perm l) (hu : DownInv l' n i) (hlast : l'[n]? = l[n]?) (hQ : QAt wr q g cap l') (hB : But g w wr)
    (U : (2 * i + 1 < n → tm l' j ≤ tm l' (2 * i + 1)) ∧ (2 * i + 2 < n → tm l' j ≤ tm l' (2 * i + 2)) ∧ (j = 2 * i + 1 ∨ j = 2 * i + 2)) (hj : j < n) (H : tm l' j < tm l' i) (hr1 : QRow w' g cap (swapL l' i j)) (hb1 : But g (wr.drewN m) w') :
    ∃ (i0 : Nat) (l0 : List Stop), Value.int .i64 (j : Int) = I i0 ∧ i0 ≤ n ∧ l0.length = l.length ∧ l0.Perm l ∧ DownInv l0 n i0 ∧ l0[n]? = l[n]? ∧ QAt w' q g cap l0 ∧ But g w w' := by
 refine ⟨j, swapL l' i j, rfl, by omega, by rw [swapL_length]; exact hll, (swapL_perm _ _ _).trans hp, down_step (by omega) hj U.2.2 hu H U.1 U.2.1, ?_, (hQ.drewN m).swapped (swapL_length _ _ _) hr1 hb1, hB.trans (((But.refl g wr).drewN _).trans hb1)⟩
 rw [swapL_get (by omega) (by omega), if_neg (by omega), if_neg (by omega)]
 exact hlast
set_option maxHeartbeats 8000000 in
theorem down_any (q g cap : Nat) (l : List Stop) (n : Nat) (w : World) (h : QAt w q g cap l) (hnl : n + 1 = l.length) (hd : DownInv l n 0) (hn : l.length ≤ 2305843009213693951) :
    Calls Try.prog 110 #[.iface 133 (.pointer (some ⟨q, 0, none⟩)), I 0, I n] w fun e w' => (∃ b, e = .returned (B b)) ∧ ∃ l', QAt w' q g cap l' ∧ l'.Perm l ∧ HeapN l' n ∧ l'[n]? = l[n]? ∧ But g w w' := by
 have Hnl := Lib.hid hnl; clear hnl
 have hn0 : n ≤ 2305843009213693951 := by have := Hnl.out; omega
 go_enter Try.func110, Try.ntmps110
 go_wp2
 go_loopw [7] (fun v wr => ∃ (i : Nat) (l' : List Stop), v = I i ∧ i ≤ n ∧ l'.length = l.length ∧ l'.Perm l ∧ DownInv l' n i ∧ l'[n]? = l[n]? ∧ QAt wr q g cap l' ∧ But g w wr) (fun v _ => n + 1 - (intOf v).toNat)
 case atStart => exact ⟨0, l, rfl, Nat.zero_le _, rfl, .refl _, hd, rfl, h, But.refl _ _⟩
 case round =>
  obtain ⟨i, l', rfl, hi, hll, hp, hu, hlast, hQ, hB⟩ := hrel
  have Hll := Lib.hid hll; clear hll
  have Hlast := Lib.hid hlast; clear hlast
  have hn'' : l'.length ≤ 9223372036854775807 := by rw [Hll.out]; omega
  obtain ⟨j1, hj1⟩ : ∃ j1 : Nat, j1 = 2 * i + 1 := ⟨_, rfl⟩
  have e1 : 2 * (i : Int) + 1 = (j1 : Int) := by omega
  have b1 : j1 ≤ 4611686018427387903 := by omega
  have Hj1 := Lib.hid hj1; clear hj1
  by_cases hlf : n ≤ j1
  · have hle : decide ((n : Int) ≤ (j1 : Int)) = true := by simpa using hlf
    go_wp2
    all_goals
     go_ret
     exact ⟨⟨_, rfl⟩, l', hQ, hp, down_leaf hu (by rw [← Hj1.out]; exact hlf), Hlast.out, hB⟩
  · have hil : i < l'.length := by rw [Hll.out, ← Hnl.out]; omega
    have hj1l : j1 < l'.length := by rw [Hll.out, ← Hnl.out]; omega
    have hm1 : ∀ m, _ := fun m => meth_less (hQ.drewN m).cell
    have hm0 := meth_less hQ.cell
    have hm2 : ∀ m, _ := fun m => meth_swap (hQ.drewN m).cell
    obtain ⟨j2, hj2⟩ : ∃ j2 : Nat, j2 = j1 + 1 := ⟨_, rfl⟩
    have e2 : (j1 : Int) + 1 = (j2 : Int) := by omega
    have b2 : j2 ≤ 4611686018427387904 := by omega
    have hlf' : ¬ ((n : Int) ≤ (j1 : Int)) := by omega
    have hle : decide ((n : Int) ≤ (j1 : Int)) = false := by simpa using hlf
    have hj1n : j1 < n := by omega
    by_cases hj2n : j2 < n
    · have hj2l : j2 < l'.length := by rw [Hll.out, ← Hnl.out]; omega
      have hj2i : (j2 : Int) < (n : Int) := by omega
      by_cases hlt : tm l' j2 < tm l' j1
      · have hd1 : decide (tm l' j2 < tm l' j1) = true := by simpa using hlt
        have U := Lib.hid (down_use (l := l') (n := n) (i := i) Hj1.out hj2 (j := j2) (.inr ⟨rfl, hj2n, hlt⟩))
        clear hlt hj2
        by_cases hlt2 : tm l' j2 < tm l' i
        · have hd2 : decide (tm l' j2 < tm l' i) = true := by simpa using hlt2
          have H2 := Lib.hid hlt2; clear hlt2
          go_wp2_with (first
           | (go_at_call 136; refine (less_any _ _ _ _ _ _ (by first | exact hQ.row | exact hQ.row.drewN _) (by assumption) (by assumption) hn'').mono ?_; rintro e w' ⟨rfl, m, rfl⟩)
           | (go_at_call 139; refine (swap_any _ _ _ _ _ _ (by first | exact (hQ.row.drewN _).drewN _ | exact hQ.row.drewN _) (by assumption) (by assumption) hn'').mono ?_; rintro e w' ⟨rfl, hr1, hb1⟩))
          go_roundw
          case rel => exact down_next Hnl.out Hll.out hp hu Hlast.out hQ hB U.out (by omega) H2.out hr1 hb1
          case measure => simp [intOf]; have := U.out.2.2; omega
        · have hd2 : decide (tm l' j2 < tm l' i) = false := by simpa using hlt2
          have H2 := Lib.hid hlt2; clear hlt2
          go_wp2_with (first
           | (go_at_call 136; refine (less_any _ _ _ _ _ _ (by first | exact hQ.row | exact hQ.row.drewN _) (by assumption) (by assumption) hn'').mono ?_; rintro e w' ⟨rfl, m, rfl⟩))
          go_ret
          exact ⟨⟨_, rfl⟩, l', by first | exact hQ.drewN _ | exact (hQ.drewN _).drewN _, hp, down_done hu (by have := H2.out; omega) U.out.1 U.out.2.1, Hlast.out, by first | exact hB.drewN _ | exact (hB.drewN _).drewN _⟩
      · have hd1 : decide (tm l' j2 < tm l' j1) = false := by simpa using hlt
        have U := Lib.hid (down_use (l := l') (n := n) (i := i) Hj1.out hj2 (j := j1) (.inl ⟨rfl, fun _ => by omega⟩))
        clear hlt hj2
        by_cases hlt2 : tm l' j1 < tm l' i
        · have hd2 : decide (tm l' j1 < tm l' i) = true := by simpa using hlt2
          have H2 := Lib.hid hlt2; clear hlt2
          go_wp2_with (first
           | (go_at_call 136; refine (less_any _ _ _ _ _ _ (by first | exact hQ.row | exact hQ.row.drewN _) (by assumption) (by assumption) hn'').mono ?_; rintro e w' ⟨rfl, m, rfl⟩)
           | (go_at_call 139; refine (swap_any _ _ _ _ _ _ (by first | exact (hQ.row.drewN _).drewN _ | exact hQ.row.drewN _) (by assumption) (by assumption) hn'').mono ?_; rintro e w' ⟨rfl, hr1, hb1⟩))
          go_roundw
          case rel => exact down_next Hnl.out Hll.out hp hu Hlast.out hQ hB U.out (by omega) H2.out hr1 hb1
          case measure => simp [intOf]; have := U.out.2.2; omega
        · have hd2 : decide (tm l' j1 < tm l' i) = false := by simpa using hlt2
          have H2 := Lib.hid hlt2; clear hlt2
          go_wp2_with (first
           | (go_at_call 136; refine (less_any _ _ _ _ _ _ (by first | exact hQ.row | exact hQ.row.drewN _) (by assumption) (by assumption) hn'').mono ?_; rintro e w' ⟨rfl, m, rfl⟩))
          go_ret
          exact ⟨⟨_, rfl⟩, l', by first | exact hQ.drewN _ | exact (hQ.drewN _).drewN _, hp, down_done hu (by have := H2.out; omega) U.out.1 U.out.2.1, Hlast.out, by first | exact hB.drewN _ | exact (hB.drewN _).drewN _⟩
    · have hj2i : ¬ ((j2 : Int) < (n : Int)) := by omega
      have hj2d : decide ((j2 : Int) < (n : Int)) = false := by simpa using hj2i
      have U := Lib.hid (down_use (l := l') (n := n) (i := i) Hj1.out hj2 (j := j1) (.inl ⟨rfl, fun _ => by omega⟩))
      clear hj2
      by_cases hlt2 : tm l' j1 < tm l' i
      · have hd2 : decide (tm l' j1 < tm l' i) = true := by simpa using hlt2
        have H2 := Lib.hid hlt2; clear hlt2
        go_wp2_with (first
         | (go_at_call 136; refine (less_any _ _ _ _ _ _ (by first | exact hQ.row | exact hQ.row.drewN _) (by assumption) (by assumption) hn'').mono ?_; rintro e w' ⟨rfl, m, rfl⟩)
         | (go_at_call 139; refine (swap_any _ _ _ _ _ _ (by first | exact (hQ.row.drewN _).drewN _ | exact hQ.row.drewN _) (by assumption) (by assumption) hn'').mono ?_; rintro e w' ⟨rfl, hr1, hb1⟩))
        go_roundw
        case rel => exact down_next Hnl.out Hll.out hp hu Hlast.out hQ hB U.out (by omega) H2.out hr1 hb1
        case measure => simp [intOf]; have := U.out.2.2; omega
      · have hd2 : decide (tm l' j1 < tm l' i) = false := by simpa using hlt2
        have H2 := Lib.hid hlt2; clear hlt2
        go_wp2_with (first
         | (go_at_call 136; refine (less_any _ _ _ _ _ _ (by first | exact hQ.row | exact hQ.row.drewN _) (by assumption) (by assumption) hn'').mono ?_; rintro e w' ⟨rfl, m, rfl⟩))
        go_ret
        exact ⟨⟨_, rfl⟩, l', by first | exact hQ.drewN _ | exact (hQ.drewN _).drewN _, hp, down_done hu (by have := H2.out; omega) U.out.1 U.out.2.1, Hlast.out, by first | exact hB.drewN _ | exact (hB.drewN _).drewN _⟩
theorem assert_stop (v : Value) (w : World) : (Instr.typeAssert (.iface 132 v) 20 132 true).run Try.prog w = .ok (.tuple #[v, .bool true]) w := by kernel_rfl
theorem info_stop : (Try.prog.info? 132).map (fun i => (i.zero, i.size, i.bytes)) = some (some (.agg #[.int .i64 0, .int .i64 0]), 2, 16) := by kernel_rfl
theorem QRow.cut {w : World} {g cap n : Nat} {l : List Stop} (h : QRow w g cap l) (hn : n + 1 = l.length) : QRow w g cap (l.take n) := by
 obtain ⟨h1, h2⟩ := h
 have hl : (l.take n).length = n := by simp; omega
 refine ⟨by rw [flat_length], ?_⟩
 rcases h2 with ⟨h2, _⟩ | ⟨g', cap', cur, hv, hg, hh, hc, hm, hs, ht⟩
 · cases h2
 · simp only [Value.slice.injEq, Option.some.injEq, Addr.mk.injEq, and_true, true_and] at hv
   obtain ⟨rfl, rfl⟩ := hv
   refine .inr ⟨g, cap, cur, rfl, hg, hh, by omega, hm, hs, ?_⟩
   rw [hl, ← flat_take, ← ht, List.take_take, Nat.min_eq_left (by omega)]
theorem pop_any (q g cap : Nat) (l : List Stop) (n : Nat) (x : Stop) (w : World) (h : QAt w q g cap l) (hnl : n + 1 = l.length) (hx : l[n]? = some x) (hn : l.length ≤ 2305843009213693951) :
    Calls Try.prog 137 #[.pointer (some ⟨q, 0, none⟩)] w fun e w' => e = .returned (.iface 132 (.agg #[I x.1, I x.2])) ∧ QAt w' q g cap (l.take n) ∧ But q w w' := by
 have hc := h.cell
 have hcap : l.length ≤ cap := by
  rcases h.row.2 with ⟨h2, _⟩ | ⟨g', cap', cur, hv, hg, hh, hc, hm, hs, ht⟩
  · cases h2
  · simp only [Value.slice.injEq, Option.some.injEq, Addr.mk.injEq, and_true, true_and] at hv
    obtain ⟨rfl, rfl⟩ := hv
    exact hc
 obtain ⟨c0, c1⟩ := h.row.get hx
 have hq : q < w.heap.size := (Array.getElem?_eq_some_iff.1 h.head).1
 have hg := h.row.lt
 have hf : w.frozen? ⟨q, 0, none⟩ = false := frozen_of_row w q 0 _ _ h.head
 have hlen : (l.length : Int) = (n : Int) + 1 := by omega
 have hne := h.ne
 rw [← hnl] at hc hcap
 have hnb : n ≤ 2305843009213693951 := by omega
 have Hx := Lib.hid hx; clear hx
 have Hnl := Lib.hid hnl; clear hnl hlen
 go_enter Try.func137, Try.ntmps137
 go_wp2
 go_ret
 have eq : (l.take n).length = n := by have := Hnl.out; simp; omega
 refine ⟨rfl, ⟨?_, hne, ?_⟩, ?_⟩
 · rw [Below.heap_alloc _ _ _ (by simpa using hq), heap_setCell_same w q 0 _ _ _ h.head, eq]
   rfl
 · have R := h.row.cut Hnl.out
   refine QRow.of_block R ?_
   rw [Below.heap_alloc _ _ _ (by simpa using hg), Below.heap_setCell _ _ _ _ (Ne.symm hne)]
 · exact But.alloc (a := w) (w := w.setCell ⟨q, 0, none⟩ _) ⟨rfl, rfl, rfl, by simp, fun k hk hne => Below.heap_setCell _ _ _ _ hne⟩ _
theorem cellQ (w : World) (o o' : Obj) {q : Nat} {v : Value} (hq : q < w.heap.size) (h : w.cell? ⟨q, 0, none⟩ = some v) : ((w.alloc o).alloc o').drew.cell? ⟨q, 0, none⟩ = some v := by
 show ((w.alloc o).alloc o').cell? _ = _
 rw [World.cell?_alloc_lt _ _ _ (by simp; omega), World.cell?_alloc_lt _ _ _ hq]
 exact h
theorem frozenQ (w : World) (o o' : Obj) {q : Nat} (hq : q < w.heap.size) (h : w.frozen? ⟨q, 0, none⟩ = false) : ((w.alloc o).alloc o').drew.frozen? ⟨q, 0, none⟩ = false := by
 show ((w.alloc o).alloc o').frozen? _ = _
 rw [World.frozen?_alloc_old _ _ _ (by simp; omega), World.frozen?_alloc_old _ _ _ (by simp; omega)]
 exact h
theorem heap_second (w : World) (o o' : Obj) : ((w.alloc o).alloc o').heap[w.heap.size + 1]? = some o' := by
 have := heap_alloc_new (w.alloc o) o'
 simpa using this
def Pushed (w w' : World) (q g : Nat) (l : List Stop) (x : Stop) : Prop :=
 ∃ g' cap', QAt w' q g' cap' (l ++ [x]) ∧ (g' = g ∨ w.heap.size ≤ g') ∧ w'.os = w.os ∧ w'.tape = w.tape ∧ w'.output = w.output ∧ w.heap.size ≤ w'.heap.size ∧ ∀ k, k < w.heap.size → k ≠ q → k ≠ g → w'.heap[k]? = w.heap[k]?
theorem push_close {w w1 : World} {o o' : Obj} {q g cap gg cap' : Nat} {l : List Stop} {x : Stop} (h : QAt w q g cap l)
    (hown1 : w1.ownsRow 0 132 2 (.slice (some ⟨gg, 0, none⟩) (l.length + 1) cap') (l.length + 1) (flat l ++ [I x.1, I x.2]))
    (hgrow : ((w.alloc o).alloc o').drew.grownBy w1 (Value.slice (some ⟨g, 0, none⟩) l.length cap).ownBlock)
    (hat : (Value.slice (some ⟨g, 0, none⟩) l.length cap).ownBlock = some gg ∨ gg = w.heap.size + 2) :
    Pushed w (w1.setCell ⟨q, 0, none⟩ (.slice (some ⟨gg, 0, none⟩) (l.length + 1) cap')) q g l x := by
 have hq : q < w.heap.size := (Array.getElem?_eq_some_iff.1 h.head).1
 have hg := h.row.lt
 have hne := h.ne
 have hgg : gg = g ∨ gg = w.heap.size + 2 := by
  rcases hat with hat | hat
  · left; simpa [Value.ownBlock] using hat.symm
  · exact .inr hat
 have hW : ∀ k, k < w.heap.size → ((w.alloc o).alloc o').drew.heap[k]? = w.heap[k]? := fun k hk => by
  show ((w.alloc o).alloc o').heap[k]? = _
  rw [Below.heap_alloc _ _ _ (by simp; omega), Below.heap_alloc _ _ _ hk]
 have hb : ∀ k, k < w.heap.size → k ≠ g → w1.heap[k]? = w.heap[k]? := fun k hk hkg => by
  rw [hgrow.block k (by simp; omega) (by simpa [Value.ownBlock] using hkg), hW k hk]
 have hqgg : q ≠ gg := by omega
 refine ⟨gg, cap', ⟨?_, hqgg, ?_⟩, by omega, hgrow.os, hgrow.tape, hgrow.output, ?_, fun k hk hkq hkg => ?_⟩
 · rw [heap_setCell_same w1 q 0 _ _ _ ((hb q hq hne).trans h.head)]
   simp
 · unfold QRow
   rw [flat_append, show flat [x] = [I x.1, I x.2] from rfl, List.length_append, List.length_singleton]
   refine QRow.of_block (l := l ++ [x]) (w := w1) ?_ ?_ |> (fun h => by simpa [QRow, flat_append, flat] using h)
   · simpa [QRow, flat_append, flat] using hown1
   · exact Below.heap_setCell _ _ _ _ (Ne.symm hqgg)
 · have := hgrow.size
   simp at this ⊢
   omega
 · rw [Below.heap_setCell _ _ _ _ hkq, hb k hk hkg]
set_option maxRecDepth 100000 in
set_option maxHeartbeats 1000000 in
theorem push_any (q g cap : Nat) (l : List Stop) (x : Stop) (w : World) (h : QAt w q g cap l) (hn : l.length ≤ 1152921504606) :
    Calls Try.prog 138 #[.pointer (some ⟨q, 0, none⟩), .iface 132 (.agg #[I x.1, I x.2])] w fun e w' => e = .returned (.tuple #[]) ∧ Pushed w w' q g l x := by
 have hc := h.cell
 have hq : q < w.heap.size := (Array.getElem?_eq_some_iff.1 h.head).1
 have hg := h.row.lt
 have hf : w.frozen? ⟨q, 0, none⟩ = false := frozen_of_row w q 0 _ _ h.head
 obtain ⟨i0, hi0, hz0, hz1, hz2⟩ := info_parts info_stop
 go_enter Try.func138, Try.ntmps138
 have hta := assert_stop
 go_wp2
 go_region_law ((refine step_append_lies _ (by rfl) _ _ _ (by rfl) 0 132 i0 _ 2 16 Try.underlying134 hi0 hz0 hz1 hz2 rfl (by omega) _ l.length (flat l) (by rfl) ((World.ownsRow.alloc (World.ownsRow.alloc h.row _) _).drew) ⟨w.heap.size + 1, 0, none⟩ 1 1 [I x.1, I x.2] (by rfl) (by rfl) (World.news_of_block (cs := #[I x.1, I x.2]) (t := 132) (fr := (0, 0)) (heap_second w _ _)) (by simp [Value.oneCell']) (by omega) (by unfold maxLen; omega) (by omega) (by simp) (w.heap.size + 2) (by simp) ?_; intro gg cap' w1 hown1 hgrow hat hlt; have kc := (hgrow.cell_far ⟨q, 0, none⟩ (by simp; omega) (by simpa [Value.ownBlock] using h.ne)).trans (cellQ w _ _ hq hc); have kf := (hgrow.frozen_far ⟨q, 0, none⟩ (by simp; omega) (by simpa [Value.ownBlock] using h.ne)).trans (frozenQ w _ _ hq hf)))
 all_goals
  go_wp2
  go_end0
  exact ⟨rfl, push_close h hown1 hgrow hat⟩
structure Only (q g : Nat) (w w' : World) : Prop where
 os : w'.os = w.os
 tape : w'.tape = w.tape
 output : w'.output = w.output
 size : w.heap.size ≤ w'.heap.size
 block : ∀ k, k < w.heap.size → k ≠ q → k ≠ g → w'.heap[k]? = w.heap[k]?
theorem But.only {q g : Nat} {w w' : World} (h : But g w w') : Only q g w w' := ⟨h.os, h.tape, h.output, h.size, fun k hk _ hg => h.block k hk hg⟩
theorem But.onlyq {q g : Nat} {w w' : World} (h : But q w w') : Only q g w w' := ⟨h.os, h.tape, h.output, h.size, fun k hk hq _ => h.block k hk hq⟩
theorem Only.trans {q g : Nat} {a b c : World} (h : Only q g a b) (k : Only q g b c) : Only q g a c :=
 ⟨k.os.trans h.os, k.tape.trans h.tape, k.output.trans h.output, Nat.le_trans h.size k.size, fun i hi hq hg => (k.block i (Nat.lt_of_lt_of_le hi h.size) hq hg).trans (h.block i hi hq hg)⟩
theorem heappush_any (q g cap : Nat) (l : List Stop) (x : Stop) (w : World) (h : QAt w q g cap l) (hh : HeapN l l.length) (hn : l.length ≤ 1000000000000) :
    Calls Try.prog 90 #[.iface 133 (.pointer (some ⟨q, 0, none⟩)), .iface 132 (.agg #[I x.1, I x.2])] w fun e w' => e = .returned (.tuple #[]) ∧
     ∃ g' cap' l', QAt w' q g' cap' l' ∧ l'.Perm (l ++ [x]) ∧ HeapN l' l'.length ∧ (g' = g ∨ w.heap.size ≤ g') ∧ Only q g w w' := by
 have hmp := meth_push q
 go_enter Try.func90, Try.ntmps90
 go_wp2_with (go_at_call 138; refine (push_any _ _ _ _ _ _ h (by omega)).mono ?_; rintro e w1 ⟨rfl, g', cap', hQ, hg, b1, b2, b3, b4, b5⟩; have hml := meth_len hQ.cell)
 go_wp2_with (go_at_call 88; refine (len_any _ _ _ _).mono ?_; rintro e w' ⟨rfl, rfl⟩)
 go_wp2_with (go_at_call 111; refine (up_any _ _ _ (l ++ [x]) l.length _ hQ (by simp) (by simpa using up_start x hh) (by simp; omega)).mono ?_; rintro e w' ⟨rfl, l', hQ', hp, hh', hb⟩)
 go_end0
 refine ⟨rfl, g', cap', l', hQ', hp, hh', hg, ⟨hb.os.trans b1, hb.tape.trans b2, hb.output.trans b3, Nat.le_trans b4 hb.size, fun k hk hkq hkg => ?_⟩⟩
 rw [hb.block k (by omega) (by rcases hg with hg | hg <;> omega)]
 exact b5 k hk hkq hkg
theorem tm_take {l : List Stop} {n c : Nat} (hc : c < n) : tm (l.take n) c = tm l c := by simp [tm, List.getElem?_take, hc]
theorem heapN_take {l : List Stop} {n : Nat} (h : HeapN l n) : HeapN (l.take n) n := fun c h0 hc => by
 rw [tm_take hc, tm_take (by omega)]; exact h c h0 hc
theorem heappop_any (q g cap : Nat) (l : List Stop) (w : World) (h : QAt w q g cap l) (hh : HeapN l l.length) (hne : 0 < l.length) (hn : l.length ≤ 1000000000000) :
    Calls Try.prog 89 #[.iface 133 (.pointer (some ⟨q, 0, none⟩))] w fun e w' => ∃ (x : Stop) (l' : List Stop), e = .returned (.iface 132 (.agg #[I x.1, I x.2])) ∧
     QAt w' q g cap l' ∧ (x :: l').Perm l ∧ (∀ y ∈ l, x.1 ≤ y.1) ∧ HeapN l' l'.length ∧ Only q g w w' := by
 have hmp := meth_pop q
 have hml := meth_len h.cell
 have hms := meth_swap h.cell
 obtain ⟨n, hnl⟩ : ∃ n, n + 1 = l.length := ⟨l.length - 1, by omega⟩
 have e1 : (l.length : Int) - 1 = (n : Int) := by omega
 have hl9 : l.length ≤ 9223372036854775807 := by omega
 have hn0 : n < l.length := by omega
 have Hnl := Lib.hid hnl; clear hnl
 go_enter Try.func89, Try.ntmps89
 go_wp2_with (go_at_call 88; refine (len_any _ _ _ _).mono ?_; rintro e w' ⟨rfl, rfl⟩)
 go_wp2_with (go_at_call 139; refine (swap_any g cap l 0 n _ h.row hne hn0 hl9).mono ?_; rintro e w1 ⟨rfl, hr1, hb1⟩)
 have hQ1 := h.swapped (swapL_length _ _ _) hr1 hb1
 go_wp2_with (go_at_call 110; refine (down_any q g cap (swapL l 0 n) n w1 hQ1 (by rw [swapL_length]; exact Hnl.out) (down_start (by rw [Hnl.out]; exact hh) Hnl.out.symm) (by rw [swapL_length]; omega)).mono ?_; rintro e w2 ⟨⟨b, rfl⟩, l2, hQ2, hp2, hh2, hl2, hb2⟩)
 have hl2len : l2.length = l.length := by rw [hp2.length_eq, swapL_length]
 obtain ⟨x, hx⟩ : ∃ x, l[0]? = some x := ⟨_, List.getElem?_eq_getElem hne⟩
 have hx2 : l2[n]? = some x := by rw [hl2, swapL_get hne hn0, if_pos rfl, hx]
 have Hx := Lib.hid hx; clear hx
 have Hx2 := Lib.hid hx2; clear hx2
 have Hl2 := Lib.hid hl2; clear hl2
 have HL := Lib.hid hl2len; clear hl2len
 go_wp2_with (go_at_call 137; refine (pop_any q g cap l2 n x w2 hQ2 (by rw [HL.out]; exact Hnl.out) Hx2.out (by rw [HL.out]; omega)).mono ?_; rintro e w3 ⟨rfl, hQ3, hb3⟩)
 go_ret
 have hlen : (l2.take n).length = n := by have := HL.out; have := Hnl.out; simp; omega
 refine ⟨x, l2.take n, rfl, hQ3, ?_, fun y hy => ?_, ?_, (hb1.only.trans hb2.only).trans hb3.onlyq⟩
 · have e2 : l2 = l2.take n ++ [x] := by
     have := HL.out
     have := Hnl.out
     apply List.ext_getElem?
     intro j
     by_cases hj : j < n
     · rw [List.getElem?_append_left (by omega), List.getElem?_take, if_pos hj]
     · by_cases hjn : j = n
       · subst hjn; rw [Hx2.out, List.getElem?_append_right (by omega), hlen]; simp
       · rw [List.getElem?_eq_none (by omega), List.getElem?_eq_none (by simp; omega)]
   have p1 : (x :: l2.take n).Perm (l2.take n ++ [x]) := (List.perm_append_singleton x (l2.take n)).symm
   rw [← e2] at p1
   exact p1.trans (hp2.trans (swapL_perm _ _ _))
 · obtain ⟨c, hc, rfl⟩ := List.mem_iff_getElem.1 hy
   have := heap_root hh c hc
   rw [tm_of_get Hx.out, tm_of_get (List.getElem?_eq_getElem hc)] at this
   exact this
 · rw [hlen]; exact heapN_take hh2
end Go.Proofs.Ytbnbpfjfkedbaaa.Rn
