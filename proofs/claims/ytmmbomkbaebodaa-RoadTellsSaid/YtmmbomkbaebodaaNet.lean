/-
  Networks: data, the plain functions that the checks compute, and how a network lies in memory.
-/
import Derived.Test.YtmmbomkbaebodaaBase
namespace Go.Proofs.Ytmmbomkbaebodaa
set_option linter.unusedVariables false
set_option linter.unusedSimpArgs false
open Go.RowKit

structure Rd where
  fr : Int
  to : Int
  mi : Int
  li : Int
  deriving DecidableEq

def RRoad (_ : World) (cs : List Value) (r : Rd) : Prop := cs = [I r.fr, I r.to, I r.mi, I r.li]
theorem RRoad.mono : MonoR RRoad := fun _ _ _ _ _ h => h
abbrev RoadsAt (w : World) (v : Value) (l : List Rd) : Prop := SliceR RRoad 4 w v l

theorem RoadsAt.get4 {w : World} {a : Option Addr} {n cap : Nat} {l : List Rd} (h : RoadsAt w (.slice a n cap) l) {i : Nat} (hi : i < l.length) :
    ∃ b off x, a = some ⟨b, off, none⟩ ∧ b < w.heap.size ∧ Hid (l[i]? = some x) ∧ w.cell? ⟨b, off + i * 4, none⟩ = some (I x.fr) ∧ w.cell? ⟨b, off + i * 4 + 1, none⟩ = some (I x.to)
      ∧ w.cell? ⟨b, off + i * 4 + 2, none⟩ = some (I x.mi) ∧ w.cell? ⟨b, off + i * 4 + 3, none⟩ = some (I x.li) := by
  obtain ⟨b, off, x, cs, ha, hb, hx, hr, hs, hj⟩ := SliceR.get h hi
  exact ⟨b, off, x, ha, hb, hx, by simpa using hj 0 (I x.fr) (by rw [hr]; rfl), hj 1 (I x.to) (by rw [hr]; rfl), hj 2 (I x.mi) (by rw [hr]; rfl), hj 3 (I x.li) (by rw [hr]; rfl)⟩

def inB (n lo hi : Int) : Bool := decide (lo ≤ n) && decide (n ≤ hi)
theorem inB_iff {n lo hi : Int} : inB n lo hi = true ↔ lo ≤ n ∧ n ≤ hi := by simp [inB]
theorem inB_not {n lo hi : Int} : inB n lo hi = false ↔ n < lo ∨ hi < n := by
  rw [← Bool.not_eq_true, inB_iff]; omega

/-- The first fault of a road. -/
def chkRoad (n : Int) (r : Rd) : Int :=
  if (!inB r.fr 0 (n - 1)) || (!inB r.to 0 (n - 1)) || r.fr == r.to then 1
  else if (!inB r.mi 1 1000000) || (r.li != -1 && !inB r.li 1 1000000) then 3 else 0
def chkRoads (n : Int) : List Rd → Int
  | [] => 0
  | r :: l => if chkRoad n r = 0 then chkRoads n l else chkRoad n r
def chkNet (n : Int) (l : List Rd) : Int := if inB n 0 100 = false then 1 else if 600 < l.length then 6 else chkRoads n l

theorem chkRoads_drop (n : Int) (l : List Rd) (j : Nat) (r : Rd) (h : l[j]? = some r) : chkRoads n (l.drop j) = if chkRoad n r = 0 then chkRoads n (l.drop (j + 1)) else chkRoad n r := by
  obtain ⟨hj, hr⟩ := List.getElem?_eq_some_iff.1 h
  rw [List.drop_eq_getElem_cons hj, hr]
  rfl

theorem chkRoads_end (n : Int) (l : List Rd) : chkRoads n (l.drop l.length) = 0 := by rw [List.drop_length]; rfl
theorem chk_bad {n : Int} {l : List Rd} {j : Nat} {r : Rd} (hd : chkRoads n (l.drop j) = chkRoads n l) (hx : l[j]? = some r) (h : chkRoad n r ≠ 0) : chkRoads n l = chkRoad n r := by
  rw [← hd, chkRoads_drop n l j r hx, if_neg h]
theorem chk_good {n : Int} {l : List Rd} {j : Nat} {r : Rd} (hd : chkRoads n (l.drop j) = chkRoads n l) (hx : l[j]? = some r) (h : chkRoad n r = 0) : chkRoads n (l.drop (j + 1)) = chkRoads n l := by
  rw [← hd, chkRoads_drop n l j r hx, if_pos h]
theorem chkNet_in {n : Int} {l : List Rd} (h : inB n 0 100 = true) (hl : l.length ≤ 600) : chkNet n l = chkRoads n l := by
  unfold chkNet; rw [if_neg (by simp [h]), if_neg (by omega)]

theorem chk_ret {n v : Int} {l : List Rd} {j : Nat} {r : Rd} (hin : inB n 0 100 = true) (hlen : (l.length : Int) ≤ 600) (hd : chkRoads n (l.drop j) = chkRoads n l) (hx : l[j]? = some r) (h : chkRoad n r = v) (hv : v ≠ 0) : v = chkNet n l := by
  rw [chkNet_in hin (by omega), chk_bad hd hx (by rw [h]; exact hv), h]

def carB (li kilos : Int) : Bool := decide (li = -1) || decide (kilos ≤ li)


theorem same_step {a b : List Int} {j : Nat} {x y : Int} (hx : a[j]? = some x) (hy : b[j]? = some y) (hp : a.take j = b.take j) : a.take (j + 1) = b.take (j + 1) ↔ x = y := by
  rw [List.take_add_one, List.take_add_one, hx, hy, hp]
  simp
theorem same_end {a b : List Int} (hl : a.length = b.length) (hp : a.take a.length = b.take a.length) : a = b := by
  rw [List.take_length] at hp
  rw [hp, hl, List.take_length]

def laterB (a b : Int) : Bool := decide (a < 0) || (decide (0 ≤ b) && decide (b ≤ a))

def fewB (n : Int) (len : Nat) : Bool := (decide (n ≤ 12) || decide (100 < n)) && decide (len ≤ 40)

end Go.Proofs.Ytmmbomkbaebodaa
