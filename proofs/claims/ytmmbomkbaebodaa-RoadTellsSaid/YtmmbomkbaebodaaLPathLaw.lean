/-
  RoadPath: each part of the first one of the shortest ways is the first one of the shortest ways between its ends: plain mathematics.
-/
import Derived.Test.YtmmbomkbaebodaaTurnedLaw
namespace Go.Proofs.Ytmmbomkbaebodaa
set_option linter.unusedVariables false
set_option linter.unusedSimpArgs false
open Go.RowKit

theorem lef_eq (l : List Rd) (ki : Int) (b a : Nat) : lef l ki b a = dst (edges ki false l) a b := by
  unfold lef
  rw [← edges_turn, dst_turn]

/-- The node behind k roads. -/
def nd (l : List Rd) : Nat → List Nat → Nat → Nat
  | s, _, 0 => s
  | s, [], _ + 1 => s
  | _, i :: p, k + 1 => nd l ((l[i]?.map fun x => x.to.toNat).getD 0) p k
/-- The minutes of k roads. -/
def ms (l : List Rd) : List Nat → Nat → Nat
  | _, 0 => 0
  | [], _ + 1 => 0
  | i :: p, k + 1 => (l[i]?.map fun x => x.mi.toNat).getD 0 + ms l p k

theorem nd_zero (l : List Rd) (s : Nat) (p : List Nat) : nd l s p 0 = s := by cases p <;> rfl
theorem ms_zero (l : List Rd) (p : List Nat) : ms l p 0 = 0 := by cases p <;> rfl
theorem OkR.edge {l : List Rd} {ki : Int} {b a i : Nat} (h : OkR l ki b a i) : ∃ x u, l[i]? = some x ∧ x.fr = (a : Int) ∧ carB x.li ki = true ∧ dst (edges ki false l) x.to.toNat b = some u ∧ dst (edges ki false l) a b = some (u + x.mi.toNat) := by
  obtain ⟨x, h1, h2, h3, u, h4, h5⟩ := h
  rw [lef_eq] at h4 h5
  exact ⟨x, u, h1, h2, h3, h4, h5⟩

theorem PathR.dst {l : List Rd} {ki : Int} {b a : Nat} {p : List Nat} (h : PathR l ki b a p) : Go.Proofs.Ytmmbomkbaebodaa.dst (edges ki false l) a b = some (ms l p p.length) ∧ nd l a p p.length = b := by
  induction h with
  | nil => exact ⟨dst_self _ _, rfl⟩
  | cons hne hok hmin hx hp ih =>
    obtain ⟨x, u, h1, h2, h3, h4, h5⟩ := hok.edge
    rw [hx] at h1
    cases h1
    rw [ih.1] at h4
    cases h4
    refine ⟨?_, ?_⟩
    · rw [h5]
      simp only [List.length_cons, ms, hx, Option.map_some, Option.getD_some]
      rw [Nat.add_comm]
    · simp only [List.length_cons, nd, hx, Option.map_some, Option.getD_some]
      exact ih.2

/-- Behind k roads the rest is the path. -/
theorem PathR.drop {l : List Rd} {ki : Int} {b a : Nat} {p : List Nat} (h : PathR l ki b a p) : ∀ k, k ≤ p.length → PathR l ki b (nd l a p k) (p.drop k) := by
  induction h with
  | nil => intro k hk; simp only [List.length_nil, Nat.le_zero] at hk; subst hk; exact .nil
  | cons hne hok hmin hx hp ih =>
    intro k hk
    cases k with
    | zero => exact .cons hne hok hmin hx hp
    | succ k =>
      simp only [List.drop_succ_cons, nd, hx, Option.map_some, Option.getD_some]
      exact ih k (by simpa using hk)

theorem nd_le {l : List Rd} {n : Nat} (hG : Good n l) {ki : Int} {b a : Nat} {p : List Nat} (h : PathR l ki b a p) (ha : a < n) : ∀ k, nd l a p k < n := by
  induction h with
  | nil => intro k; cases k <;> simpa [nd] using ha
  | cons hne hok hmin hx hp ih =>
    intro k
    cases k with
    | zero => simpa [nd] using ha
    | succ k =>
      simp only [nd, hx, Option.map_some, Option.getD_some]
      exact ih (by have := hG.road _ (List.mem_of_getElem? hx); omega) k

/-- What the j-th road of the path is. -/
theorem PathR.road {l : List Rd} {ki : Int} {b a : Nat} {p : List Nat} (h : PathR l ki b a p) : ∀ j, j < p.length → ∃ i x, p[j]? = some i ∧ l[i]? = some x ∧ x.fr = (nd l a p j : Int) ∧ carB x.li ki = true ∧ nd l a p (j + 1) = x.to.toNat ∧ ms l p (j + 1) = ms l p j + x.mi.toNat := by
  induction h with
  | nil => intro j hj; simp at hj
  | cons hne hok hmin hx hp ih =>
    rename_i a' i x p
    intro j hj
    cases j with
    | zero =>
      obtain ⟨y, u, h1, h2, h3, _, _⟩ := hok.edge
      rw [hx] at h1
      cases h1
      refine ⟨i, x, rfl, hx, h2, h3, ?_, ?_⟩
      · simp [nd, hx]
      · cases p <;> simp [ms, hx]
    | succ j =>
      obtain ⟨i', x', k1, k2, k3, k4, k5, k6⟩ := ih j (by simpa using hj)
      refine ⟨i', x', by simpa using k1, k2, ?_, k4, ?_, ?_⟩
      · simpa only [nd, hx, Option.map_some, Option.getD_some] using k3
      · simpa only [nd, hx, Option.map_some, Option.getD_some] using k5
      · simp only [ms, hx, Option.map_some, Option.getD_some] at k6 ⊢
        rw [k6, Nat.add_assoc]

/-- A first road of a shortest way is one to each node of that way. -/
theorem OkR.part {l : List Rd} {ki : Int} {b m a i dm : Nat} (hab : ∃ u, dst (edges ki false l) a m = some u ∧ dst (edges ki false l) a b = some (u + dm)) (hmb : dst (edges ki false l) m b = some dm) (h : OkR l ki m a i) : OkR l ki b a i := by
  obtain ⟨x, u, h1, h2, h3, h4, h5⟩ := h.edge
  obtain ⟨w, k1, k2⟩ := hab
  rw [h5] at k1
  cases k1
  have he : (⟨a, x.to.toNat, x.mi.toNat⟩ : Ed) ∈ edges ki false l := by
    have := edges_mem (bk := false) (List.mem_of_getElem? h1) h3
    simpa [h2] using this
  -- on to b: at most u + dm
  obtain ⟨d1, e1, e2⟩ := dst_tri h4 hmb
  -- and not less
  have hw : Way (edges ki false l) a x.to.toNat (0 + x.mi.toNat) := Way.snoc ⟨a, x.to.toNat, x.mi.toNat⟩ he .nil
  have h6 := dst_le k2 (hw.trans (dst_way e1))
  have hd : d1 = u + dm := by omega
  refine ⟨x, h1, h2, h3, d1, by rw [lef_eq]; exact e1, ?_⟩
  rw [lef_eq, k2, hd]
  congr 1
  omega

/-- The first k roads are the path to the node behind them. -/
theorem PathR.take {l : List Rd} {ki : Int} {b a : Nat} {p : List Nat} (hpos : ∀ x ∈ l, 1 ≤ x.mi.toNat) (h : PathR l ki b a p) : ∀ k, k ≤ p.length → PathR l ki (nd l a p k) a (p.take k) ∧
    ∃ dm, Go.Proofs.Ytmmbomkbaebodaa.dst (edges ki false l) (nd l a p k) b = some dm ∧ Go.Proofs.Ytmmbomkbaebodaa.dst (edges ki false l) a (nd l a p k) = some (ms l p k) ∧ Go.Proofs.Ytmmbomkbaebodaa.dst (edges ki false l) a b = some (ms l p k + dm) := by
  induction h with
  | nil =>
    intro k hk
    simp only [List.length_nil, Nat.le_zero] at hk
    subst hk
    exact ⟨.nil, 0, dst_self _ _, dst_self _ _, dst_self _ _⟩
  | cons hne hok hmin hx hp ih =>
    rename_i a i x p
    intro k hk
    cases k with
    | zero => exact ⟨.nil, _, (PathR.cons hne hok hmin hx hp).dst.1, dst_self _ _, by simpa [ms] using (PathR.cons hne hok hmin hx hp).dst.1⟩
    | succ k =>
      obtain ⟨hR, dm, e1, e2, e3⟩ := ih k (by simpa using hk)
      obtain ⟨y, u, h1, h2, h3, h4, h5⟩ := hok.edge
      rw [hx] at h1
      cases h1
      rw [e3] at h4
      cases h4
      have en : nd l a (i :: p) (k + 1) = nd l x.to.toNat p k := by simp only [nd, hx, Option.map_some, Option.getD_some]
      have em : ms l (i :: p) (k + 1) = x.mi.toNat + ms l p k := by simp only [ms, hx, Option.map_some, Option.getD_some]
      rw [en, em]
      have he : (⟨a, x.to.toNat, x.mi.toNat⟩ : Ed) ∈ edges ki false l := by
        have := edges_mem (bk := false) (List.mem_of_getElem? hx) h3
        simpa [h2] using this
      have hw : Way (edges ki false l) a x.to.toNat (0 + x.mi.toNat) := Way.snoc ⟨a, x.to.toNat, x.mi.toNat⟩ he .nil
      -- the distance to the node
      obtain ⟨dk, k1, k2⟩ := dst_of_way (hw.trans (dst_way e2))
      obtain ⟨d3, k3, k4⟩ := dst_tri k1 e1
      rw [h5] at k3
      cases k3
      have hdk : dk = x.mi.toNat + ms l p k := by omega
      subst hdk
      have hxp := hpos x (List.mem_of_getElem? hx)
      have hanm : a ≠ nd l x.to.toNat p k := by
        intro h
        rw [← h, dst_self] at k1
        have := Option.some.inj k1
        omega
      have hok' : OkR l ki (nd l x.to.toNat p k) a i := ⟨x, hx, h2, h3, ms l p k, by rw [lef_eq]; exact e2, by rw [lef_eq, k1, Nat.add_comm]⟩
      have hpart : ∃ u, Go.Proofs.Ytmmbomkbaebodaa.dst (edges ki false l) a (nd l x.to.toNat p k) = some u ∧ Go.Proofs.Ytmmbomkbaebodaa.dst (edges ki false l) a _ = some (u + dm) := ⟨_, k1, by rw [h5]; congr 1; omega⟩
      refine ⟨.cons hanm hok' (fun i' hi' h' => hmin i' hi' (OkR.part hpart e1 h')) hx hR, dm, e1, k1, by rw [h5]; congr 1; omega⟩

theorem pathL_part {N : Nat} {l : List Rd} {ki : Int} {S D d k : Nat} {p : List Nat} (hc : chkNet N l = 0) (hS : S < N) (hD : D < N) (hd : lef l ki D S = some d) (hp : PathR l ki D S p) (hk : k ≤ p.length) :
    pathL N l S (nd l S p k) ki = some ((p.take k).map fun i : Nat => (i : Int)) ∧ pathL N l (nd l S p k) D ki = some ((p.drop k).map fun i : Nat => (i : Int)) := by
  have hG := good_of hc
  have hn := nd_le hG hp hS k
  have hpos : ∀ x ∈ l, 1 ≤ x.mi.toNat := fun x hx => by have := hG.road x hx; omega
  obtain ⟨h1, dm, e1, e2, e3⟩ := hp.take hpos k hk
  refine ⟨?_, ?_⟩
  · rw [pathL_some hc hS hn (by rw [lef_eq]; exact e2), pathP_eq h1]
  · rw [pathL_some hc hn hD (by rw [lef_eq]; exact e1), pathP_eq (hp.drop k hk)]
theorem ms_mono (l : List Rd) : ∀ (p : List Nat) (j k : Nat), j ≤ k → ms l p j ≤ ms l p k := by
  intro p
  induction p with
  | nil => intro j k _; cases j <;> cases k <;> simp [ms]
  | cons i p ih =>
    intro j k h
    cases j with
    | zero => rw [ms_zero]; exact Nat.zero_le _
    | succ j =>
      cases k with
      | zero => omega
      | succ k => simp only [ms]; have := ih j k (by omega); omega
theorem PathR.le {l : List Rd} {ki : Int} {b a : Nat} {p : List Nat} (_ : PathR l ki b a p) {j : Nat} (h : j ≤ p.length) : ms l p j ≤ ms l p p.length := ms_mono l p j _ h
/-- The middle of the law's loop. -/
def mid (l : List Rd) (s : Nat) (p : List Nat) (k j : Nat) : Nat := if k ≤ j then nd l s p k else s
theorem mid_zero (l : List Rd) (s : Nat) (p : List Nat) (k : Nat) : mid l s p k 0 = s := by
  unfold mid
  split
  · rename_i h
    rw [Nat.le_zero.1 h, nd_zero]
  · rfl
theorem mid_hit (l : List Rd) (s : Nat) (p : List Nat) {k j : Nat} (h : j + 1 = k) : mid l s p k (j + 1) = nd l s p (j + 1) := by
  unfold mid
  rw [if_pos (by omega), h]
theorem mid_miss (l : List Rd) (s : Nat) (p : List Nat) {k j : Nat} (h : j + 1 ≠ k) : mid l s p k (j + 1) = mid l s p k j := by
  unfold mid
  by_cases hk : k ≤ j
  · rw [if_pos (by omega), if_pos hk]
  · rw [if_neg (by omega), if_neg hk]
theorem mid_end (l : List Rd) (s : Nat) (p : List Nat) {k j : Nat} (h : k ≤ j) : mid l s p k j = nd l s p k := by
  unfold mid
  rw [if_pos h]
end Go.Proofs.Ytmmbomkbaebodaa
