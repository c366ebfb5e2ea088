/-
  Heaps of stops: plain mathematics of what container/heap does to a list.
-/
namespace Go.Proofs.Ytmmbomkbaebodaa
set_option linter.unusedVariables false
set_option linter.unusedSimpArgs false

abbrev Stop := Nat × Nat
def tm (l : List Stop) (i : Nat) : Nat := (l[i]?.map Prod.fst).getD 0

def swapL (l : List Stop) (i k : Nat) : List Stop := if h : i < l.length ∧ k < l.length then (l.set i l[k]).set k l[i] else l

theorem swapL_length (l : List Stop) (i k : Nat) : (swapL l i k).length = l.length := by unfold swapL; split <;> simp
theorem swapL_perm (l : List Stop) (i k : Nat) : (swapL l i k).Perm l := by
  unfold swapL
  split
  · rename_i h; exact List.set_set_perm h.1 h.2
  · exact .refl _

theorem swapL_get {l : List Stop} {i k : Nat} (hi : i < l.length) (hk : k < l.length) (j : Nat) : (swapL l i k)[j]? = if j = k then l[i]? else if j = i then l[k]? else l[j]? := by
  unfold swapL
  rw [dif_pos ⟨hi, hk⟩]
  simp only [List.getElem?_set, List.length_set]
  grind

theorem tm_swap {l : List Stop} {i k : Nat} (hi : i < l.length) (hk : k < l.length) (j : Nat) : tm (swapL l i k) j = if j = k then tm l i else if j = i then tm l k else tm l j := by
  unfold tm
  rw [swapL_get hi hk]
  split
  · rfl
  · split <;> rfl

/-- The first n stops are a heap. -/
def HeapN (l : List Stop) (n : Nat) : Prop := ∀ c, 0 < c → c < n → tm l ((c - 1) / 2) ≤ tm l c

/-- All but node j towards its parent. -/
def UpInv (l : List Stop) (n j : Nat) : Prop := (∀ c, 0 < c → c < n → c ≠ j → tm l ((c - 1) / 2) ≤ tm l c) ∧ (0 < j → ∀ c, 0 < c → c < n → (c - 1) / 2 = j → tm l ((j - 1) / 2) ≤ tm l c)

theorem up_done {l : List Stop} {n j : Nat} (h : UpInv l n j) (hj : j = 0 ∨ tm l ((j - 1) / 2) ≤ tm l j) : HeapN l n := by
  intro c h0 hn
  by_cases hc : c = j
  · subst hc; rcases hj with h' | h'
    · omega
    · exact h'
  · exact h.1 c h0 hn hc

theorem up_step {l : List Stop} {n j : Nat} (hn : n ≤ l.length) (hj : j < n) (h0 : 0 < j) (h : UpInv l n j) (hlt : tm l j < tm l ((j - 1) / 2)) : UpInv (swapL l ((j - 1) / 2) j) n ((j - 1) / 2) := by
  obtain ⟨h1, h2⟩ := h
  have hi : (j - 1) / 2 < l.length := by omega
  have hj' : j < l.length := by omega
  refine ⟨fun c hc0 hcn hcj => ?_, fun hp c hc0 hcn hcp => ?_⟩
  · simp only [tm_swap hi hj']
    have a := h1 c hc0 hcn
    have b := h2 h0 c hc0 hcn
    grind
  · simp only [tm_swap hi hj']
    have a := h1 ((j - 1) / 2) hp (by omega) (by omega)
    have b := h1 c hc0 hcn
    rw [if_neg (by omega), if_neg (by omega)]
    by_cases hc : c = j
    · rw [if_pos hc]; exact a
    · have := b hc
      rw [hcp] at this
      rw [if_neg hc, if_neg (by omega)]
      omega

/-- All but node i towards its children. -/
def DownInv (l : List Stop) (n i : Nat) : Prop := (∀ c, 0 < c → c < n → (c - 1) / 2 ≠ i → tm l ((c - 1) / 2) ≤ tm l c) ∧ (0 < i → ∀ c, 0 < c → c < n → (c - 1) / 2 = i → tm l ((i - 1) / 2) ≤ tm l c)

theorem down_leaf {l : List Stop} {n i : Nat} (h : DownInv l n i) (hl : n ≤ 2 * i + 1) : HeapN l n := by
  intro c h0 hn
  exact h.1 c h0 hn (by omega)

theorem down_done {l : List Stop} {n i j : Nat} (h : DownInv l n i) (hle : tm l i ≤ tm l j) (hj1 : 2 * i + 1 < n → tm l j ≤ tm l (2 * i + 1)) (hj2 : 2 * i + 2 < n → tm l j ≤ tm l (2 * i + 2)) : HeapN l n := by
  intro c h0 hn
  by_cases hc : (c - 1) / 2 = i
  · rw [hc]
    rcases (show c = 2 * i + 1 ∨ c = 2 * i + 2 by omega) with rfl | rfl
    · have := hj1 hn; omega
    · have := hj2 hn; omega
  · exact h.1 c h0 hn hc

theorem down_step {l : List Stop} {n i j : Nat} (hn : n ≤ l.length) (hj : j < n) (hjc : j = 2 * i + 1 ∨ j = 2 * i + 2) (h : DownInv l n i) (hlt : tm l j < tm l i)
    (hj1 : 2 * i + 1 < n → tm l j ≤ tm l (2 * i + 1)) (hj2 : 2 * i + 2 < n → tm l j ≤ tm l (2 * i + 2)) : DownInv (swapL l i j) n j := by
  obtain ⟨h1, h2⟩ := h
  have hi : i < l.length := by omega
  have hj' : j < l.length := by omega
  refine ⟨fun c hc0 hcn hcj => ?_, fun hp c hc0 hcn hcp => ?_⟩
  · simp only [tm_swap hi hj']
    by_cases hci : (c - 1) / 2 = i
    · have hcc : c = 2 * i + 1 ∨ c = 2 * i + 2 := by omega
      have hci' : c ≠ i := by omega
      rcases hcc with rfl | rfl
      · have := hj1 hcn; grind
      · have := hj2 hcn; grind
    · have a := h1 c hc0 hcn hci
      by_cases hc : c = j
      · omega
      · by_cases hc' : c = i
        · subst hc'
          have b := h2 hc0 j (by omega) hj (by omega)
          grind
        · grind
  · simp only [tm_swap hi hj']
    have a := h1 c hc0 hcn (by omega)
    have e : (j - 1) / 2 = i := by omega
    grind

/-- The root of a heap is the least. -/
theorem heap_root {l : List Stop} {n : Nat} (h : HeapN l n) : ∀ c, c < n → tm l 0 ≤ tm l c := by
  intro c
  induction c using Nat.strongRecOn with
  | ind c ih =>
    intro hc
    by_cases h0 : c = 0
    · subst h0; exact Nat.le_refl _
    · have := h c (by omega) hc
      have := ih ((c - 1) / 2) (by omega) (by omega)
      omega

theorem tm_of_get {l : List Stop} {i : Nat} {x : Stop} (h : l[i]? = some x) : tm l i = x.1 := by simp [tm, h]

/-- The root and the last one exchanged: all but the root towards its children. -/
theorem down_start {l : List Stop} {n : Nat} (h : HeapN l (n + 1)) (hl : l.length = n + 1) : DownInv (swapL l 0 n) n 0 := by
  refine ⟨fun c hc0 hcn hcj => ?_, fun hp => by omega⟩
  rw [tm_swap (by omega) (by omega), tm_swap (by omega) (by omega)]
  have := h c hc0 (by omega)
  grind

/-- A stop is laid at the end. -/
theorem up_start {l : List Stop} (x : Stop) (h : HeapN l l.length) : UpInv (l ++ [x]) (l.length + 1) l.length := by
  have e : ∀ c, c < l.length → tm (l ++ [x]) c = tm l c := fun c hc => by simp [tm, List.getElem?_append_left hc]
  refine ⟨fun c hc0 hcn hcj => ?_, fun hp c hc0 hcn hcp => by omega⟩
  rw [e _ (by omega), e _ (by omega)]
  exact h c hc0 (by omega)

end Go.Proofs.Ytmmbomkbaebodaa
