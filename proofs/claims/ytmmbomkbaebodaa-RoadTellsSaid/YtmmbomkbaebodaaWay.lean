/-
  Shortest ways: plain mathematics, no program in sight.
-/
namespace Go.Proofs.Ytmmbomkbaebodaa
set_option linter.unusedVariables false
set_option linter.unusedSimpArgs false

/-- An edge: from, to, minutes. -/
structure Ed where
  a : Nat
  b : Nat
  m : Nat
  deriving DecidableEq

inductive Way (E : List Ed) (s : Nat) : Nat → Nat → Prop
  | nil : Way E s s 0
  | snoc {t : Nat} (e : Ed) : e ∈ E → Way E s e.a t → Way E s e.b (t + e.m)

theorem exists_least (P : Nat → Prop) (h : ∃ t, P t) : ∃ m, P m ∧ ∀ t, P t → m ≤ t := by
  obtain ⟨t, ht⟩ := h
  induction t using Nat.strongRecOn with
  | ind t ih =>
    by_cases hs : ∃ u, u < t ∧ P u
    · obtain ⟨u, hu, hp⟩ := hs; exact ih u hu hp
    · exact ⟨t, ht, fun u hu => Nat.le_of_not_lt fun hlt => hs ⟨u, hlt, hu⟩⟩

def IsDst (E : List Ed) (s v : Nat) : Option Nat → Prop
  | none => ∀ t, ¬ Way E s v t
  | some d => Way E s v d ∧ ∀ t, Way E s v t → d ≤ t

theorem dst_exists (E : List Ed) (s v : Nat) : ∃ d, IsDst E s v d := by
  by_cases h : ∃ t, Way E s v t
  · obtain ⟨m, h1, h2⟩ := exists_least _ h
    exact ⟨some m, h1, h2⟩
  · exact ⟨none, fun t ht => h ⟨t, ht⟩⟩

noncomputable def dst (E : List Ed) (s v : Nat) : Option Nat := Classical.choose (dst_exists E s v)
theorem dst_spec (E : List Ed) (s v : Nat) : IsDst E s v (dst E s v) := Classical.choose_spec (dst_exists E s v)

theorem IsDst.unique {E : List Ed} {s v : Nat} {d d' : Option Nat} (h : IsDst E s v d) (h' : IsDst E s v d') : d = d' := by
  cases d with
  | none =>
    cases d' with
    | none => rfl
    | some x => exact absurd h'.1 (h x)
  | some x =>
    cases d' with
    | none => exact absurd h.1 (h' x)
    | some y => have := h.2 y h'.1; have := h'.2 x h.1; congr 1; omega

theorem IsDst.eq {E : List Ed} {s v : Nat} {d : Option Nat} (h : IsDst E s v d) : dst E s v = d := (dst_spec E s v).unique h

theorem dst_way {E : List Ed} {s v d : Nat} (h : dst E s v = some d) : Way E s v d := by have := dst_spec E s v; rw [h] at this; exact this.1
theorem dst_le {E : List Ed} {s v d t : Nat} (h : dst E s v = some d) (w : Way E s v t) : d ≤ t := by have := dst_spec E s v; rw [h] at this; exact this.2 t w
theorem dst_none {E : List Ed} {s v : Nat} (h : dst E s v = none) (t : Nat) : ¬ Way E s v t := by have := dst_spec E s v; rw [h] at this; exact this t
theorem dst_of_way {E : List Ed} {s v t : Nat} (w : Way E s v t) : ∃ d, dst E s v = some d ∧ d ≤ t := by
  cases h : dst E s v with
  | none => exact absurd w (dst_none h t)
  | some d => exact ⟨d, rfl, dst_le h w⟩

theorem dst_self (E : List Ed) (s : Nat) : dst E s s = some 0 := by
  obtain ⟨d, h, hd⟩ := dst_of_way (Way.nil (E := E) (s := s))
  rw [h]; congr 1; omega

/-- Over an edge. -/
theorem dst_edge {E : List Ed} {s : Nat} {e : Ed} (he : e ∈ E) {t : Nat} (h : dst E s e.a = some t) : ∃ t', dst E s e.b = some t' ∧ t' ≤ t + e.m :=
  dst_of_way (Way.snoc e he (dst_way h))

/-- The last edge of a least way. -/
theorem dst_last {E : List Ed} {s v t : Nat} (h : dst E s v = some t) : (v = s ∧ t = 0) ∨ ∃ e ∈ E, e.b = v ∧ ∃ u, dst E s e.a = some u ∧ t = u + e.m := by
  have w := dst_way h
  cases w with
  | nil => exact .inl ⟨rfl, rfl⟩
  | snoc e he w' =>
    obtain ⟨u, hu, hle⟩ := dst_of_way w'
    obtain ⟨t', ht', hle'⟩ := dst_edge he hu
    rw [h] at ht'
    simp only [Option.some.injEq] at ht'
    exact .inr ⟨e, he, rfl, u, hu, by omega⟩

/-- A certificate of least times. -/
structure Cert (E : List Ed) (n s : Nat) (T : Nat → Option Nat) : Prop where
  zero : T s = some 0
  edge : ∀ e ∈ E, ∀ t, T e.a = some t → ∃ t', T e.b = some t' ∧ t' ≤ t + e.m
  last : ∀ v, v < n → ∀ t, T v = some t → v = s ∨ ∃ e ∈ E, e.b = v ∧ ∃ u, T e.a = some u ∧ t = u + e.m

def Posi (E : List Ed) : Prop := ∀ e ∈ E, 1 ≤ e.m
def In (E : List Ed) (n : Nat) : Prop := ∀ e ∈ E, e.a < n ∧ e.b < n

theorem Cert.below {E : List Ed} {n s : Nat} {T : Nat → Option Nat} (c : Cert E n s T) {v t : Nat} (w : Way E s v t) : ∃ t', T v = some t' ∧ t' ≤ t := by
  induction w with
  | nil => exact ⟨0, c.zero, Nat.le_refl _⟩
  | snoc e he _ ih =>
    obtain ⟨u, hu, hle⟩ := ih
    obtain ⟨t', ht', hle'⟩ := c.edge e he u hu
    exact ⟨t', ht', by omega⟩

theorem Cert.way {E : List Ed} {n s : Nat} {T : Nat → Option Nat} (c : Cert E n s T) (hp : Posi E) (hin : In E n) : ∀ (t v : Nat), v < n → T v = some t → Way E s v t := by
  intro t
  induction t using Nat.strongRecOn with
  | ind t ih =>
    intro v hv h
    rcases c.last v hv t h with rfl | ⟨e, he, rfl, u, hu, rfl⟩
    · rw [c.zero] at h; simp only [Option.some.injEq] at h; subst h; exact .nil
    · have := hp e he
      exact .snoc e he (ih u (by omega) e.a (hin e he).1 hu)

theorem Cert.eq {E : List Ed} {n s : Nat} {T : Nat → Option Nat} (c : Cert E n s T) (hp : Posi E) (hin : In E n) {v : Nat} (hv : v < n) : T v = dst E s v := by
  symm
  apply IsDst.eq
  cases h : T v with
  | none =>
    intro t w
    obtain ⟨t', h', _⟩ := c.below w
    rw [h] at h'; cases h'
  | some t =>
    refine ⟨c.way hp hin t v hv h, fun t' w => ?_⟩
    obtain ⟨t'', h', hle⟩ := c.below w
    rw [h] at h'; simp only [Option.some.injEq] at h'; omega

theorem cert_dst (E : List Ed) (n s : Nat) : Cert E n s (dst E s) where
  zero := dst_self E s
  edge := fun _ he _ h => dst_edge he h
  last := fun _ _ _ h => by rcases dst_last h with ⟨h, _⟩ | h <;> first | exact .inl h | exact .inr h

/-! How many nodes are sooner: it bounds the least times, and the rounds that are wanted to find them. -/
noncomputable def sooner (E : List Ed) (n s t : Nat) : Nat := (List.range n).countP fun u => match dst E s u with | some d => decide (d < t) | none => false

theorem sooner_le (E : List Ed) (n s t : Nat) : sooner E n s t ≤ n := by
  have := List.countP_le_length (p := fun u => match dst E s u with | some d => decide (d < t) | none => false) (l := List.range n)
  simpa [sooner] using this

theorem countP_lt {α : Type} {p q : α → Bool} {l : List α} (h : ∀ x ∈ l, p x = true → q x = true) {y : α} (hy : y ∈ l) (hq : q y = true) (hp : p y = false) : l.countP p < l.countP q := by
  induction l with
  | nil => cases hy
  | cons x r ih =>
    have hm : r.countP p ≤ r.countP q := List.countP_mono_left fun z hz => h z (List.mem_cons_of_mem _ hz)
    simp only [List.countP_cons]
    rcases List.mem_cons.1 hy with rfl | hy'
    · simp [hq, hp]; omega
    · have h1 := ih (fun z hz => h z (List.mem_cons_of_mem _ hz)) hy'
      have h2 := h x (List.mem_cons_self ..)
      by_cases hx : p x = true
      · simp [hx, h2 hx]; omega
      · simp [hx]; split <;> omega

theorem sooner_lt {E : List Ed} {n s u d t : Nat} (hu : u < n) (h : dst E s u = some d) (hdt : d < t) : sooner E n s d < sooner E n s t := by
  unfold sooner
  refine countP_lt (fun x _ hx => ?_) (List.mem_range.2 hu) ?_ ?_
  · revert hx; split
    · intro hx; simp only [decide_eq_true_eq] at hx ⊢; omega
    · intro hx; exact hx
  · rw [h]; simpa using hdt
  · rw [h]; simp

theorem dst_le_sooner {E : List Ed} {n s M : Nat} (hp : Posi E) (hin : In E n) (hM : ∀ e ∈ E, e.m ≤ M) : ∀ (t v : Nat), dst E s v = some t → t ≤ sooner E n s t * M := by
  intro t
  induction t using Nat.strongRecOn with
  | ind t ih =>
    intro v h
    rcases dst_last h with ⟨_, rfl⟩ | ⟨e, he, rfl, u, hu, rfl⟩
    · omega
    · have h1 := hp e he
      have h2 := ih u (by omega) e.a hu
      have h3 := sooner_lt (n := n) (t := u + e.m) (hin e he).1 hu (by omega)
      have h4 := hM e he
      have h5 := Nat.mul_le_mul_right M (show sooner E n s u + 1 ≤ sooner E n s (u + e.m) from h3)
      rw [Nat.add_mul] at h5
      omega

theorem dst_bound {E : List Ed} {n s M : Nat} (hp : Posi E) (hin : In E n) (hM : ∀ e ∈ E, e.m ≤ M) {t v : Nat} (h : dst E s v = some t) : t ≤ n * M := by
  have h1 := dst_le_sooner hp hin hM t v h
  have h2 := Nat.mul_le_mul_right M (sooner_le E n s t)
  omega

/-! The times as ints. -/
def encT : Option Nat → Int
  | none => -1
  | some d => d
theorem encT_inj {a b : Option Nat} (h : encT a = encT b) : a = b := by
  cases a <;> cases b <;> simp [encT] at h ⊢ <;> omega
noncomputable def dlist (E : List Ed) (n s : Nat) : List Int := (List.range n).map fun v => encT (dst E s v)
theorem dlist_length (E : List Ed) (n s : Nat) : (dlist E n s).length = n := by simp [dlist]
theorem dlist_get (E : List Ed) {n s v : Nat} (hv : v < n) : (dlist E n s)[v]? = some (encT (dst E s v)) := by simp [dlist, hv]

/-! Relaxing all edges again and again. -/
structure Sound (E : List Ed) (s : Nat) (T : Nat → Option Nat) : Prop where
  zero : T s = some 0
  way : ∀ v t, T v = some t → Way E s v t

def Done (E : List Ed) (n s : Nat) (T : Nat → Option Nat) (k : Nat) : Prop := ∀ v d, dst E s v = some d → sooner E n s d ≤ k → T v = some d

/-- T is not later than T0. -/
def NotLater (T0 T : Nat → Option Nat) : Prop := ∀ v t, T0 v = some t → ∃ t', T v = some t' ∧ t' ≤ t
theorem NotLater.refl (T : Nat → Option Nat) : NotLater T T := fun _ t h => ⟨t, h, Nat.le_refl _⟩
theorem NotLater.trans {A B C : Nat → Option Nat} (h : NotLater A B) (k : NotLater B C) : NotLater A C := fun v t ht => by
  obtain ⟨t', h', hl⟩ := h v t ht
  obtain ⟨t'', h'', hl'⟩ := k v t' h'
  exact ⟨t'', h'', by omega⟩

/-- Within a round that began at T0: the edges F have been looked at. -/
def Looked (F : List Ed) (T0 T : Nat → Option Nat) : Prop := ∀ e ∈ F, ∀ u, T0 e.a = some u → ∃ t', T e.b = some t' ∧ t' ≤ u + e.m

def setT (T : Nat → Option Nat) (v t : Nat) : Nat → Option Nat := fun x => if x = v then some t else T x

theorem Sound.not_less {E : List Ed} {s : Nat} {T : Nat → Option Nat} (h : Sound E s T) {v t d : Nat} (ht : T v = some t) (hd : dst E s v = some d) : d ≤ t := dst_le hd (h.way v t ht)

theorem done_zero {E : List Ed} {n s : Nat} {T : Nat → Option Nat} (hp : Posi E) (hin : In E n) (h : T s = some 0) : Done E n s T 0 := by
  intro v d hd hs
  rcases dst_last hd with ⟨rfl, rfl⟩ | ⟨e, he, rfl, u, hu, rfl⟩
  · exact h
  · have := hp e he
    have := sooner_lt (n := n) (t := u + e.m) (hin e he).1 hu (by omega)
    omega

theorem done_succ {E : List Ed} {n s k : Nat} {T0 T : Nat → Option Nat} (hp : Posi E) (hin : In E n) (h0 : Done E n s T0 k) (hs : Sound E s T) (hl : Looked E T0 T) : Done E n s T (k + 1) := by
  intro v d hd hk
  rcases dst_last hd with ⟨rfl, rfl⟩ | ⟨e, he, rfl, u, hu, rfl⟩
  · exact hs.zero
  · have := hp e he
    have := sooner_lt (n := n) (t := u + e.m) (hin e he).1 hu (by omega)
    obtain ⟨t', ht', hle⟩ := hl e he u (h0 _ _ hu (by omega))
    have := hs.not_less ht' hd
    rw [ht']; congr 1; omega

theorem done_all {E : List Ed} {n s : Nat} {T : Nat → Option Nat} (hs : Sound E s T) (h : Done E n s T n) (v : Nat) : T v = dst E s v := by
  cases hd : dst E s v with
  | some d => exact h v d hd (sooner_le _ _ _ _)
  | none =>
    cases ht : T v with
    | none => rfl
    | some t => exact absurd (hs.way v t ht) (dst_none hd t)

/-- An edge that makes a time less. -/
theorem relax_sound {E : List Ed} {s : Nat} {T : Nat → Option Nat} (hs : Sound E s T) {e : Ed} (he : e ∈ E) {u : Nat} (hu : T e.a = some u) (hless : ∀ t, T e.b = some t → u + e.m < t) : Sound E s (setT T e.b (u + e.m)) where
  zero := by
    unfold setT
    split
    · rename_i h
      have := hless 0 (by rw [← h]; exact hs.zero)
      omega
    · exact hs.zero
  way := fun v t h => by
    unfold setT at h
    split at h
    · rename_i hv; subst hv
      simp only [Option.some.injEq] at h; subst h
      exact .snoc e he (hs.way _ _ hu)
    · exact hs.way v t h

theorem relax_notLater {T : Nat → Option Nat} {v t : Nat} (hless : ∀ t', T v = some t' → t < t') : NotLater T (setT T v t) := fun x t' h => by
  unfold setT
  split
  · rename_i hx; subst hx; exact ⟨t, rfl, Nat.le_of_lt (hless _ h)⟩
  · exact ⟨t', h, Nat.le_refl _⟩

theorem looked_keep {F : List Ed} {T0 T T' : Nat → Option Nat} (h : Looked F T0 T) (k : NotLater T T') : Looked F T0 T' := fun e he u hu => by
  obtain ⟨t', h', hl⟩ := h e he u hu
  obtain ⟨t'', h'', hl'⟩ := k _ _ h'
  exact ⟨t'', h'', by omega⟩

theorem looked_append {F G : List Ed} {T0 T : Nat → Option Nat} (h : Looked F T0 T) (k : Looked G T0 T) : Looked (F ++ G) T0 T := fun e he => by
  rcases List.mem_append.1 he with h' | h'
  · exact h e h'
  · exact k e h'

/-! Taking the earliest stop again and again. -/
structure Wave (E : List Ed) (s : Nat) (T : Nat → Option Nat) (H : List (Nat × Nat)) : Prop where
  right : ∀ v t, T v = some t → dst E s v = some t
  way : ∀ x ∈ H, Way E s x.2 x.1
  front : ∀ e ∈ E, ∀ t, T e.a = some t → T e.b ≠ none ∨ (t + e.m, e.b) ∈ H
  start : T s ≠ none ∨ (0, s) ∈ H

theorem Wave.ahead {E : List Ed} {s : Nat} {T : Nat → Option Nat} {H : List (Nat × Nat)} (h : Wave E s T H) {v t : Nat} (w : Way E s v t) (hv : T v = none) : ∃ x ∈ H, x.1 ≤ t := by
  induction w with
  | nil =>
    rcases h.start with h' | h'
    · exact absurd hv h'
    · exact ⟨_, h', Nat.le_refl _⟩
  | snoc e he w ih =>
    cases hu : T e.a with
    | none => obtain ⟨x, hx, hle⟩ := ih hu; exact ⟨x, hx, by omega⟩
    | some d =>
      have := dst_le (h.right _ _ hu) w
      rcases h.front e he d hu with h' | h'
      · exact absurd hv h'
      · exact ⟨_, h', by show d + e.m ≤ _; omega⟩

theorem Wave.least {E : List Ed} {s : Nat} {T : Nat → Option Nat} {H : List (Nat × Nat)} (h : Wave E s T H) {t v : Nat} (hm : (t, v) ∈ H) (hmin : ∀ x ∈ H, t ≤ x.1) (hv : T v = none) : dst E s v = some t := by
  apply IsDst.eq
  refine ⟨h.way _ hm, fun t' w => ?_⟩
  obtain ⟨x, hx, hle⟩ := h.ahead w hv
  have := hmin x hx
  omega

theorem Wave.last {E : List Ed} {s : Nat} {T : Nat → Option Nat} (h : Wave E s T []) (v : Nat) : T v = dst E s v := by
  cases hT : T v with
  | some t => exact (h.right _ _ hT).symm
  | none =>
    symm; apply IsDst.eq
    intro t w
    obtain ⟨x, hx, _⟩ := h.ahead w hT
    cases hx

/-- A stop at a node that was reached before is passed over. -/
theorem Wave.skip {E : List Ed} {s : Nat} {T : Nat → Option Nat} {H H' : List (Nat × Nat)} (h : Wave E s T H) {t v : Nat} (hmem : ∀ x, x ∈ H ↔ x = (t, v) ∨ x ∈ H') (hv : T v ≠ none) : Wave E s T H' where
  right := h.right
  way := fun x hx => h.way x ((hmem x).2 (.inr hx))
  front := fun e he u hu => by
    rcases h.front e he u hu with h' | h'
    · exact .inl h'
    · rcases (hmem _).1 h' with h'' | h''
      · simp only [Prod.mk.injEq] at h''; rw [h''.2]; exact .inl hv
      · exact .inr h''
  start := by
    rcases h.start with h' | h'
    · exact .inl h'
    · rcases (hmem _).1 h' with h'' | h''
      · simp only [Prod.mk.injEq] at h''; rw [h''.2]; exact .inl hv
      · exact .inr h''

/-- The earliest stop, at a node that was not reached before: the stops behind its edges come in. -/
theorem Wave.step {E : List Ed} {s : Nat} {T : Nat → Option Nat} {H H' H'' : List (Nat × Nat)} (h : Wave E s T H) {t v : Nat} (hmem : ∀ x, x ∈ H ↔ x = (t, v) ∨ x ∈ H') (hmin : ∀ x ∈ H, t ≤ x.1) (hv : T v = none)
    (hnew : ∀ x, x ∈ H'' ↔ x ∈ H' ∨ ∃ e ∈ E, e.a = v ∧ x = (t + e.m, e.b)) : Wave E s (setT T v t) H'' := by
  have hd := h.least ((hmem _).2 (.inl rfl)) hmin hv
  refine ⟨fun x u hx => ?_, fun x hx => ?_, fun e he u hu => ?_, ?_⟩
  · unfold setT at hx
    split at hx
    · rename_i hxv; subst hxv; simp only [Option.some.injEq] at hx; subst hx; exact hd
    · exact h.right _ _ hx
  · rcases (hnew x).1 hx with h' | ⟨e, he, rfl, rfl⟩
    · exact h.way x ((hmem x).2 (.inr h'))
    · exact .snoc e he (h.way _ ((hmem _).2 (.inl rfl)))
  · unfold setT at hu ⊢
    by_cases hb : e.b = v
    · simp [hb]
    · simp only [hb, if_false]
      split at hu
      · rename_i ha
        simp only [Option.some.injEq] at hu; subst hu
        exact .inr ((hnew _).2 (.inr ⟨e, he, ha, rfl⟩))
      · rcases h.front e he u hu with h' | h'
        · exact .inl h'
        · rcases (hmem _).1 h' with h'' | h''
          · simp only [Prod.mk.injEq] at h''; exact absurd h''.2 hb
          · exact .inr ((hnew _).2 (.inl h''))
  · unfold setT
    by_cases hs : s = v
    · simp [hs]
    · simp only [hs, if_false]
      rcases h.start with h' | h'
      · exact .inl h'
      · rcases (hmem _).1 h' with h'' | h''
        · simp only [Prod.mk.injEq] at h''; exact absurd h''.2 hs
        · exact .inr ((hnew _).2 (.inl h''))

theorem wave_start (E : List Ed) (s : Nat) : Wave E s (fun _ => none) [(0, s)] where
  right := fun _ _ h => by cases h
  way := fun x hx => by simp only [List.mem_singleton] at hx; subst hx; exact .nil
  front := fun _ _ _ h => by cases h
  start := .inr (by simp)

end Go.Proofs.Ytmmbomkbaebodaa
