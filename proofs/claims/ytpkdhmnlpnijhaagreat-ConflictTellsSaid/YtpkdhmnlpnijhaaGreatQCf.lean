/-
  Layer 12, plain: the filter that deletes rows one after the other; refutations use only the rows whose multipliers are not 0.
-/
import Derived.Test.YtpkdhmnlpnijhaaGreatQSpS
import Derived.Test.YtpkdhmnlpnijhaaGreatQSd
namespace Go.Proofs.YtpkdhmnlpnijhaaGreat
set_option linter.unusedVariables false
set_option linter.unusedSimpArgs false
set_option linter.unusedSectionVars false
open Go Go.RowKit
set_option maxRecDepth 100000
def leftC (ns : List Nat → Bool) (m : Nat) : Nat → List Nat
 | 0 => List.range m
 | i + 1 => if ns ((leftC ns m i).filter fun k => k != i) then (leftC ns m i).filter fun k => k != i else leftC ns m i
abbrev lessC (ns : List Nat → Bool) (m i : Nat) : List Nat := (leftC ns m i).filter fun k => k != i
abbrev conflictC (ns : List Nat → Bool) (m : Nat) : List Nat := leftC ns m m
section
variable {ns : List Nat → Bool} {m : Nat}
theorem leftC_step (i : Nat) : (ns (lessC ns m i) = true ∧ leftC ns m (i + 1) = lessC ns m i) ∨ (ns (lessC ns m i) = false ∧ leftC ns m (i + 1) = leftC ns m i) := by
 cases h : ns (lessC ns m i)
 · exact .inr ⟨rfl, by simp only [leftC]; rw [if_neg (by rw [h]; decide)]⟩
 · exact .inl ⟨rfl, by simp only [leftC]; rw [if_pos h]⟩
theorem mem_less (i k : Nat) : k ∈ lessC ns m i ↔ k ∈ leftC ns m i ∧ k ≠ i := by simp [lessC]
theorem leftC_lt : ∀ i k, k ∈ leftC ns m i → k < m
 | 0, k, h => by simpa [leftC] using h
 | i + 1, k, h => by
   rcases leftC_step (ns := ns) (m := m) i with ⟨_, e⟩ | ⟨_, e⟩
   · rw [e, mem_less] at h; exact leftC_lt i k h.1
   · rw [e] at h; exact leftC_lt i k h
theorem leftC_high : ∀ i k, i ≤ k → k < m → k ∈ leftC ns m i
 | 0, k, _, h => by simpa [leftC] using h
 | i + 1, k, h1, h2 => by
   have ih := leftC_high i k (by omega) h2
   rcases leftC_step (ns := ns) (m := m) i with ⟨_, e⟩ | ⟨_, e⟩
   · rw [e, mem_less]; exact ⟨ih, by omega⟩
   · rw [e]; exact ih
end
theorem mix_used (x : List FracD) : ∀ (r : List RowD) (y : List FracD), okP y = true → (∀ w ∈ r, 0 ≤ w.k ∧ w.k < 3) → (r.zip y).all (fun p => signOk p.1 p.2) = true → (∀ p ∈ r.zip y, qOf p.2 ≠ 0 → holdsW p.1 x = true) → mixV r y ≤ mixG (atP x) r y
 | [], y, _, _, _, _ => by rw [mixG_nil, mixV_nil]; exact Rat.le_refl
 | _ :: _, [], _, _, _, _ => by simp only [mixG, mixV]; exact Rat.le_refl
 | w :: r, f :: y, ho, hk, hs, hh => by
   simp only [okP, List.all_cons, Bool.and_eq_true] at ho
   simp only [List.zip_cons_cons, List.all_cons, Bool.and_eq_true] at hs
   have ih := mix_used x r y ho.2 (fun u hu => hk u (List.mem_cons_of_mem _ hu)) hs.2 (fun p hp => hh p (by rw [List.zip_cons_cons]; exact List.mem_cons_of_mem _ hp))
   simp only [mixG, mixV]
   by_cases h0 : qOf f = 0
   · rw [h0]; grind
   · have h1 := signOk_le ho.1 hs.1 (hk w List.mem_cons_self).1 (hk w List.mem_cons_self).2 (hh (w, f) (by rw [List.zip_cons_cons]; exact List.mem_cons_self) h0)
     rw [dotD_eq] at h1
     grind
theorem refutes_used {s : SysD} {y x : List FracD} (h : refutesD s y = true) (hl : (x.length : Int) = s.n) (ho : okP x = true) (hn : nonneg x = true) : ∃ p ∈ s.r.zip y, qOf p.2 ≠ 0 ∧ holdsW p.1 x = false := by
 refine Classical.byContradiction fun hno => ?_
 have hall : ∀ p ∈ s.r.zip y, qOf p.2 ≠ 0 → holdsW p.1 x = true := fun p hp h0 => by
  cases hw : holdsW p.1 x
  · exact absurd ⟨p, hp, h0, hw⟩ hno
  · rfl
 simp only [refutesD, Bool.and_eq_true, decide_eq_true_eq] at h
 obtain ⟨h1, h2⟩ := h
 rw [lowerD_val h1, sgnD_ofQ, gt_iff_lt, sgQ_gt] at h2
 obtain ⟨g1, g2, g3⟩ := lowerD_iff.1 h1
 simp only [signedD, Bool.and_eq_true] at g1
 obtain ⟨hr, hlen, hoy⟩ := mulOk_iff.1 g1.1
 have a := mix_used x s.r y hoy (fun w hw => ⟨(rightS_row hr hw).2.1, (rightS_row hr hw).2.2.1⟩) g1.2 hall
 have hg := right_toNat g2
 have b := below_dot (mixT_right hr y) hg ((belowN_iff (mixT_right hr y) hg).1 g3) (fun v => at_nonneg ho hn v)
 rw [mixT_dot hr] at b
 have c : dotS (atP x) ([] : List TermD) = 0 := rfl
 grind
def partD (s : SysD) (rows : List Nat) : SysD := ⟨s.n, rows.filterMap fun i => s.r[i]?⟩
structure Basic (s : SysD) (x : List FracD) : Prop where
 l : (x.length : Int) = s.n
 o : okP x = true
 n : nonneg x = true
theorem part_mem {s : SysD} {rows : List Nat} {w : RowD} : w ∈ (partD s rows).r ↔ ∃ i ∈ rows, s.r[i]? = some w := by simp [partD, List.mem_filterMap]
theorem part_len (s : SysD) (rows : List Nat) : (partD s rows).r.length ≤ rows.length := List.length_filterMap_le _ _
theorem part_right {s : SysD} {rows : List Nat} (hs : rightS s = true) (hl : rows.length ≤ 6000) : rightS (partD s rows) = true := by
 have hn := rightS_n hs
 have h1 := part_len s rows
 simp only [rightS, Bool.and_eq_true, decide_eq_true_eq]
 refine ⟨⟨⟨hn.1, hn.2⟩, by omega⟩, List.all_eq_true.2 fun w hw => ?_⟩
 obtain ⟨i, _, hi⟩ := part_mem.1 hw
 exact rightS_mem hs (List.mem_of_getElem? hi)
theorem part_holds {s : SysD} {rows : List Nat} (hs : rightS s = true) (hl : rows.length ≤ 6000) (x : List FracD) : holdsS (partD s rows) x = true ↔ Basic s x ∧ ∀ i ∈ rows, ∀ w, s.r[i]? = some w → holdsW w x = true := by
 rw [holdsS_iff]
 constructor
 · rintro ⟨_, b, c, d, e⟩
   exact ⟨⟨b, c, d⟩, fun i hi w hw => List.all_eq_true.1 e w (part_mem.2 ⟨i, hi, hw⟩)⟩
 · rintro ⟨⟨b, c, d⟩, e⟩
   refine ⟨part_right hs hl, b, c, d, List.all_eq_true.2 fun w hw => ?_⟩
   obtain ⟨i, hi, h⟩ := part_mem.1 hw
   exact e i hi w h
noncomputable def nsC (s : SysD) (rows : List Nat) : Bool := @decide (∀ x, Basic s x → ∃ i ∈ rows, ∃ w, s.r[i]? = some w ∧ holdsW w x = false) (Classical.propDecidable _)
theorem nsC_iff {s : SysD} {rows : List Nat} : nsC s rows = true ↔ ∀ x, Basic s x → ∃ i ∈ rows, ∃ w, s.r[i]? = some w ∧ holdsW w x = false := by unfold nsC; exact @decide_eq_true_iff _ (Classical.propDecidable _)
theorem nsC_mono (s : SysD) (l l' : List Nat) (h : ∀ k ∈ l, k ∈ l') (hn : nsC s l = true) : nsC s l' = true :=
 nsC_iff.2 fun x hx => by
  obtain ⟨i, hi, w, h1, h2⟩ := nsC_iff.1 hn x hx
  exact ⟨i, h i hi, w, h1, h2⟩
theorem nsC_part {s : SysD} {rows : List Nat} (hs : rightS s = true) (hl : rows.length ≤ 6000) : nsC s rows = true ↔ ∀ x, holdsS (partD s rows) x = false := by
 rw [nsC_iff]
 constructor
 · intro h x
   cases hx : holdsS (partD s rows) x
   · rfl
   · obtain ⟨hb, hr⟩ := (part_holds hs hl x).1 hx
     obtain ⟨i, hi, w, h1, h2⟩ := h x hb
     rw [hr i hi w h1] at h2; cases h2
 · intro h x hb
   refine Classical.byContradiction fun hno => ?_
   have := (part_holds hs hl x).2 ⟨hb, fun i hi w hw => ?_⟩
   · rw [h x] at this; cases this
   · cases hh : holdsW w x
     · exact absurd ⟨i, hi, w, hw, hh⟩ hno
     · rfl
theorem nil_right {s : SysD} (hs : rightS s = true) : rightT [] s.n = true := by
 have := (rightS_n hs).1
 simp only [rightT, Bool.and_eq_true, decide_eq_true_eq]; exact ⟨this, rfl⟩
theorem nsC_least {s : SysD} {rows : List Nat} (hs : rightS s = true) (hl : rows.length ≤ 6000) : nsC s rows = true ↔ (leastE (partD s rows) []).k = 1 := by
 have hp := part_right hs hl
 rw [nsC_part hs hl]
 rcases least_says (least_check hp (nil_right hp)) with ⟨h, q, x, _, hx, _⟩ | ⟨h, hx⟩ | ⟨h, hx⟩
 · rw [h]
   exact ⟨fun h2 => absurd hx (by rw [h2 x]; decide), fun h2 => absurd h2 (by decide)⟩
 · exact ⟨fun _ => h, fun _ => hx⟩
 · obtain ⟨x, hx, _⟩ := hx 0
   rw [h]
   exact ⟨fun h2 => absurd hx (by rw [h2 x]; decide), fun h2 => absurd h2 (by decide)⟩
def usedC (rows : List Nat) (y : List FracD) : List Nat := (rows.zip y).filterMap fun p => if qOf p.2 = 0 then none else some p.1
theorem used_mem {rows : List Nat} {y : List FracD} {i : Nat} : i ∈ usedC rows y ↔ ∃ f, (i, f) ∈ rows.zip y ∧ qOf f ≠ 0 := by
 unfold usedC
 rw [List.mem_filterMap]
 constructor
 · rintro ⟨⟨j, f⟩, h1, h2⟩
   by_cases e : qOf f = 0
   · simp only [e, if_true] at h2; cases h2
   · simp only [e, if_false, Option.some.injEq] at h2; subst h2; exact ⟨f, h1, e⟩
 · rintro ⟨f, h1, h2⟩
   exact ⟨(i, f), h1, by simp only [h2, if_false]⟩
theorem used_sub {rows : List Nat} {y : List FracD} {i : Nat} (h : i ∈ usedC rows y) : i ∈ rows := by
 obtain ⟨f, h1, _⟩ := used_mem.1 h
 exact (List.of_mem_zip h1).1
theorem zip_part {s : SysD} : ∀ {rows : List Nat} {y : List FracD}, (∀ i ∈ rows, i < s.r.length) → ∀ p ∈ (partD s rows).r.zip y, ∃ i, (i, p.2) ∈ rows.zip y ∧ s.r[i]? = some p.1
 | [], _, _, p, h => by simp [partD] at h
 | i :: rows, y, hr, p, h => by
   obtain ⟨w, hw⟩ : ∃ e, s.r[i]? = some e := ⟨_, List.getElem?_eq_getElem (hr i (by simp))⟩
   have e : (partD s (i :: rows)).r = w :: (partD s rows).r := by simp [partD, hw]
   rw [e] at h
   match y, h with
   | [], h => simp at h
   | f :: y, h =>
     rw [List.zip_cons_cons] at h ⊢
     rcases List.mem_cons.1 h with rfl | h
     · exact ⟨i, by simp, hw⟩
     · obtain ⟨j, h1, h2⟩ := zip_part (fun k hk => hr k (by simp [hk])) p h
       exact ⟨j, List.mem_cons_of_mem _ h1, h2⟩
theorem used_ns {s : SysD} {rows : List Nat} {y : List FracD} (hr : ∀ i ∈ rows, i < s.r.length) (h : refutesD (partD s rows) y = true) : nsC s (usedC rows y) = true :=
 nsC_iff.2 fun x hb => by
  obtain ⟨p, hp, h1, h2⟩ := refutes_used h (x := x) hb.l hb.o hb.n
  obtain ⟨i, h3, h4⟩ := zip_part hr p hp
  exact ⟨i, used_mem.2 ⟨p.2, h3, h1⟩, p.1, h4, h2⟩
section
variable {s : SysD} {l : List Nat} (hs : rightS s = true) (hr : ∀ i ∈ l, i < s.r.length) (hl : l.length ≤ 6000)
theorem part_get : ∀ {l : List Nat}, (∀ i ∈ l, i < s.r.length) → ∀ k : Nat, (partD s l).r[k]? = (l[k]?).bind fun i => s.r[i]?
 | [], _, k => by simp [partD]
 | i :: l, hr, k => by
   obtain ⟨w, hw⟩ : ∃ e, s.r[i]? = some e := ⟨_, List.getElem?_eq_getElem (hr i (by simp))⟩
   have e : (partD s (i :: l)).r = w :: (partD s l).r := by simp [partD, hw]
   rw [e]
   cases k with
   | zero => simp [hw]
   | succ k => rw [List.getElem?_cons_succ, List.getElem?_cons_succ]; exact part_get (fun j hj => hr j (by simp [hj])) k
theorem part_length (hr : ∀ i ∈ l, i < s.r.length) : (partD s l).r.length = l.length := by
 refine Nat.le_antisymm (part_len s l) ?_
 refine Nat.le_of_not_lt fun h => ?_
 have h1 := part_get hr (partD s l).r.length
 rw [List.getElem?_eq_none (Nat.le_refl _), List.getElem?_eq_getElem h] at h1
 have h2 := hr _ (List.getElem_mem h)
 simp only [Option.bind_some] at h1
 rw [List.getElem?_eq_getElem h2] at h1
 cases h1
include hr
include hs hl
end
end Go.Proofs.YtpkdhmnlpnijhaaGreat
