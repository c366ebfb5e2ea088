/-
  Layer 12: Conflict.
-/
import Derived.Test.YtpkdhmnlpnijhaaGreatQCwA
namespace Go.Proofs.YtpkdhmnlpnijhaaGreat
set_option linter.unusedVariables false
set_option linter.unusedSimpArgs false
set_option linter.unusedSectionVars false
open Go Go.RowKit
set_option maxRecDepth 100000
set_option maxHeartbeats 32000000
theorem lo3 : ∀ id, id < 3 → ([0, 1, 2] : List Nat).contains id = true := by
 intro id h
 have : id = 0 ∨ id = 1 ∨ id = 2 := by omega
 rcases this with rfl | rfl | rfl <;> rfl
theorem leGo3 {F X : Prop} (f : F) (h : F → X := by
    intro hf
    refine le_head _ _ _ ?_ ?_ ?_ ?_ ?_ (.inr lo3) <;> simp [go_sem, okD, okDs, okBlk, hf] <;>
    (first | (intros; subst_vars; simp [okD, okDs]; done) | (intro _ h; rcases h with ⟨_, _, rfl⟩ | rfl <;> simp [okD, okDs]; done) | (intros; rename_i h; rcases h with ⟨_, _, rfl⟩ | rfl <;> simp [okD, okDs]))) : X := h f
theorem asc_of {L : List Nat} {m : Nat} (hp : L.Pairwise (· < ·)) (hl : ∀ i ∈ L, i < m) : ascR (ints L) m = true := by
 refine List.all_eq_true.2 fun k hk => ?_
 have hk' : k < L.length := by simpa [ints] using List.mem_range.1 hk
 have e : (ints L)[k]? = some ((L[k] : Nat) : Int) := by rw [List.getElem?_map, List.getElem?_eq_getElem hk']; rfl
 have h2 := hl _ (List.getElem_mem hk')
 simp only [ascAt, e, Option.getD_some, Bool.and_eq_true, decide_eq_true_eq]
 refine ⟨?_, by omega⟩
 match k, hk', e with
 | 0, _, _ => simp only [prevI]; omega
 | j + 1, hj, _ =>
   have e2 : (ints L)[j]? = some ((L[j] : Nat) : Int) := by rw [List.getElem?_map, List.getElem?_eq_getElem (by omega)]; rfl
   simp only [prevI, e2, Option.getD_some]
   have := List.pairwise_iff_getElem.1 hp j (j + 1) (by omega) hj (by omega)
   omega
theorem left_pair (ns : List Nat → Bool) (m : Nat) : ∀ i, (leftC ns m i).Pairwise (· < ·)
 | 0 => List.pairwise_lt_range
 | i + 1 => by
   rcases leftC_step (ns := ns) (m := m) i with ⟨_, h⟩ | ⟨_, h⟩
   · rw [h]; exact (left_pair ns m i).filter _
   · rw [h]; exact left_pair ns m i
theorem clo12_c (k i : Int) : ContractN Tryz.prog 123 [dI k, .ep [[dI i]] 0 0] (dB (k == i)) := by
 refine Contract.toN ?_ rfl
 refine inC Tryz.func123 rfl Tryz.ntmps123 ?_
 have hres := Tryz.results123
 exact aGo hres trivial
theorem refU_len {s : SysD} {L : List Nat} : (refU s L).length ≤ L.length := by
 unfold refU
 split
 · unfold usedC
   exact Nat.le_trans (List.length_filterMap_le _ _) (by rw [List.length_zip]; omega)
 · exact Nat.zero_le _
theorem refU_ns {s : SysD} (c : Conf s) {L : List Nat} (ha : ascR (ints L) s.r.length = true) (hn : nsC s L = true) : nsC s (refU s L) = true ∧ ∀ k ∈ refU s L, k ∈ L := by
 obtain ⟨hl, hlt⟩ := asc_ints ha
 obtain ⟨_, h8, _⟩ := few12_rows c.f
 have hp := part_right c.r (rows := L) (by omega)
 have hk := (nsC_least c.r (by omega)).1 hn
 have e : refU s L = usedC L (leastE (partD s L) []).y := by unfold refU; rw [hn]; rfl
 rw [e]
 refine ⟨used_ns hlt ?_, fun k h => used_sub h⟩
 rcases check_cases (least_check hp (right_nilT hp)) with ⟨h, _⟩ | ⟨_, h, _⟩ | ⟨h, _⟩
 · rw [hk] at h; exact absurd h (by decide)
 · exact h
 · rw [hk] at h; exact absurd h (by decide)
noncomputable def confD (s : SysD) : List Nat := if nsC s (List.range s.r.length) then conflictC (nsC s) s.r.length else []
theorem erase_filter {L : List Nat} (hp : L.Pairwise (· < ·)) {i p : Nat} (h : L[p]? = some i) : L.eraseIdx p = L.filter fun k => k != i := by
 have hn : L.Nodup := hp.imp fun h => Nat.ne_of_lt h
 obtain ⟨hlt, he⟩ := List.getElem?_eq_some_iff.1 h
 have hi : L.idxOf i = p := by rw [← he]; exact hn.idxOf_getElem p hlt
 rw [← List.erase_eq_eraseIdx_of_idxOf hi, List.Nodup.erase_eq_filter hn]
section
variable {α : Type} {L : List α} {p : Nat}
def shiftG (L : List α) (p q : Nat) : List α := (L.eraseIdx p).take q ++ L.drop q
theorem shift_start (hp : p < L.length) : shiftG L p p = L := by
 unfold shiftG
 rw [List.eraseIdx_eq_take_drop_succ, List.take_append_of_le_length (by rw [List.length_take]; omega), List.take_take, Nat.min_self, List.take_append_drop]
theorem shift_len (hp : p < L.length) {q : Nat} (hq : q < L.length) : (shiftG L p q).length = L.length := by
 unfold shiftG
 rw [List.length_append, List.length_take, List.length_drop, List.length_eraseIdx_of_lt hp]; omega
theorem shift_at (hp : p < L.length) {q : Nat} (hq : q < L.length) : (shiftG L p q)[q + 1]? = L[q + 1]? := by
 unfold shiftG
 have hl : ((L.eraseIdx p).take q).length = q := by rw [List.length_take, List.length_eraseIdx_of_lt hp]; omega
 rw [List.getElem?_append_right (by omega), hl, List.getElem?_drop]
 congr 1; omega
theorem shift_set (hp : p < L.length) {q : Nat} (hpq : p ≤ q) {y : α} (hy : L[q + 1]? = some y) : (shiftG L p q).set q y = shiftG L p (q + 1) := by
 have hq := (List.getElem?_eq_some_iff.1 hy).1
 unfold shiftG
 have hl : ((L.eraseIdx p).take q).length = q := by rw [List.length_take, List.length_eraseIdx_of_lt hp]; omega
 have he : (L.eraseIdx p)[q]? = some y := by rw [List.getElem?_eraseIdx_of_ge hpq, hy]
 rw [List.set_append_right _ _ (by omega), hl, Nat.sub_self, List.take_add_one, he]
 rw [show (L.drop q).set 0 y = y :: L.drop (q + 1) by rw [List.drop_eq_getElem_cons (show q < L.length by omega)]; rfl]
 simp
theorem shift_end (hp : p < L.length) {n : Nat} (hn : L.length = n + 1) (z : α) : ((shiftG L p n).set n z).take n = L.eraseIdx p := by
 unfold shiftG
 have hl : (L.eraseIdx p).length = n := by rw [List.length_eraseIdx_of_lt hp]; omega
 rw [List.take_of_length_le (l := L.eraseIdx p) (by omega), List.set_append_right _ _ (by omega), List.take_append_of_le_length (by omega), List.take_of_length_le (by omega)]
end
theorem conflict12_no (s : SysD) (sm : smS s) (h : rightS s = false) : Contract Tryz.prog 28 [encS s] (.tup [encInts [], dI 1]) := by
 have hres := Tryz.results28
 have q1 := lrightS_c s sm
 rw [h] at q1
 refine inC Tryz.func28 rfl Tryz.ntmps28 ?_
 refine aGo hres ?_
 repeat with_reducible intro K hK
 rfl
theorem conflict12_c (s : SysD) (c : Conf s) : Contract Tryz.prog 28 [encS s] (.tup [encInts (ints (confD s)), dI 0]) := by
 have hres := Tryz.results28
 have hresC := Tryz.results122
 have hresD := Tryz.results121
 have hresI := Tryz.results196
 obtain ⟨_, h8, _⟩ := few12_rows c.f
 have q1 := lrightS_c s (few12_sm c.f).sm
 rw [c.r] at q1
 obtain ⟨m, em⟩ : ∃ m, s.r.length = m := ⟨_, rfl⟩
 have hm : (s.r.length : Int) = m := by rw [em]
 have hm0 : (0 : Int) ≤ m := by omega
 have hm8 : (m : Int) ≤ 8 := by omega
 have ar : ascR (ints (List.range m)) s.r.length = true := by rw [em]; exact asc_of List.pairwise_lt_range fun i h => List.mem_range.1 h
 have q2 := refuted12_c s c (List.range m) ar
 obtain ⟨F, hF⟩ : ∃ F : Nat → List Int, F = fun k => ints (List.range k) ++ List.replicate (m - k) 0 := ⟨_, rfl⟩
 have F0 : F 0 = List.replicate m 0 := by rw [hF]; rfl
 have F0' : (F 0).map (fun x => [dI x]) = List.replicate m [D.v (.int .i64 0)] := by rw [F0, List.map_replicate]
 have Fl : ∀ k, k ≤ m → (F k).length = m := fun k hk => by rw [hF]; simp [ints]; omega
 have Fm : F m = ints (List.range m) := by rw [hF]; simp
 have Fs : ∀ k, k < m → ((F k).map fun x => [dI x]).set k [dI k] = (F (k + 1)).map fun x => [dI x] := fun k hk => by
  rw [← List.map_set, hF]
  simp only
  congr 1
  rw [List.set_append_right _ _ (by simp [ints])]
  simp only [ints, List.length_map, List.length_range, Nat.sub_self]
  rw [List.range_succ, List.map_append, List.append_assoc, show m - k = (m - (k + 1)) + 1 by omega, List.replicate_succ]
  rfl
 refine inC Tryz.func28 rfl Tryz.ntmps28 ?_
 refine aGo (cj4 hres hm hm0 hm8) ?_
 repeat with_reducible intro K hK
 refine aLoopT (fun (k : Nat) => [(1, .lp 0 0 0 0), (4, .ls 1 1), (20, dI m), (21, dI k)]) (fun k => [(0, ⟨24, 0, 2, [cS s], 0, false⟩), (1, ⟨3, 1, 1, (F k).map fun x => [dI x], 0, false⟩)]) 2 0 (fun k => k ≤ m) (fun k => m - k) 0 (by omega) ?_ ?_
 · exact leGo F0'
 rintro k hk
 have hw := wrap1 k
 have h0 : (0 : Int) ≤ k := by omega
 have kz : (0 : Nat) ≤ k := Nat.zero_le _
 by_cases h1 : (k : Int) < m
 · obtain ⟨y, hy⟩ : ∃ e, (F k)[k]? = some e := ⟨_, List.getElem?_eq_getElem (by rw [Fl k hk]; omega)⟩
   have F1 := Fs k (by omega)
   have F2 := Fl k hk
   refine aGo (cj4 hres h0 kz (cj4 h1 hw hy (cj2 F1 F2))) ?_
   repeat with_reducible intro K hK
   exact loop_end (k + 1) (by omega) (by omega) (by exact leGo F1)
 obtain rfl : k = m := by omega
 clear hw h0 kz hk
 refine aLe ((le_kill 1 rfl).trans (le_temp 4 5)) ?_
 simp only [go_sem, fzT]
 have ez : ∀ M, List.map (List.map (fzT false M 4)) ((F k).map fun x => [dI x]) = (ints (List.range k)).map fun x => [dI x] := fun M => by rw [map_map_id (fun _ => rfl), Fm]
 cases hn : nsC s (List.range k)
 · rw [hn] at q2
   refine aGo (cj3 hres h1 ez) ?_
   repeat with_reducible intro K hK
   rw [show confD s = [] by unfold confD; rw [em, hn]; rfl]
   rfl
 rw [hn] at q2
 refine aGo (cj4 hres h1 ez hm) ?_
 repeat with_reducible intro K hK
 obtain ⟨u1, u2⟩ := refU_ns c ar hn
 have u3 : (refU s (List.range k)).length ≤ 8 := Nat.le_trans refU_len (by rw [List.length_range]; omega)
 generalize refU s (List.range k) = U0 at q2 u1 u2 u3
 clear q1 q2 ez F0 F0' Fl Fm Fs h1
 refine aLoopT (fun (p : Nat × List Nat) => [(1, .lp 0 0 0 0), (4, encInts (ints (leftC (nsC s) k p.1))), (6, encInts (ints p.2)), (39, dI k), (40, dI p.1)]) (fun _ => [(0, ⟨24, 0, 2, [cS s], 0, false⟩)]) 1 0 (fun p => p.1 ≤ k ∧ nsC s p.2 = true ∧ p.2.length ≤ 8 ∧ ∀ j ∈ p.2, j ∈ leftC (nsC s) k p.1) (fun p => k - p.1) (0, U0) ⟨by omega, u1, u3, u2⟩ ?_ ?_
 · have e0 : leftC (nsC s) k 0 = List.range k := rfl
   exact leGo e0
 rintro ⟨i, U⟩ ⟨hi, hU, hU8, hsub⟩
 simp only at hi hU hU8 hsub
 have hw := wrap1 i
 have h0 : (0 : Int) ≤ i := by omega
 by_cases h1 : (i : Int) < k
 rotate_left
 · obtain rfl : i = k := by omega
   refine aGo (cj2 hres h1) ?_
   repeat with_reducible intro K hK
   rw [show confD s = conflictC (nsC s) i by unfold confD; rw [em, hn]; rfl]
 obtain ⟨L, eL⟩ : ∃ L, leftC (nsC s) k i = L := ⟨_, rfl⟩
 have hLp : L.Pairwise (· < ·) := by rw [← eL]; exact left_pair _ _ _
 have hLlt : ∀ j ∈ L, j < k := fun j hj => by rw [← eL] at hj; exact leftC_lt i j hj
 have hiL : i ∈ L := by rw [← eL]; exact leftC_high i i (Nat.le_refl _) (by omega)
 have hstep := leftC_step (ns := nsC s) (m := k) i
 simp only [lessC, eL] at hstep
 rw [eL] at hsub
 have aL : ascR (ints L) s.r.length = true := by rw [em]; exact asc_of hLp hLlt
 have aM : ascR (ints (L.filter fun k => k != i)) s.r.length = true := by rw [em]; exact asc_of (hLp.filter _) fun j hj => hLlt j (List.mem_filter.1 hj).1
 obtain ⟨p, hp⟩ := List.getElem?_of_mem hiL
 have hpl := (List.getElem?_eq_some_iff.1 hp).1
 have hLl : L.length ≤ 8 := by have := asc_len aL; simp [ints] at this; omega
 have her := erase_filter hLp hp
 obtain ⟨n, en⟩ : ∃ n, L.length = n + 1 := ⟨L.length - 1, by omega⟩
 obtain ⟨c0, cs, ec⟩ : ∃ c0 cs, (ints L).map (fun x => [dI x]) = c0 :: cs := by
  match L, en with
  | y :: L', _ => exact ⟨_, _, rfl⟩
 have lT' : cs.length + 1 = n + 1 := by
  have := congrArg List.length ec
  simp [ints] at this; omega
 have e1 : encInts (ints L) = .sl (c0 :: cs) := by show D.sl ((ints L).map fun x => [dI x]) = _; rw [ec]
 have e2 : List.map (List.map datJ) (c0 :: cs) = c0 :: cs := by rw [← ec]; exact map_map_id (fun _ => rfl) _
 have hcell : ∀ x ∈ c0 :: cs, x.length = 1 ∧ x.all D.isCell = true := by
  rw [← ec]
  intro x hx
  obtain ⟨u, _, rfl⟩ := List.mem_map.1 hx
  exact ⟨rfl, rfl⟩
 have hb : ((n : Nat) : Int) ≤ 8 := by omega
 refine aGo (cj4 hres h0 h1 (cj3 eL e1 hw)) ?_
 repeat with_reducible intro K hK
 refine callT_in Tryz.func122 rfl (by kernel_rfl) (by kernel_rfl) (by kernel_rfl) ?_
 rw [Tryz.ntmps122]
 refine aGo (cj4 hresC hb e1 (cj2 e2 lT')) ?_
 repeat with_reducible intro K hK
 refine ⟨⟨⟨hcell c0 (by simp), fun x hx => hcell x (by simp [hx])⟩, by push_cast; omega, by push_cast; omega⟩, ?_⟩
 have ec' := ec.symm
 refine aGo (cj3 hres hresC ec') ?_
 repeat with_reducible intro K hK
 refine callT_in Tryz.func121 rfl (by kernel_rfl) (by kernel_rfl) (by kernel_rfl) ?_
 rw [Tryz.ntmps121]
 refine aGo hresD ?_
 repeat with_reducible intro K hK
 refine callT_in Tryz.func196 rfl (by kernel_rfl) (by kernel_rfl) (by kernel_rfl) ?_
 rw [Tryz.ntmps196]
 have hll : ((ints L).length : Int) = (n : Int) + 1 := by simp [ints]; omega
 have hll2 : (L.length : Int) = (n : Int) + 1 := by omega
 refine aGo (cj3 hresI hll hll2) ?_
 repeat with_reducible intro K hK
 refine aLe (le_kill 1 rfl) ?_
 refine aLoopT (fun (q : Nat) => [(0, .ls 2 1), (1, .clo 123 [.lp 1 0 0 0]), (6, .ls 2 1), (7, dI ((n : Int) + 1)), (8, dI q)]) (fun _ => [(0, ⟨24, 0, 2, [cS s], 0, false⟩), (1, ⟨3, 0, 1, [[dI i]], 0, true⟩), (2, ⟨3, 1, 1, (ints L).map fun x => [dI x], 0, false⟩)]) 3 3 (fun q => q ≤ p) (fun q => p - q) 0 (by omega) ?_ ?_
 · exact leGo3 trivial
 rintro q hq
 have hwq := wrap1 q
 have q0 : (0 : Int) ≤ q := by omega
 have hqn : (q : Int) < (n : Int) + 1 := by omega
 obtain ⟨y, hy⟩ := getE (l := L) (k := q) (by omega)
 have hyI : (ints L)[q]? = some (y : Int) := by rw [List.getElem?_map, hy]; rfl
 have kc := clo12_c y i
 have hne : ∀ (a b : Nat) (u v : Nat), L[a]? = some u → L[b]? = some v → a ≠ b → u ≠ v := fun a b u v ha hb hab he => by
  obtain ⟨h1, h2⟩ := List.getElem?_eq_some_iff.1 ha
  obtain ⟨h3, h4⟩ := List.getElem?_eq_some_iff.1 hb
  rcases Nat.lt_or_gt_of_ne hab with h | h
  · have := List.pairwise_iff_getElem.1 hLp a b h1 h3 h; omega
  · have := List.pairwise_iff_getElem.1 hLp b a h3 h1 h; omega
 by_cases h2 : q = p
 rotate_left
 · have : y ≠ i := hne q p y i hy hp h2
   rw [show ((y : Int) == i) = false from beq_eq_false_iff_ne.2 (fun h => this (by exact_mod_cast h))] at kc
   refine aGo (cj4 hresI q0 hqn (cj2 hyI hwq)) ?_
   repeat with_reducible intro K hK
   exact loop_end (q + 1) (by omega) (by omega) (by exact leGo3 trivial)
 subst h2
 rw [hp] at hy
 obtain rfl := Option.some.inj hy
 rw [show ((i : Int) == i) = true by simp] at kc
 have hpm : ((q : Int) == -1) = false := beq_eq_false_iff_ne.2 (by omega)
 refine aGo (cj4 hresI hresD q0 (cj4 hqn hyI hwq hpm)) ?_
 repeat with_reducible intro K hK
 clear kc hyI hwq hpm
 have g0 := shift_start (L := L) hpl
 refine aLoopT (fun (r : Nat) => [(0, .ls 2 1), (1, .clo 123 [.lp 1 0 0 0]), (5, dI r), (6, dI ((r : Int) + 1))]) (fun r => [(0, ⟨24, 0, 2, [cS s], 0, false⟩), (1, ⟨3, 0, 1, [[dI i]], 0, true⟩), (2, ⟨3, 1, 1, (ints (shiftG L q r)).map fun x => [dI x], 0, false⟩)]) 3 3 (fun r => q ≤ r ∧ r ≤ n) (fun r => n - r) q ⟨by omega, by omega⟩ ?_ ?_
 · exact leGo3 g0
 rintro r ⟨hr1, hr2⟩
 have hw1 := wrap1 r
 have hw2 : IntKind.i64.wrap ((r : Int) + 1 + 1) = (r : Int) + 1 + 1 := wrap_in (by omega) (by omega)
 have r0 : (0 : Int) ≤ r := by omega
 have r1 : (0 : Int) ≤ (r : Int) + 1 := by omega
 have rz : (0 : Nat) ≤ r := Nat.zero_le _
 have rt : ((r : Int) + 1).toNat = r + 1 := by omega
 have rn : (r : Int) < (n : Int) + 1 := by omega
 have hsl : ((shiftG L q r).length : Int) = (n : Int) + 1 := by rw [shift_len hpl (by omega)]; omega
 have hsn : (shiftG L q r).length = n + 1 := by rw [shift_len hpl (by omega)]; omega
 by_cases h3 : (r : Int) + 1 < (n : Int) + 1
 · obtain ⟨y, hy⟩ := getE (l := L) (k := r + 1) (by omega)
   have hyS : (shiftG L q r)[r + 1]? = some y := by rw [shift_at hpl (by omega)]; exact hy
   obtain ⟨z, hz⟩ : ∃ e, (shiftG L q r)[r]? = some e := ⟨_, List.getElem?_eq_getElem (by omega)⟩
   have hset : ((ints (shiftG L q r)).map fun x => [dI x]).set r [dI y] = (ints (shiftG L q (r + 1))).map fun x => [dI x] := by
    rw [← shift_set hpl hr1 hy, ← List.map_set, ints, ints, ← List.map_set]
   have hne2 : y ≠ i := hne (r + 1) q y i hy hp (by omega)
   have kc := clo12_c y i
   rw [show ((y : Int) == i) = false from beq_eq_false_iff_ne.2 (fun h => hne2 (by exact_mod_cast h))] at kc
   refine aGo (cj4 hresD h3 r0 (cj4 r1 rz rt (cj4 rn hsl hyS (cj4 hz hset hw1 hw2)))) ?_
   repeat with_reducible intro K hK
   exact loop_end (r + 1) ⟨by omega, by omega⟩ (by omega) (by exact leGo3 hset)
 obtain rfl : r = n := by omega
 repeat ((fail_if_success (with_reducible refine at_region 11 ?_)); first
     | (refine hK _ ?_; clear hK; clear K)
     | (refine aSeq fun K hK => ?_)
     | (refine aBlock ?_)
     | (refine aSkip ?_)
     | (refine aExit ?_)
     | (refine aRet ?_)
     | (refine aOps _ rfl (by kernel_rfl) ?_)
     | (refine aRunK _ rfl mixed (by kernel_rfl) (by kernel_rfl) fun KE hE => ?_)
     | (refine hE _ _ (by kernel_rfl) (intsOk_no rfl) ?_; clear hE; clear KE)
     | (refine hE _ _ (by kernel_rfl) (intsOk_yes ?hi ?hj) ?_; (case hi => (repeat (refine intsDead_updB rfl ?_)); exact intsDead_nil); (case hj => simp); clear hE; clear KE)
     | (refine aCondT rfl ?hc ?_; case hc => simp only [go_sem, ↓reduceIte, hresD, h3, hsl])
     | (refine aCondF rfl ?hc ?_; case hc => simp only [go_sem, ↓reduceIte, hresD, h3, hsl])
     | (simp only [go_sem, ↓reduceIte, hresD, h3, hsl])
     | (refine And.intro ?ho ?_; (case ho => omega))
     | (clear hK; clear K))
 rename_i hKx
 refine hKx _ ?_
 clear hKx
 refine aSeq fun KA hKA => ?_
 refine aClear1 (i := r) (es := (ints (shiftG L q r)).map fun x => [dI x]) rfl rfl rfl rfl rfl rfl rfl rfl rfl rfl rfl rfl (by kernel_rfl) (by kernel_rfl) (by decide) rfl rfl rfl (by simp [ints]; omega) ?_
 refine hKA _ ?_
 clear hKA
 obtain ⟨M, eM⟩ : ∃ M, (L.filter fun k => k != i) = M := ⟨_, rfl⟩
 obtain ⟨E, eE⟩ : ∃ E : List Int, (ints (shiftG L q r)).set r 0 = E := ⟨_, rfl⟩
 have hes : ((ints (shiftG L q r)).map fun x => [dI x]).set r [dI 0] = E.map fun x => [dI x] := by rw [← eE, List.map_set]
 have hel : (E.length : Int) = (r : Int) + 1 := by rw [← eE, List.length_set, List.length_map]; omega
 have hel2 : (r : Int) ≤ (r : Int) + 1 := by omega
 have hend : (E.map fun x => [dI x]).take r = (ints M).map fun x => [dI x] := by
  rw [← eM, ← her, ← shift_end hpl en 0, ← List.map_take, ← eE]
  simp only [ints, ← List.map_take]
  congr 1
  rw [show (0 : Int) = (fun (i : Nat) => (i : Int)) 0 from rfl, ← List.map_set]
  exact List.map_take.symm
 have hfz : ∀ m, List.map (List.map (fzT false m 4)) (E.map fun x => [dI x]) = E.map fun x => [dI x] := fun m => map_map_id (fun _ => rfl) _
 rw [eM] at hstep aM
 have hns : ∀ j, j ∈ M ↔ j ∈ L ∧ j ≠ i := fun j => by rw [← eM]; simp
 have kc2 := contains12_c (ints U) i (by
  have hlU : (U.length : Int) ≤ 1099511627776 := by omega
  simpa [ints] using hlU)
 simp only [hes]
 refine aLe ((le_kill 2 rfl).trans (le_temp 0 5)) ?_
 simp only [go_sem, fzT]
 clear hne her g0 hsl hsn
 cases hhas : hasI (ints U) i
 · rw [hhas] at kc2
   have hni : i ∉ U := fun h => by rw [hasI_ints.2 h] at hhas; cases hhas
   have hMn : nsC s M = true := nsC_mono s U M (fun j hj => (hns j).2 ⟨hsub j hj, fun e => hni (e ▸ hj)⟩) hU
   have hst : leftC (nsC s) k (i + 1) = M := by
    rcases hstep with ⟨_, h⟩ | ⟨h, _⟩
    · exact h
    · rw [hMn] at h; cases h
   have hsM : ∀ j ∈ U, j ∈ leftC (nsC s) k (i + 1) := fun j hj => by rw [hst]; exact (hns j).2 ⟨hsub j hj, fun e => hni (e ▸ hj)⟩
   refine aGo (cj4 hres hresD r0 (cj4 hel hel2 hend (cj2 hfz hw))) ?_
   repeat with_reducible intro K hK
   exact loop_end (i + 1, U) ⟨by show i + 1 ≤ k; omega, hU, hU8, hsM⟩ (by show k - (i + 1) < k - i; omega) (by exact leGo hst)
 rw [hhas] at kc2
 have kr := refuted12_c s c M aM
 have hM8 : M.length ≤ 8 := by have := asc_len aM; simp [ints] at this; omega
 have hU2 : (refU s M).length ≤ 8 := Nat.le_trans refU_len hM8
 cases hMn : nsC s M
 · rw [hMn] at kr
   have hst : leftC (nsC s) k (i + 1) = L := by
    rcases hstep with ⟨h, _⟩ | ⟨_, h⟩
    · rw [hMn] at h; cases h
    · exact h
   have hsM : ∀ j ∈ U, j ∈ leftC (nsC s) k (i + 1) := fun j hj => by rw [hst]; exact hsub j hj
   refine aGo (cj4 hres hresD r0 (cj4 hel hel2 hend (cj2 hfz hw))) ?_
   repeat with_reducible intro K hK
   exact loop_end (i + 1, U) ⟨by show i + 1 ≤ k; omega, hU, hU8, hsM⟩ (by show k - (i + 1) < k - i; omega) (by exact leGo hst)
 · rw [hMn] at kr
   have hst : leftC (nsC s) k (i + 1) = M := by
    rcases hstep with ⟨_, h⟩ | ⟨h, _⟩
    · exact h
    · rw [hMn] at h; cases h
   obtain ⟨v1, v2⟩ := refU_ns c aM hMn
   have hsM : ∀ j ∈ refU s M, j ∈ leftC (nsC s) k (i + 1) := fun j hj => by rw [hst]; exact v2 j hj
   refine aGo (cj4 hres hresD r0 (cj4 hel hel2 hend (cj2 hfz hw))) ?_
   repeat with_reducible intro K hK
   exact loop_end (i + 1, refU s M) ⟨by show i + 1 ≤ k; omega, v1, hU2, hsM⟩ (by show k - (i + 1) < k - i; omega) (by exact leGo hst)
end Go.Proofs.YtpkdhmnlpnijhaaGreat
