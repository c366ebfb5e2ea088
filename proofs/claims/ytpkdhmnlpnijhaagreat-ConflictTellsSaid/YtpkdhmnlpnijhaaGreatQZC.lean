/-
  The reference's conflict: Possible, Part, All.
-/
import Derived.Test.YtpkdhmnlpnijhaaGreatQZL
import Derived.Test.YtpkdhmnlpnijhaaGreatQSd
import Derived.Test.YtpkdhmnlpnijhaaGreatQZT
import Derived.Test.YtpkdhmnlpnijhaaGreatQCwC
import Derived.Test.YtpkdhmnlpnijhaaGreatQSimI
namespace Go.Proofs.YtpkdhmnlpnijhaaGreat
set_option linter.unusedVariables false
set_option linter.unusedSimpArgs false
set_option linter.unusedSectionVars false
open Go Go.RowKit
set_option maxRecDepth 100000
set_option maxHeartbeats 8000000
theorem rfit12 {s : SysD} (h : fewS s 5 8 4 = true) {L : List Nat} (hl : L.length ≤ 8) : RFit (partD s L) [] 16 16 := by
 obtain ⟨h1, h2, h3⟩ := few12_rows h
 refine ⟨?_, ?_, fun w hw => ?_, ⟨by simp, fun t ht => by cases ht⟩, by decide, by decide⟩
 · have := part_len s L; omega
 · intro _; show s.n ≤ 16; omega
 · obtain ⟨i, _, hi⟩ := part_mem.1 hw
   obtain ⟨a, b, c⟩ := h3 w (mem_at hi)
   exact ⟨by omega, by omega, fun t ht => by have := c t ht; omega⟩
theorem zpossible_c (s : SysD) (h : RFit s [] 16 16) : Contract Tryz.prog 125 [encS s] (dB (rightS s && ((leastE s []).k == 0))) := by
 have hres := Tryz.results125
 have kl : Contract Tryz.prog 10 [encS s, .sl []] (.tup [encO (leastRD s []).1, dI (leastRD s []).2]) := zleast_c s [] h
 cases hr : rightS s
 · rw [show leastRD s [] = (⟨0, zF, [], [], []⟩, 1) by unfold leastRD; rw [hr]; rfl] at kl
   have b1 : ((1 : Int) == 0) = false := rfl
   refine inC Tryz.func125 rfl Tryz.ntmps125 ?_
   exact aGo (cj2 hres b1) trivial
 · rw [show leastRD s [] = (leastR s [], 0) by unfold leastRD; rw [hr, right_nilT hr]; rfl] at kl
   rw [← (leastR_agrees hr (right_nilT hr)).1, Bool.true_and]
   have b1 : ((0 : Int) == 0) = true := rfl
   refine inC Tryz.func125 rfl Tryz.ntmps125 ?_
   exact aGo (cj2 hres b1) trivial
theorem rpart12_c (s : SysD) (rows : List Int) (h : Sm12 s) : Contract Tryz.prog 33 [encS s, encInts rows] (encS (part12 s rows)) := by
 have hres := Tryz.results33
 have hL := h.l
 have q1 := rrightS_c s h.sm
 have q2 := list12_c rows s.r.length (by omega)
 unfold part12
 cases h1 : rightS s
 · rw [h1] at q1
   refine inC Tryz.func33 rfl Tryz.ntmps33 ?_
   refine aGo hres ?_
   repeat with_reducible intro K hK
   rfl
 rw [h1] at q1
 cases h2 : ascR rows s.r.length
 · rw [h2] at q2
   refine inC Tryz.func33 rfl Tryz.ntmps33 ?_
   refine aGo hres ?_
   repeat with_reducible intro K hK
   rfl
 rw [h2] at q2
 rw [Bool.and_self, if_pos rfl]
 have hl2 := asc_len h2
 obtain ⟨F, hF⟩ : ∃ F : Nat → List RowD, F = fun k => (partD s ((rows.take k).map Int.toNat)).r := ⟨_, rfl⟩
 have F0 : F 0 = [] := by rw [hF]; rfl
 have Fs : ∀ k i w, rows[k]? = some i → s.r[i.toNat]? = some w → F (k + 1) = F k ++ [w] := fun k i w hi hw => by
  rw [hF]
  simp only [partD]
  rw [List.take_add_one, hi]
  simp [hw]
 have Fe : partD s (rows.map Int.toNat) = ⟨s.n, F rows.length⟩ := by rw [hF]; simp only [partD]; rw [List.take_of_length_le (Nat.le_refl _)]
 rw [Fe]
 refine inC Tryz.func33 rfl Tryz.ntmps33 ?_
 refine aGo hres ?_
 repeat with_reducible intro K hK
 clear q1 q2
 refine aLe (le_rowIn (b := ⟨24, 0, 2, [[dI s.n, .nil]], 0, false⟩) (e := [dI s.n, .nil]) 2 0 1 61 6 rfl rfl rfl) ?_
 refine aLoopT (fun (k : Nat) => [(1, encInts rows), (2, .lp 0 0 0 0), (4, .lp 1 0 0 0), (5, .lp 2 0 0 0), (6, dI k)])
  (fun k => [(0, ⟨24, 0, 2, [cS s], 0, false⟩), (1, ⟨24, 0, 2, [[dI 0, .nil]], 0, false⟩), (2, ⟨24, 0, 2, [[dI s.n, .ls 3 k]], 0, false⟩), (3, ⟨61, k, 6, (F k).map cW, 0, false⟩)]) 4 0 (fun k => k ≤ rows.length ∧ (F k).length = k) (fun k => rows.length - k) 0 ⟨by omega, by rw [F0]; rfl⟩ ?_ ?_
 · exact leGo F0
 rintro k ⟨hk, hf⟩
 have hw := wrap1 k
 have h0 : (0 : Int) ≤ k := by omega
 by_cases h3 : (k : Int) < rows.length
 · obtain ⟨i, hi⟩ := getE (l := rows) (k := k) (by omega)
   have hib := asc_ge h2 k i hi
   obtain ⟨j, rfl⟩ := Int.eq_ofNat_of_zero_le (show 0 ≤ i by omega)
   have j0 : (0 : Int) ≤ j := by omega
   have j1 : (j : Int) < s.r.length := by omega
   obtain ⟨w, hw2⟩ := getE (l := s.r) (k := j) (by omega)
   have F1 := Fs k j w hi hw2
   refine aGo (cj4 hres h0 j0 (cj4 h3 j1 hi (cj3 hw2 hw hf))) ?_
   repeat with_reducible intro K hK
   exact loop_end (k + 1) ⟨by omega, by rw [F1, List.length_append, hf]; rfl⟩ (by omega) (by exact leGo F1)
 · obtain rfl : k = rows.length := by omega
   refine aLe (le_kill 3 rfl) (aLe (le_cells 2 4 rfl) ?_)
   simp only [go_sem, fzT]
   refine aGo (cj2 hres h3) ?_
   repeat with_reducible intro K hK
   rw [map_map_id (fun _ => rfl)]
theorem all12_c (n : Nat) (hn : n ≤ 64) : Contract Tryz.prog 126 [dI n] (encInts (ints (List.range n))) := by
 have hres := Tryz.results126
 refine inC Tryz.func126 rfl Tryz.ntmps126 ?_
 refine aGo hres ?_
 repeat with_reducible intro K hK
 refine aLoopT (fun (k : Nat) => [(0, dI n), (3, .ls 0 k), (4, dI k)]) (fun k => [(0, ⟨3, k, 1, (ints (List.range k)).map fun x => [dI x], 0, false⟩)]) 1 0 (fun k => k ≤ n) (fun k => n - k) 0 (by omega) ?_ ?_
 · exact leGo trivial
 rintro k hk
 have hw := wrap1 k
 have h0 : (0 : Int) ≤ k := by omega
 by_cases h1 : (k : Int) < n
 · have F1 : List.range (k + 1) = List.range k ++ [k] := List.range_succ
   have F2 : (List.range k).length = k := List.length_range
   refine aGo (cj4 hres h0 h1 (cj2 hw F2)) ?_
   repeat with_reducible intro K hK
   exact loop_end (k + 1) (by omega) (by omega) (by exact leGo F1)
 · obtain rfl : k = n := by omega
   refine aGo (cj2 hres h1) ?_
   repeat with_reducible intro K hK
   rw [map_map_id (fun _ => rfl)]
theorem zposs12_c {s : SysD} (c : Conf s) {L : List Nat} (ha : ascR (ints L) s.r.length = true) : Contract Tryz.prog 125 [encS (partD s L)] (dB (!nsC s L)) := by
 obtain ⟨_, h8, _⟩ := few12_rows c.f
 obtain ⟨hl, _⟩ := asc_ints ha
 have k1 := zpossible_c (partD s L) (rfit12 c.f (by omega))
 rw [part_right c.r (rows := L) (by omega), Bool.true_and] at k1
 have h1 := nsC_least c.r (rows := L) (by omega)
 rcases kind_nil (partD s L) with h | h
 · rw [show (!nsC s L) = true by rw [show nsC s L = false by rw [← Bool.not_eq_true, h1, h]; decide]; rfl]
   rw [h] at k1
   exact k1
 · rw [show (!nsC s L) = false by rw [h1.2 h]; rfl]
   rw [h] at k1
   exact k1
theorem rconflict12_no (s : SysD) (sm : smS s) (h : rightS s = false) : Contract Tryz.prog 29 [encS s] (.tup [encInts [], dI 1]) := by
 have hres := Tryz.results29
 have q1 := rrightS_c s sm
 rw [h] at q1
 refine inC Tryz.func29 rfl Tryz.ntmps29 ?_
 refine aGo hres ?_
 repeat with_reducible intro K hK
 rfl
theorem asc_left (s : SysD) {m : Nat} (hm : m = s.r.length) (k : Nat) : ascR (ints (leftC (nsC s) m k)) s.r.length = true :=
 asc_of (left_pair _ _ _) fun i hi => by have := leftC_lt k i hi; omega
theorem asc_less (s : SysD) {m : Nat} (hm : m = s.r.length) (k : Nat) : ascR (ints (lessC (nsC s) m k)) s.r.length = true :=
 asc_of ((left_pair _ _ _).filter _) fun i hi => by have := leftC_lt k i ((List.mem_filter.1 hi).1); omega
theorem rconflict12_c (s : SysD) (c : Conf s) : Contract Tryz.prog 29 [encS s] (.tup [encInts (ints (confD s)), dI 0]) := by
 have hres := Tryz.results29
 obtain ⟨_, h8, _⟩ := few12_rows c.f
 have sm := few12_sm c.f
 have q1 := rrightS_c s sm.sm
 rw [c.r] at q1
 have ar : ascR (ints (List.range s.r.length)) s.r.length = true := asc_of List.pairwise_lt_range fun i h => List.mem_range.1 h
 have q2 := zposs12_c c ar
 rw [part_range] at q2
 cases hn : nsC s (List.range s.r.length)
 · rw [hn] at q2
   rw [show confD s = [] by unfold confD; rw [hn]; rfl]
   refine inC Tryz.func29 rfl Tryz.ntmps29 ?_
   refine aGo hres ?_
   repeat with_reducible intro K hK
   rfl
 rw [hn] at q2
 rw [show confD s = leftC (nsC s) s.r.length s.r.length by unfold confD; rw [hn]; rfl]
 obtain ⟨m, em⟩ : ∃ m, m = s.r.length := ⟨_, rfl⟩
 have q3 := all12_c m (by omega)
 have hP : ∀ k, Contract Tryz.prog 33 [encS s, encInts (ints (lessC (nsC s) m k))] (encS (partD s (lessC (nsC s) m k))) := fun k => by
  rw [← part12_ints c.r (asc_less s em k)]; exact rpart12_c s _ sm
 have hQ : ∀ k, Contract Tryz.prog 125 [encS (partD s (lessC (nsC s) m k))] (dB (!nsC s (lessC (nsC s) m k))) := fun k => zposs12_c c (asc_less s em k)
 have hW : ∀ k, Contract Tryz.prog 127 [encInts (ints (leftC (nsC s) m k)), dI k] (encInts (ints (lessC (nsC s) m k))) := fun k => without12_c _ k (by
  have := (asc_ints (asc_left s em k)).1; omega)
 have hS : ∀ i : Nat, (nsC s (lessC (nsC s) m i) = true ∧ leftC (nsC s) m (i + 1) = lessC (nsC s) m i) ∨ (nsC s (lessC (nsC s) m i) = false ∧ leftC (nsC s) m (i + 1) = leftC (nsC s) m i) := leftC_step
 have h00 : leftC (nsC s) m 0 = List.range m := rfl
 rw [← em]
 rw [← h00] at q3
 generalize hFL : leftC (nsC s) m = L at *
 have hm : (s.r.length : Int) = m := by rw [em]
 refine inC Tryz.func29 rfl Tryz.ntmps29 ?_
 refine aGo (cj2 hres hm) ?_
 repeat with_reducible intro K hK
 clear q1 q2 q3 h00
 refine aLoopT (fun (k : Nat) => [(1, .lp 0 0 0 0), (4, encInts (ints (L k))), (5, dI k)]) (fun _ => [(0, ⟨24, 0, 2, [cS s], 0, false⟩)]) 1 0 (fun k => k ≤ m) (fun k => m - k) 0 (by omega) ?_ ?_
 · exact leGo trivial
 rintro k hk
 have hw := wrap1 k
 have h0 : (0 : Int) ≤ k := by omega
 by_cases h1 : (k : Int) < m
 · have q1 := hW k
   have q2 := hP k
   have q3 := hQ k
   rcases hS k with ⟨e1, e2⟩ | ⟨e1, e2⟩
   · rw [e1] at q3
     rw [← e2] at q1 q2 q3
     refine aGo (cj4 hres hm h0 (cj2 h1 hw)) ?_
     repeat with_reducible intro K hK
     exact loop_end (k + 1) (by omega) (by omega) (by exact leGo trivial)
   · rw [e1] at q3
     generalize (L k).filter (fun x => x != k) = F at *
     refine aGo (cj4 hres hm h0 (cj2 h1 hw)) ?_
     repeat with_reducible intro K hK
     exact loop_end (k + 1) (by omega) (by omega) (by exact leGo e2)
 · obtain rfl : k = m := by omega
   exact aGo (cj3 hres hm h1) trivial
theorem rcheck12_c (s : SysD) (rows : List Int) (y : List FracD) (hs : tnS s) (hy : tnFs y) (hl : (rows.length : Int) ≤ 1099511627776) : Contract Tryz.prog 35 [encS s, encInts rows, encFs y] (dB (check12 s rows y)) := by
 have hres := Tryz.results35
 have q1 := refutes9_c s y hs hy
 have q2 := list12_c rows s.r.length (by have := hs.1; omega)
 have e0 : check12 s rows y = (refutesD s y && (ascR rows s.r.length && (List.range y.length).all (coverI rows y))) := rfl
 generalize check12 s rows y = R at e0 ⊢
 cases h1 : refutesD s y
 · rw [h1] at q1 e0
   refine inC Tryz.func35 rfl Tryz.ntmps35 ?_
   refine aGo hres ?_
   repeat with_reducible intro K hK
   exact bool_eq (by rw [e0]; rfl)
 have hlow : (lowerD s [] y).2 = true := by
  simp only [refutesD, Bool.and_eq_true] at h1; exact h1.1
 obtain ⟨_, hyl, hyo, _⟩ := lower_iff.1 hlow
 rw [h1] at q1
 rw [h1, Bool.true_and] at e0
 cases h2 : ascR rows s.r.length
 · rw [h2] at q2 e0
   refine inC Tryz.func35 rfl Tryz.ntmps35 ?_
   refine aGo hres ?_
   repeat with_reducible intro K hK
   exact bool_eq (by rw [e0]; rfl)
 rw [h2] at q2
 rw [h2, Bool.true_and] at e0
 have hy64 := hy.1
 refine inC Tryz.func35 rfl Tryz.ntmps35 ?_
 refine aGo hres ?_
 repeat with_reducible intro K hK
 clear q1 q2
 refine aLoopT (fun (k : Nat) => [(1, encInts rows), (2, encFs y), (7, dI k)]) (fun _ => [(0, ⟨24, 0, 2, [cS s], 0, false⟩)]) 1 0 (fun k => k ≤ y.length ∧ (List.range k).all (coverI rows y) = true) (fun k => y.length - k) 0 ⟨by omega, rfl⟩ ?_ ?_
 · exact leGo trivial
 rintro k ⟨hk, hg⟩
 have hw := wrap1 k
 have h0 : (0 : Int) ≤ k := by omega
 by_cases h3 : (k : Int) < y.length
 · obtain ⟨f, hf⟩ := getE (l := y) (k := k) (by omega)
   have of := List.all_eq_true.1 hyo f (mem_at hf)
   have zf := hy.2 f (mem_at hf)
   unfold tnF at zf
   have q3 := rsignF_c f (by omega)
   have q4 := has12_c rows k hl
   have ez : coverI rows y k = (decide (qOf f = 0) || hasI rows k) := by unfold coverI zeroAt; rw [hf]; rfl
   have hsg : sgnD f = 0 ↔ qOf f = 0 := by
    obtain ⟨q, rfl⟩ : ∃ q, f = ofQ q := ⟨_, okF_eq of⟩
    rw [sgnD_ofQ, qOf_ofQ]; exact sgQ_zero
   have nxt : coverI rows y k = true → (List.range (k + 1)).all (coverI rows y) = true := fun h => by
    rw [List.range_succ, List.all_append, hg, Bool.true_and]
    simp only [List.all_cons, List.all_nil, Bool.and_true]; exact h
   cases h5 : hasI rows k
   · rw [h5] at q4
     by_cases h4 : qOf f = 0
     · have e2 : (sgnD f != 0) = false := by simp [hsg.2 h4]
       refine aGo (cj4 hres h0 h3 (cj3 hf hw e2)) ?_
       repeat with_reducible intro K hK
       exact loop_end (k + 1) ⟨by omega, nxt (by rw [ez, decide_eq_true h4]; rfl)⟩ (by omega) (by exact leGo trivial)
     · have e2 : (sgnD f != 0) = true := by simp; exact fun h => h4 (hsg.1 h)
       refine aGo (cj4 hres h0 h3 (cj3 hf hw e2)) ?_
       repeat with_reducible intro K hK
       exact bool_eq (by
        rw [e0]
        exact (List.all_eq_false.2 ⟨k, List.mem_range.2 (by omega), by rw [ez, h5, decide_eq_false h4]; decide⟩).symm)
   · rw [h5] at q4
     refine aGo (cj4 hres h0 h3 (cj2 hf hw)) ?_
     repeat with_reducible intro K hK
     exact loop_end (k + 1) ⟨by omega, nxt (by rw [ez, h5, Bool.or_true])⟩ (by omega) (by exact leGo trivial)
 · obtain rfl : k = y.length := by omega
   refine aGo (cj2 hres h3) ?_
   repeat with_reducible intro K hK
   exact bool_eq (by rw [e0, hg])
theorem samesys8_c (s : SysD) (h1 : (s.r.length : Int) ≤ 4096) (h2 : ∀ w ∈ s.r, (w.t.length : Int) ≤ 4096 ∧ (szF w.v : Int) ≤ 4194304 ∧ ∀ t ∈ w.t, (szF t.f : Int) ≤ 4194304) : Contract Tryz.prog 31 [encS s, encS s] (dB true) := by
 have hres := Tryz.results31
 have n0 : (s.n != s.n) = false := by simp
 have n1 : ((s.r.length : Int) != s.r.length) = false := by simp
 refine inC Tryz.func31 rfl Tryz.ntmps31 ?_
 refine aGo (cj3 hres n0 n1) ?_
 repeat with_reducible intro K hK
 refine aLoopT (fun (k : Nat) => [(2, .lp 0 0 0 0), (3, .lp 1 0 0 0), (5, dI k)]) (fun _ => [(0, ⟨24, 0, 2, [cS s], 0, false⟩), (1, ⟨24, 0, 2, [cS s], 0, false⟩)]) 2 0 (fun k => k ≤ s.r.length) (fun k => s.r.length - k) 0 (by omega) ?_ ?_
 · exact leGo trivial
 rintro k hk
 have hw := wrap1 k
 have h0 : (0 : Int) ≤ k := by omega
 by_cases h3 : (k : Int) < s.r.length
 · obtain ⟨w, hw2⟩ := getE (l := s.r) (k := k) (by omega)
   obtain ⟨w1, w2, w3⟩ := h2 w (mem_at hw2)
   have q1 := rsameT_c w.t w.t (by omega) (fun t ht => by have := w3 t ht; omega)
   rw [sameTs_iff.2 rfl] at q1
   have q2 := (rsameF_c w.v w.v (by omega)).toN rfl
   rw [sameF_self] at q2
   have n2 : (w.k != w.k) = false := by simp
   refine aGo (cj4 hres h0 h3 (cj3 hw2 hw n2)) ?_
   repeat with_reducible intro K hK
   exact loop_end (k + 1) (by omega) (by omega) (by exact leGo trivial)
 · exact aGo (cj2 hres h3) trivial
theorem few12_tn {s : SysD} (h : fewS s 5 8 4 = true) : tnS s := by
 obtain ⟨_, h2, h3⟩ := few12_rows h
 refine ⟨by omega, fun w hw => ?_⟩
 obtain ⟨a, b, c⟩ := h3 w hw
 exact ⟨⟨by omega, fun t ht => by have := c t ht; unfold tnF; omega⟩, by unfold tnF; omega⟩
theorem part12_few {s : SysD} (h : fewS s 5 8 4 = true) (rows : List Int) : ((part12 s rows).r.length : Int) ≤ 4096 ∧ ∀ w ∈ (part12 s rows).r, (w.t.length : Int) ≤ 4096 ∧ (szF w.v : Int) ≤ 4194304 ∧ ∀ t ∈ w.t, (szF t.f : Int) ≤ 4194304 := by
 obtain ⟨_, h2, h3⟩ := few12_rows h
 unfold part12
 by_cases hc : (rightS s && ascR rows s.r.length) = true
 · rw [if_pos hc]
   rw [Bool.and_eq_true] at hc
   have hl := asc_len hc.2
   refine ⟨?_, fun w hw => ?_⟩
   · have := part_len s (rows.map Int.toNat)
     rw [List.length_map] at this
     omega
   · obtain ⟨i, _, hi⟩ := part_mem.1 hw
     obtain ⟨a, b, c⟩ := h3 w (mem_at hi)
     exact ⟨by omega, by omega, fun t ht => by have := c t ht; omega⟩
 · rw [if_neg hc]
   exact ⟨by decide, fun w hw => by cases hw⟩
theorem tells12_c (k0 : Contract Tryz.prog 25 [] (dB true)) (s : SysD) (rows : List Int) (y : List FracD) : Contract Tryz.prog 5 [encS s, encInts rows, encFs y] (dB true) := by
 have hres := Tryz.results5
 have q1 := few12_c s
 cases h1 : fewS s 5 8 4
 · rw [h1] at q1
   refine inC Tryz.func5 rfl Tryz.ntmps5 ?_
   exact aGo hres trivial
 rw [h1] at q1
 by_cases h2 : (rows.length : Int) > 12
 · refine inC Tryz.func5 rfl Tryz.ntmps5 ?_
   exact aGo (cj2 hres h2) trivial
 have q3 := shorts9_c y 12 (by decide)
 cases h3 : fewP y 12 6
 · rw [h3] at q3
   refine inC Tryz.func5 rfl Tryz.ntmps5 ?_
   exact aGo (cj2 hres h2) trivial
 rw [h3] at q3
 have sm := few12_sm h1
 have tS := few12_tn h1
 have ty : tnFs y := ⟨by have := (fewP_sz h3).1; omega, fun f hf => by have := (fewP_sz h3).2 f hf; unfold tnF; omega⟩
 have hl : (rows.length : Int) ≤ 1099511627776 := by omega
 have pf := part12_few h1 rows
 have p1 := part12_c s rows sm hl
 have p2 := rpart12_c s rows sm
 have p3 := samesys8_c (part12 s rows) pf.1 pf.2
 have c1 := check12_c s rows y tS ty hl
 have c2 := rcheck12_c s rows y tS ty hl
 have hb : (check12 s rows y == check12 s rows y) = true := by simp
 obtain ⟨C, E, k1, k2, hC⟩ : ∃ (C : List Int) (E : Int), Contract Tryz.prog 28 [encS s] (.tup [encInts C, dI E]) ∧ Contract Tryz.prog 29 [encS s] (.tup [encInts C, dI E]) ∧ (C.length : Int) ≤ 4096 := by
  cases hr : rightS s
  · exact ⟨[], 1, conflict12_no s sm.sm hr, rconflict12_no s sm.sm hr, by decide⟩
  · have c : Conf s := ⟨hr, h1⟩
    refine ⟨_, _, conflict12_c s c, rconflict12_c s c, ?_⟩
    obtain ⟨_, h8, _⟩ := few12_rows h1
    unfold confD
    split
    · have h9 := (asc_ints (asc_left s rfl s.r.length)).1
      simp only [ints, List.length_map]
      show ((leftC (nsC s) s.r.length s.r.length).length : Int) ≤ 4096
      omega
    · decide
 have k3 := sameInts_c C hC
 have he : (E == E) = true := by simp
 generalize check12 s rows y = V at *
 generalize part12 s rows = W at *
 refine inC Tryz.func5 rfl Tryz.ntmps5 ?_
 exact aGo (cj4 hres h2 hb he) trivial
end Go.Proofs.YtpkdhmnlpnijhaaGreat
